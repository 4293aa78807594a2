/- The law WalKeeps, walked. -/
import Derived.Test.YtbpecfbliglboaaWgC
namespace Go.Proofs.Ytbpecfbliglboaa
open Go.RowKit
set_option linter.unusedVariables false
set_option linter.unusedSimpArgs false
attribute [local irreducible] Stu.wpR Stu.relOp
theorem addX_len (x : WalMath.Lg) (body : List UInt8) : (WalMath.addX x body).buf.length = x.buf.length + 16 + body.length := addB_len x body
theorem addX_base (x : WalMath.Lg) (body : List UInt8) (h : x.base ≤ x.buf.length) : (WalMath.addX x body).buf.take (WalMath.addX x body).base = x.buf.take x.base := by
  show (x.buf ++ _).take x.base = _
  rw [List.take_append_of_le_length h]
theorem keepX_base (x : WalMath.Lg) (body : List UInt8) : (WalMath.keepX x body).buf.take (WalMath.keepX x body).base = body := List.take_of_length_le (Nat.le_refl _)
set_option maxRecDepth 20000 in
set_option maxHeartbeats 8000000 in
theorem WalKeeps_ok (A1 A2 A3 : Option Addr) (c1 c2 c3 : Nat) (la bs : List (List UInt8)) (base : List UInt8) (w : World) (ra : Rdl w A1 la) (hc1 : la.length ≤ c1) (rb : Rd w A2 base) (hc2 : base.length ≤ c2) (rc : Rdl w A3 bs) (hc3 : bs.length ≤ c3) (h1 : la.length ≤ 10) (h2 : base.length ≤ 1000) (h3 : bs.length ≤ 10) :
    Calls Try.prog 10 #[.slice A1 la.length c1, .slice A2 base.length c2, .slice A3 bs.length c3] w fun e w' => e = .returned (.bool true) ∧ Below w.heap.size w w' := by
  obtain ⟨n1, hn1⟩ : ∃ n, n = la.length := ⟨_, rfl⟩
  obtain ⟨n2, hn2⟩ : ∃ n, n = base.length := ⟨_, rfl⟩
  obtain ⟨n3, hn3⟩ : ∃ n, n = bs.length := ⟨_, rfl⟩
  rw [← hn1] at hc1 h1 ⊢; rw [← hn2] at hc2 h2 ⊢; rw [← hn3] at hc3 h3 ⊢
  have HN1 := Lib.hid hn1; have HN2 := Lib.hid hn2; have HN3 := Lib.hid hn3; have HRA := Lib.hid ra; have HRB := Lib.hid rb; have HRC := Lib.hid rc
  have i1 : ¬ (10 : Int) < (n1 : Int) := by omega
  have i2 : ¬ (1000 : Int) < (n2 : Int) := by omega
  have i3 : ¬ (10 : Int) < (n3 : Int) := by omega
  have HROOM : Hid (WalMath.room 400 = 101888) := Lib.hid rfl
  clear hn1 hn2 hn3 ra rb rc
  go_enter Try.func10, Try.ntmps10
  go_wp2_with fail
  refine (awake6_any w).mono ?_
  rintro e w1 ⟨rfl, hb1⟩
  have HB1 := Lib.hid hb1
  clear hb1
  go_wp2_with fail
  refine (lk_new w1 400 (by decide) (by decide)).mono ?_
  rintro e w2 ⟨g, d1, rfl, hd1, ho1, hf1, -⟩
  have HO := Lib.hid (lk_open hd1 ho1 hf1)
  clear hd1 ho1 hf1
  go_wp2_with fail
  refine HO.out.mono ?_
  rintro e w3 ⟨gl, rfl, hl3, -⟩
  have HL3 := Lib.hid hl3
  clear hl3 HO
  go_wp2_with fail
  rename World => wA
  go_loopw [11] (fun vi wr => ∃ k : Nat, k ≤ n1 ∧ vi = .int .i64 k ∧ ∃ d x, LK w1 wr w1.heap.size g gl 400 d x ∧ x.buf.length ≤ 516 * k) (fun vi _ => n1 - (intOf vi).toNat)
  case atStart => exact ⟨0, by omega, rfl, d1, _, HL3.out, by simp [WalMath.empty]⟩
  case round =>
    obtain ⟨k, hk, rfl, d, x, hl, hxl⟩ := hrel
    have HL := Lib.hid hl; have HXL := Lib.hid hxl
    have hbw := below_then HB1.out HB1.out.size hl.1.ds.bel
    have HBW := Lib.hid hbw
    clear hl hxl
    by_cases hlt : k < n1
    · have hltI : (k : Int) < (n1 : Int) := by omega
      have hka : k < la.length := by rw [← HN1.out]; exact hlt
      obtain ⟨a, A', c', rfl, hcell, hcc, hrd⟩ := (HRA.out.below hbw).at_ k hka
      have hrd0 : Rd w A' (la[k]'hka) := by
        obtain ⟨a2, A2', c2', e2, hcell2, _, hrd2⟩ := HRA.out.at_ k hka
        injection e2 with e2
        subst e2
        have := cell_below hbw hcell2
        rw [hcell] at this
        injection this with this
        injection this with q1 q2 q3
        subst q1
        exact hrd2
      obtain ⟨body, hbody⟩ : ∃ b, b = la[k]'hka := ⟨_, rfl⟩
      rw [← hbody] at hcell hcc hrd hrd0
      obtain ⟨L, hLe⟩ : ∃ L, L = body.length := ⟨_, rfl⟩
      rw [← hLe] at hcell hcc
      have HRD0 := Lib.hid hrd0; have HLE := Lib.hid hLe
      have hwk : IntKind.i64.wrap ((k : Int) + 1) = ((k + 1 : Nat) : Int) := by rw [IntKind.wrap_i64]; omega
      clear hbody hrd hrd0 hbw hLe
      by_cases hL : L ≤ 500
      · have hLI : ¬ (500 : Int) < (L : Int) := by omega
        have hadd := lk_add (m := L) (c := c') HL.out (fun W hb _ => HRD0.out.below (below_then HB1.out HB1.out.size hb)) HLE.out (by omega) (by rw [HROOM.out, addB_len, ← HLE.out]; have := HXL.out; omega)
        have HADD := Lib.hid hadd
        clear hadd
        go_wp2_with fail
        refine HADD.out.mono ?_
        rintro e w4 ⟨rfl, ⟨d4, hl4⟩, -⟩
        have HL4 := Lib.hid hl4
        have HXL4 : Hid ((WalMath.addX x body).buf.length ≤ 516 * (k + 1)) := Lib.hid (by rw [addX_len, ← HLE.out]; have := HXL.out; omega)
        clear hl4 hcell HADD
        go_wp2
        go_roundw
        case rel => exact ⟨k + 1, by omega, by go_num, d4, _, HL4.out, HXL4.out⟩
        case measure => simp [intOf]; omega
      · have hLI : (500 : Int) < (L : Int) := by omega
        go_wp2
        go_ret
        exact ⟨rfl, HBW.out⟩
    · have hltI : ¬ (k : Int) < (n1 : Int) := by omega
      have hkeep := lk_keep (m := n2) (c := c2) HL.out (HRB.out.below hbw) HN2.out (by omega) (by rw [HROOM.out, ← HN2.out]; omega)
      have HKP := Lib.hid hkeep
      clear hkeep hbw HBW
      go_wp2_with fail
      refine HKP.out.mono ?_
      rintro e w4 ⟨rfl, ⟨d4, hl4⟩, -⟩
      have HL4 := Lib.hid hl4
      have hal := lk_all hl4
      rw [show (WalMath.keepX x base).all = [] from rfl] at hal
      have HAL := Lib.hid hal
      clear hal hl4 HKP
      go_wp2_with fail
      refine HAL.out.mono ?_
      rintro e w5 ⟨v5, rfl, hs5, hb5⟩
      obtain ⟨A5, c5, rfl, _⟩ := hs5.shp
      have HL5 := Lib.hid (HL4.out.below hb5)
      clear hs5 hb5 HAL HL4
      go_wp2_with fail
      rename World => wB
      go_loopw [12, 13] (fun vw vj wr => ∃ k : Nat, k ≤ n3 ∧ vj = .int .i64 k ∧ (∃ d x, LK w1 wr w1.heap.size g gl 400 d x ∧ x.buf.length ≤ 1000 + 516 * k ∧ x.all = bs.take k ∧ x.buf.take x.base = base) ∧ Sow wr w1.heap.size vw (bs.take k)) (fun _ vj _ => n3 - (intOf vj).toNat)
      case atStart => exact ⟨0, by omega, rfl, ⟨d4, _, HL5.out, by show base.length ≤ _; rw [← HN2.out]; omega, rfl, keepX_base x base⟩, Sow.nil _ _⟩
      case round =>
        rename World => wr
        obtain ⟨j, hj, rfl, ⟨d6, x6, hl6, hxl6, hxa6, hxb6⟩, hsw⟩ := hrel
        have HL6 := Lib.hid hl6; have HXL6 := Lib.hid hxl6; have HXA6 := Lib.hid hxa6; have HXB6 := Lib.hid hxb6; have HSW := Lib.hid hsw
        obtain ⟨Aw, cw, rfl, hcw⟩ := hsw.shp
        have htl : (bs.take j).length = j := by rw [List.length_take, ← HN3.out]; omega
        rw [htl] at hcw HSW ⊢
        have HTL := Lib.hid htl
        have hbw := below_then HB1.out HB1.out.size hl6.1.ds.bel
        have HBW := Lib.hid hbw
        clear hl6 hxl6 hxa6 hxb6 hsw htl HL5
        by_cases hlt3 : j < n3
        · have hltI3 : (j : Int) < (n3 : Int) := by omega
          have hka : j < bs.length := by rw [← HN3.out]; exact hlt3
          obtain ⟨a, A', c', rfl, hcell0, hcc, hrd0⟩ := HRC.out.at_ j hka
          have htk := take_succ_at bs j hka
          obtain ⟨body, hbody⟩ : ∃ b, b = bs[j]'hka := ⟨_, rfl⟩
          rw [← hbody] at hcell0 hcc hrd0 htk
          obtain ⟨L, hLe⟩ : ∃ L, L = body.length := ⟨_, rfl⟩
          rw [← hLe] at hcell0 hcc
          have hcell := cell_below hbw hcell0
          have HRD0 := Lib.hid hrd0; have HLE := Lib.hid hLe; have HTK := Lib.hid htk; have HCELL := Lib.hid hcell0
          have hwk : IntKind.i64.wrap ((j : Int) + 1) = ((j + 1 : Nat) : Int) := by rw [IntKind.wrap_i64]; omega
          clear hbody hrd0 hbw hLe htk hcell0
          by_cases hL : L ≤ 500
          · have hLI : ¬ (500 : Int) < (L : Int) := by omega
            have hadd := lk_add (m := L) (c := c') HL6.out (fun W hb _ => HRD0.out.below (below_then HB1.out HB1.out.size hb)) HLE.out (by omega) (by rw [HROOM.out, addB_len, ← HLE.out]; have := HXL6.out; omega)
            have HADD := Lib.hid hadd
            clear hadd
            go_wp2_with fail
            refine HADD.out.mono ?_
            rintro e w7 ⟨rfl, ⟨d7, hl7⟩, htl7⟩
            have hbw7 := below_then HB1.out HB1.out.size hl7.1.ds.bel
            have hcell7 := cell_below hbw7 HCELL.out
            have hcv7 : (convert 33 9 (.slice A' L c')).run Try.prog w7 = .ok (.string ⟨body.toArray⟩) w7 := (HRD0.out.below hbw7).str L c' HLE.out.symm
            obtain ⟨v8, w8, hrun, hs8, hb8, hg8⟩ := sow_app (s := body) (HSW.out.tl htl7) hl7.1.ds.sz (by rw [HTL.out]; omega)
            have hl8 : LK w1 w8 w1.heap.size g gl 400 d7 (WalMath.addX x6 body) := ⟨(hl7.1.below (below_new w7 _)).sow ((HSW.out.tl htl7).below (below_new w7 _)) (Nat.le_refl _) hg8, hl7.2⟩
            have HREL : Hid ((∃ d x, LK w1 w8 w1.heap.size g gl 400 d x ∧ x.buf.length ≤ 1000 + 516 * (j + 1) ∧ x.all = bs.take (j + 1) ∧ x.buf.take x.base = base) ∧ Sow w8 w1.heap.size v8 (bs.take (j + 1))) := Lib.hid ⟨⟨d7, _, hl8, by rw [addX_len, ← HLE.out]; have := HXL6.out; omega, by show x6.all ++ [body] = _; rw [HXA6.out, HTK.out], by rw [addX_base x6 body (HL6.out.2.1.small.1)]; exact HXB6.out⟩, by rw [HTK.out]; exact hs8⟩
            have HRUN := Lib.hid hrun
            clear hl7 htl7 hbw7 hrun hs8 hb8 hg8 hl8 hcell HADD
            go_wp2_with (at_builtin; refine Lib.wpList_append_run _ rfl _ _ _ _ rfl _ _ rfl rfl _ _ HRUN.out ?_)
            go_roundw
            case rel => exact ⟨j + 1, by omega, by go_num, HREL.out.1, HREL.out.2⟩
            case measure => simp [intOf]; omega
          · have hLI : (500 : Int) < (L : Int) := by omega
            go_wp2
            go_ret
            exact ⟨rfl, HBW.out⟩
        · have hltI3 : ¬ (j : Int) < (n3 : Int) := by omega
          have htk : bs.take j = bs := List.take_of_length_le (by rw [← HN3.out]; omega)
          have hsw := HSW.out; have hxa := HXA6.out
          rw [htk] at hsw hxa
          have HSW2 := Lib.hid hsw; have HXA := Lib.hid hxa
          have HOP := Lib.hid (lk_open HL6.out.1.ds HL6.out.2.1 HL6.out.2.2)
          clear hsw hxa htk hbw HBW
          go_wp2_with fail
          refine HOP.out.mono ?_
          rintro e w9 ⟨gm, rfl, hl9, hb9, -⟩
          have HL9 := Lib.hid hl9; have HLL := Lib.hid (HL6.out.below hb9); have HSW9 := Lib.hid (HSW2.out.below hb9)
          clear hl9 hb9 HOP
          go_wp2_with fail
          obtain ⟨BS, hBS⟩ : ∃ s : ByteArray, s = ⟨base.toArray⟩ := ⟨_, rfl⟩
          have HBS := Lib.hid hBS
          obtain ⟨S, hS⟩ : ∃ S, S = w9.heap.size := ⟨_, rfl⟩
          have HW : Hid (∀ W, Gb w9.drew W → LK w1 W w1.heap.size g gm 400 d6 x6 ∧ LK w1 W w1.heap.size g gl 400 d6 x6 ∧ Rd W A2 base ∧ StR W (.slice Aw j cw) bs ∧ S ≤ W.heap.size) := Lib.hid fun W hW => by
            have hb := Below.trans (Below.drew (Below.refl _ w9)) hW
            refine ⟨HL9.out.below hb, HLL.out.below hb, HRB.out.below (below_then HB1.out HB1.out.size (HL9.out.below hb).1.ds.bel), ?_, by rw [hS]; exact hb.size⟩
            have := (HSW9.out.below hb).str
            exact this
          have hjn : bs.length = j := by rw [← HN3.out]; omega
          have HJN := Lib.hid hjn
          have HSB : Hid (Below w.heap.size w w9) := Lib.hid (below_then HB1.out HB1.out.size HL9.out.1.ds.bel)
          have hj6 : j ≤ 1000000 := by omega
          clear hBS hS hjn HL9 HLL HSW9 HL6 HSW HSW2
          refine Stu.wp_region_stu _ (Stu.mkT [(8, clG n2 base), (9, vS (.string BS)), (11, vS (.string BS)), (16, alS S j bs), (18, vS (.bool true)), (22, clG n2 base), (23, vS (.string BS)), (25, vS (.string BS)), (30, alS S j bs), (32, vS (.bool true))]) (fun _ => True) [] Gb.refl Gb.trans (fun _ _ h => h) (fun _ _ _ _ => trivial) trivial (Stu.mkT_ks _ (by show List.Nodup [8, 9, 11, 16, 18, 22, 23, 25, 30, 32]; decide) _ rfl) (by kernel_rfl) (by kernel_rfl) (by kernel_rfl) ?_
          repeat (refine Stu.wpR_plain ?_ (by rfl) (by rfl) (fun K hK => ?_); (focus (first | (simp only [Region.wanted]; done) | (go_simp; done))); apply Exists.intro; refine ⟨fun W hW => ?_, ?_⟩; (go_simp; (try simp only [Stu.plainUpon_value, true_and]); rfl); go_simp; refine hK _ ?_; clear hK K)
          (refine Stu.wpR_spg (by rfl) (by rfl) ?_ ?_ (fun W hW hF => ?_) (fun K v hv hK => ?_); (focus (first | (simp only [Region.wanted]; done) | (go_simp; done))); (focus (exact ⟨_, none, _, rfl, Nat.le_refl _⟩)); (go_simp; simp only [Stu.relUpon_enter]; exact ba_rel (HW.out W hW).1 base HXB6.out HN2.out.symm _); (obtain ⟨A8, c8, rfl, hc8⟩ := hv); go_simp; refine hK _ ?_; clear hK K)
          (refine Stu.wpR_spg (by rfl) (by rfl) ?_ ?_ (fun W hW hF => ?_) (fun K v hv hK => ?_); (focus (first | (simp only [Region.wanted]; done) | (go_simp; done))); (focus (exact ⟨_, rfl⟩)); (have hcw := (show Sl W (.slice A8 n2 c8) base from hF 8 rfl).str; rw [← HBS.out] at hcw; go_simp; exact ⟨Gb.refl _, rfl, trivial⟩); (cases hv); go_simp; refine hK _ ?_; clear hK K)
          repeat (refine Stu.wpR_plain ?_ (by rfl) (by rfl) (fun K hK => ?_); (focus (first | (simp only [Region.wanted]; done) | (go_simp; done))); apply Exists.intro; refine ⟨fun W hW => ?_, ?_⟩; (go_simp; (try simp only [Stu.plainUpon_value, true_and]); rfl); go_simp; refine hK _ ?_; clear hK K)
          (refine Stu.wpR_spg (by rfl) (by rfl) ?_ ?_ (fun W hW hF => ?_) (fun K v hv hK => ?_); (focus (first | (simp only [Region.wanted]; done) | (go_simp; done))); (focus (exact ⟨_, rfl⟩)); (have hcw := (HW.out W hW).2.2.1.str n2 c2 HN2.out.symm; rw [← HBS.out] at hcw; go_simp; exact ⟨Gb.refl _, rfl, trivial⟩); (cases hv); go_simp; refine hK _ ?_; clear hK K)
          repeat (refine Stu.wpR_plain ?_ (by rfl) (by rfl) (fun K hK => ?_); (focus (first | (simp only [Region.wanted]; done) | (go_simp; done))); apply Exists.intro; refine ⟨fun W hW => ?_, ?_⟩; (go_simp; (try simp only [Stu.plainUpon_value, true_and]); rfl); go_simp; refine hK _ ?_; clear hK K)
          (refine Stu.wpR_spg (by rfl) (by rfl) ?_ ?_ (fun W hW hF => ?_) (fun K v hv hK => ?_); (focus (first | (simp only [Region.wanted]; done) | (go_simp; done))); (focus (exact ⟨_, none, _, rfl, Nat.le_refl _⟩)); (go_simp; simp only [Stu.relUpon_enter]; exact al_rel (HW.out W hW).1 bs HXA.out HJN.out (HW.out W hW).2.2.2.2 _); (obtain ⟨A16, c16, rfl, hc16⟩ := hv); go_simp; refine hK _ ?_; clear hK K)
          repeat (refine Stu.wpR_plain ?_ (by rfl) (by rfl) (fun K hK => ?_); (focus (first | (simp only [Region.wanted]; done) | (go_simp; done))); apply Exists.intro; refine ⟨fun W hW => ?_, ?_⟩; (go_simp; (try simp only [Stu.plainUpon_value, true_and]); rfl); go_simp; refine hK _ ?_; clear hK K)
          (refine Stu.wpR_spg (by rfl) (by rfl) ?_ ?_ (fun W hW hF => ?_) (fun K v hv hK => ?_); (focus (first | (simp only [Region.wanted]; done) | (go_simp; done))); (focus (exact ⟨_, rfl⟩)); (go_simp; simp only [Stu.relUpon_enter]; exact ro_rel W S A16 Aw j j c16 cw bs bs HJN.out HJN.out (show Bso W S (.slice A16 j c16) bs from hF 16 rfl) (HW.out W hW).2.2.2.1 hj6 true (decide_eq_true rfl) _); (cases hv); go_simp; refine hK _ ?_; clear hK K)
          repeat (refine Stu.wpR_plain ?_ (by rfl) (by rfl) (fun K hK => ?_); (focus (first | (simp only [Region.wanted]; done) | (go_simp; done))); apply Exists.intro; refine ⟨fun W hW => ?_, ?_⟩; (go_simp; (try simp only [Stu.plainUpon_value, true_and]); rfl); go_simp; refine hK _ ?_; clear hK K)
          (refine Stu.wpR_spg (by rfl) (by rfl) ?_ ?_ (fun W hW hF => ?_) (fun K v hv hK => ?_); (focus (first | (simp only [Region.wanted]; done) | (go_simp; done))); (focus (exact ⟨_, none, _, rfl, Nat.le_refl _⟩)); (go_simp; simp only [Stu.relUpon_enter]; exact ba_rel (HW.out W hW).2.1 base HXB6.out HN2.out.symm _); (obtain ⟨A22, c22, rfl, hc22⟩ := hv); go_simp; refine hK _ ?_; clear hK K)
          (refine Stu.wpR_spg (by rfl) (by rfl) ?_ ?_ (fun W hW hF => ?_) (fun K v hv hK => ?_); (focus (first | (simp only [Region.wanted]; done) | (go_simp; done))); (focus (exact ⟨_, rfl⟩)); (have hcw := (show Sl W (.slice A22 n2 c22) base from hF 22 rfl).str; rw [← HBS.out] at hcw; go_simp; exact ⟨Gb.refl _, rfl, trivial⟩); (cases hv); go_simp; refine hK _ ?_; clear hK K)
          repeat (refine Stu.wpR_plain ?_ (by rfl) (by rfl) (fun K hK => ?_); (focus (first | (simp only [Region.wanted]; done) | (go_simp; done))); apply Exists.intro; refine ⟨fun W hW => ?_, ?_⟩; (go_simp; (try simp only [Stu.plainUpon_value, true_and]); rfl); go_simp; refine hK _ ?_; clear hK K)
          (refine Stu.wpR_spg (by rfl) (by rfl) ?_ ?_ (fun W hW hF => ?_) (fun K v hv hK => ?_); (focus (first | (simp only [Region.wanted]; done) | (go_simp; done))); (focus (exact ⟨_, rfl⟩)); (have hcw := (HW.out W hW).2.2.1.str n2 c2 HN2.out.symm; rw [← HBS.out] at hcw; go_simp; exact ⟨Gb.refl _, rfl, trivial⟩); (cases hv); go_simp; refine hK _ ?_; clear hK K)
          repeat (refine Stu.wpR_plain ?_ (by rfl) (by rfl) (fun K hK => ?_); (focus (first | (simp only [Region.wanted]; done) | (go_simp; done))); apply Exists.intro; refine ⟨fun W hW => ?_, ?_⟩; (go_simp; (try simp only [Stu.plainUpon_value, true_and]); rfl); go_simp; refine hK _ ?_; clear hK K)
          (refine Stu.wpR_spg (by rfl) (by rfl) ?_ ?_ (fun W hW hF => ?_) (fun K v hv hK => ?_); (focus (first | (simp only [Region.wanted]; done) | (go_simp; done))); (focus (exact ⟨_, none, _, rfl, Nat.le_refl _⟩)); (go_simp; simp only [Stu.relUpon_enter]; exact al_rel (HW.out W hW).2.1 bs HXA.out HJN.out (HW.out W hW).2.2.2.2 _); (obtain ⟨A30, c30, rfl, hc30⟩ := hv); go_simp; refine hK _ ?_; clear hK K)
          repeat (refine Stu.wpR_plain ?_ (by rfl) (by rfl) (fun K hK => ?_); (focus (first | (simp only [Region.wanted]; done) | (go_simp; done))); apply Exists.intro; refine ⟨fun W hW => ?_, ?_⟩; (go_simp; (try simp only [Stu.plainUpon_value, true_and]); rfl); go_simp; refine hK _ ?_; clear hK K)
          (refine Stu.wpR_spg (by rfl) (by rfl) ?_ ?_ (fun W hW hF => ?_) (fun K v hv hK => ?_); (focus (first | (simp only [Region.wanted]; done) | (go_simp; done))); (focus (exact ⟨_, rfl⟩)); (go_simp; simp only [Stu.relUpon_enter]; exact ro_rel W S A30 Aw j j c30 cw bs bs HJN.out HJN.out (show Bso W S (.slice A30 j c30) bs from hF 30 rfl) (HW.out W hW).2.2.2.1 hj6 true (decide_eq_true rfl) _); (cases hv); go_simp; refine hK _ ?_; clear hK K)
          repeat (refine Stu.wpR_plain ?_ (by rfl) (by rfl) (fun K hK => ?_); (focus (first | (simp only [Region.wanted]; done) | (go_simp; done))); apply Exists.intro; refine ⟨fun W hW => ?_, ?_⟩; (go_simp; (try simp only [Stu.plainUpon_value, true_and]); rfl); go_simp; refine hK _ ?_; clear hK K)
          refine Stu.wpR_nil (fun W hW hU hF => ?_)
          have HBW := Lib.hid (HSB.out.trans ((Below.trans (Below.drew (Below.refl _ w9)) hW).mono HSB.out.size))
          clear hW hU hF HW
          go_wp2
          go_ret
          exact ⟨rfl, HBW.out⟩
set_option maxRecDepth 20000 in
theorem WalKeeps_walk (A1 : Option Addr) (c1 : Nat) (la : List (List UInt8)) (A2 : Option Addr) (c2 : Nat) (base : List UInt8) (A3 : Option Addr) (c3 : Nat) (bs : List (List UInt8)) (w : World) (r1 : Row (KSlice KByte 1 1) 1 w A1 la) (hc1 : la.length ≤ c1) (hl1 : la.length * 24 ≤ 140737488351232) (r2 : Rd w A2 base) (hc2 : base.length ≤ c2) (hl2 : base.length ≤ 140737488351232) (r3 : Row (KSlice KByte 1 1) 1 w A3 bs) (hc3 : bs.length ≤ c3) (hl3 : bs.length * 24 ≤ 140737488351232) :
    Calls Try.prog 10 #[.slice A1 la.length c1, .slice A2 base.length c2, .slice A3 bs.length c3] w fun e w' => e = .returned (.bool true) ∧ Below w.heap.size w w' := by
  by_cases h : la.length ≤ 10 ∧ bs.length ≤ 10 ∧ base.length ≤ 1000
  · exact WalKeeps_ok A1 A2 A3 c1 c2 c3 la bs base w (Rdl.of_row r1 (by omega)) hc1 r2 hc2 (Rdl.of_row r3 (by omega)) hc3 h.1 h.2.2 h.2.1
  · clear r1 r2 r3
    generalize la.length = n1 at *
    generalize bs.length = n3 at *
    generalize base.length = n2 at *
    by_cases h1 : 10 < n1
    ·
      clear h
      go_enter Try.func10, Try.ntmps10
      go_wp2_with fail
      refine (awake6_any _).mono ?_
      rintro e w1 ⟨rfl, hb1⟩
      have HB1 := Lib.hid hb1
      clear hb1
      go_wp2_with fail
      go_ret
      exact ⟨rfl, HB1.out⟩
    · by_cases h2 : 10 < n3
      ·
        clear h
        go_enter Try.func10, Try.ntmps10
        go_wp2_with fail
        refine (awake6_any _).mono ?_
        rintro e w1 ⟨rfl, hb1⟩
        have HB1 := Lib.hid hb1
        clear hb1
        go_wp2_with fail
        go_ret
        exact ⟨rfl, HB1.out⟩
      · have h3 : 1000 < n2 := by omega
        clear h
        go_enter Try.func10, Try.ntmps10
        go_wp2_with fail
        refine (awake6_any _).mono ?_
        rintro e w1 ⟨rfl, hb1⟩
        have HB1 := Lib.hid hb1
        clear hb1
        go_wp2_with fail
        go_ret
        exact ⟨rfl, HB1.out⟩
end Go.Proofs.Ytbpecfbliglboaa
