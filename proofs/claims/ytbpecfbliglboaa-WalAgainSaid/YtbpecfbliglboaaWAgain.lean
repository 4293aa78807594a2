/- The law WalAgain, walked. -/
import Derived.Test.YtbpecfbliglboaaWKeeps
namespace Go.Proofs.Ytbpecfbliglboaa
open Go.RowKit
set_option linter.unusedVariables false
set_option linter.unusedSimpArgs false
attribute [local irreducible] Stu.wpR Stu.relOp wpR relOp
set_option maxRecDepth 20000 in
set_option maxHeartbeats 8000000 in
theorem WalAgain_ok (A1 A2 A4 : Option Addr) (c1 c2 c4 : Nat) (la : List (List UInt8)) (base more : List UInt8) (at_ : Int) (w : World) (ra : Rdl w A1 la) (hc1 : la.length ≤ c1) (rb : Rd w A2 base) (hc2 : base.length ≤ c2) (rm : Rd w A4 more) (hc4 : more.length ≤ c4) (h1 : la.length ≤ 15) (h2 : base.length ≤ 1000) (h4 : more.length ≤ 1000) :
    Calls Try.prog 8 #[.slice A1 la.length c1, .slice A2 base.length c2, .int .i64 at_, .slice A4 more.length c4] w fun e w' => e = .returned (.bool true) ∧ Below w.heap.size w w' := by
  obtain ⟨n1, hn1⟩ : ∃ n, n = la.length := ⟨_, rfl⟩
  obtain ⟨n2, hn2⟩ : ∃ n, n = base.length := ⟨_, rfl⟩
  obtain ⟨n4, hn4⟩ : ∃ n, n = more.length := ⟨_, rfl⟩
  rw [← hn1] at hc1 h1 ⊢; rw [← hn2] at hc2 h2 ⊢; rw [← hn4] at hc4 h4 ⊢
  have HN1 := Lib.hid hn1; have HN2 := Lib.hid hn2; have HN4 := Lib.hid hn4; have HRA := Lib.hid ra; have HRB := Lib.hid rb; have HRM := Lib.hid rm
  have i1 : ¬ (15 : Int) < (n1 : Int) := by omega
  have i2 : ¬ (1000 : Int) < (n2 : Int) := by omega
  have i4 : ¬ (1000 : Int) < (n4 : Int) := by omega
  have HROOM : Hid (WalMath.room 400 = 101888) := Lib.hid rfl
  clear hn1 hn2 hn4 ra rb rm
  go_enter Try.func8, Try.ntmps8
  go_wp2_with fail
  refine (awake6_any w).mono ?_
  rintro e w1 ⟨rfl, hb1⟩
  have HB1 := Lib.hid hb1
  clear hb1
  go_wp2_with fail
  refine (lk_new w1 400 (by decide) (by decide)).mono ?_
  rintro e w2 ⟨g, d1, rfl, hd1, ho1, hf1, -⟩
  have HO := Lib.hid (lk_open hd1 ho1 hf1)
  clear hd1 ho1 hf1
  go_wp2_with fail
  refine HO.out.mono ?_
  rintro e w3 ⟨gl, rfl, hl3, -⟩
  have HL3 := Lib.hid hl3
  clear hl3 HO
  go_wp2_with fail
  rename World => wA
  go_loopw [13] (fun vi wr => ∃ k : Nat, k ≤ n1 ∧ vi = .int .i64 k ∧ ∃ d x, LK w1 wr w1.heap.size g gl 400 d x ∧ x.buf.length ≤ 1000 + 516 * k) (fun vi _ => n1 - (intOf vi).toNat)
  case atStart => exact ⟨0, by omega, rfl, d1, _, HL3.out, by simp [WalMath.empty]⟩
  case round =>
    obtain ⟨k, hk, rfl, d, x, hl, hxl⟩ := hrel
    have HL := Lib.hid hl; have HXL := Lib.hid hxl
    have hbw := below_then HB1.out HB1.out.size hl.1.ds.bel
    have HBW := Lib.hid hbw
    clear hl hxl
    by_cases hlt : k < n1
    · have hltI : (k : Int) < (n1 : Int) := by omega
      have hka : k < la.length := by rw [← HN1.out]; exact hlt
      obtain ⟨a, A', c', rfl, hcell0, hcc, hrd0⟩ := HRA.out.at_ k hka
      have hcell := cell_below hbw hcell0
      obtain ⟨body, hbody⟩ : ∃ b, b = la[k]'hka := ⟨_, rfl⟩
      rw [← hbody] at hcell hcc hrd0
      obtain ⟨L, hLe⟩ : ∃ L, L = body.length := ⟨_, rfl⟩
      rw [← hLe] at hcell hcc
      have HRD0 := Lib.hid hrd0; have HLE := Lib.hid hLe
      have hwk : IntKind.i64.wrap ((k : Int) + 1) = ((k + 1 : Nat) : Int) := by rw [IntKind.wrap_i64]; omega
      clear hbody hrd0 hbw hLe hcell0
      by_cases hL : L ≤ 500
      · have hLI : ¬ (500 : Int) < (L : Int) := by omega
        have hadd := lk_add (m := L) (c := c') HL.out (fun W hb _ => HRD0.out.below (below_then HB1.out HB1.out.size hb)) HLE.out (by omega) (by rw [HROOM.out, addB_len, ← HLE.out]; have := HXL.out; omega)
        have HADD := Lib.hid hadd
        clear hadd
        by_cases hat : (k : Int) = at_
        · have hq1 : ((k : Int) == at_) = true := by rw [beq_iff_eq]; exact hat
          have hq2 : decide ((k : Int) = at_) = true := decide_eq_true hat
          clear hat
          go_wp2_with fail
          refine HADD.out.mono ?_
          rintro e w4 ⟨rfl, ⟨d4, hl4⟩, -⟩
          have hkp := lk_keep (m := n2) (c := c2) hl4 (HRB.out.below (below_then HB1.out HB1.out.size hl4.1.ds.bel)) HN2.out (by omega) (by rw [HROOM.out, ← HN2.out]; omega)
          have HKP := Lib.hid hkp
          clear hl4 hcell HADD hkp
          go_wp2_with fail
          refine HKP.out.mono ?_
          rintro e w5 ⟨rfl, ⟨d5, hl5⟩, -⟩
          have HL5 := Lib.hid hl5
          have HXL5 : Hid ((WalMath.keepX (WalMath.addX x body) base).buf.length ≤ 1000 + 516 * (k + 1)) := Lib.hid (by show base.length ≤ _; rw [← HN2.out]; omega)
          clear hl5 HKP
          go_wp2
          go_roundw
          case rel => exact ⟨k + 1, by omega, by go_num, d5, _, HL5.out, HXL5.out⟩
          case measure => simp [intOf]; omega
        · have hq1 : ((k : Int) == at_) = false := by rw [beq_eq_false_iff_ne]; exact hat
          have hq2 : decide ((k : Int) = at_) = false := decide_eq_false hat
          clear hat
          go_wp2_with fail
          refine HADD.out.mono ?_
          rintro e w4 ⟨rfl, ⟨d4, hl4⟩, -⟩
          have HL4 := Lib.hid hl4
          have HXL4 : Hid ((WalMath.addX x body).buf.length ≤ 1000 + 516 * (k + 1)) := Lib.hid (by rw [addX_len, ← HLE.out]; have := HXL.out; omega)
          clear hl4 hcell HADD
          go_wp2
          go_roundw
          case rel => exact ⟨k + 1, by omega, by go_num, d4, _, HL4.out, HXL4.out⟩
          case measure => simp [intOf]; omega
      · have hLI : (500 : Int) < (L : Int) := by omega
        go_wp2
        go_ret
        exact ⟨rfl, HBW.out⟩
    · have hltI : ¬ (k : Int) < (n1 : Int) := by omega
      have hk15 : x.buf.length ≤ 8740 := by have := HXL.out; omega
      have HXL2 := Lib.hid hk15
      have HOP := Lib.hid (lk_open HL.out.1.ds HL.out.2.1 HL.out.2.2)
      clear hbw HBW hk15
      go_wp2_with fail
      refine HOP.out.mono ?_
      rintro e w4 ⟨gy, rfl, hl4, hb4, -⟩
      have HY4 := Lib.hid hl4; have HX4 := Lib.hid (HL.out.below hb4)
      have HOP2 := Lib.hid (lk_open hl4.1.ds hl4.2.1 hl4.2.2)
      clear hl4 hb4 HOP
      go_wp2_with fail
      refine HOP2.out.mono ?_
      rintro e w5 ⟨gz, rfl, hl5, hb5, -⟩
      have HZ5 := Lib.hid hl5; have HX5 := Lib.hid (HX4.out.below hb5); have HY5 := Lib.hid (HY4.out.below hb5)
      clear hl5 hb5 HOP2 HX4 HY4 HL
      go_wp2_with fail
      obtain ⟨bb, hbb⟩ : ∃ bb, bb = x.buf.take x.base := ⟨_, rfl⟩
      obtain ⟨m, hm⟩ : ∃ m, m = bb.length := ⟨_, rfl⟩
      obtain ⟨BS, hBS⟩ : ∃ s : ByteArray, s = ⟨bb.toArray⟩ := ⟨_, rfl⟩
      have HBB := Lib.hid hbb.symm; have HM := Lib.hid hm.symm; have HBS := Lib.hid hBS
      have HW : Hid (∀ W, Gb w5.drew W → LK w1 W w1.heap.size g gl 400 d x ∧ LK w1 W w1.heap.size g gy 400 d x ∧ LK w1 W w1.heap.size g gz 400 d x) := Lib.hid fun W hW => by
        have hb := Below.trans (Below.drew (Below.refl _ w5)) hW
        exact ⟨HX5.out.below hb, HY5.out.below hb, HZ5.out.below hb⟩
      clear hbb hm hBS HX5 HY5 HZ5
      refine Stu.wp_region_stu _ (Stu.mkT [(16, clG m bb), (17, vS (.string BS)), (19, clG m bb), (20, vS (.string BS)), (25, clG m bb), (26, vS (.string BS)), (28, clG m bb), (29, vS (.string BS))]) (fun _ => True) [] Gb.refl Gb.trans (fun _ _ h => h) (fun _ _ _ _ => trivial) trivial (Stu.mkT_ks _ (by show List.Nodup [16, 17, 19, 20, 25, 26, 28, 29]; decide) _ rfl) (by kernel_rfl) (by kernel_rfl) (by kernel_rfl) ?_
      repeat (refine Stu.wpR_plain ?_ (by rfl) (by rfl) (fun K hK => ?_); (focus (first | (simp only [Region.wanted]; done) | (go_simp; done))); apply Exists.intro; refine ⟨fun W hW => ?_, ?_⟩; (go_simp; (try simp only [Stu.plainUpon_value, true_and]); rfl); go_simp; refine hK _ ?_; clear hK K)
      (refine Stu.wpR_spg (by rfl) (by rfl) ?_ ?_ (fun W hW hF => ?_) (fun K v hv hK => ?_); (focus (first | (simp only [Region.wanted]; done) | (go_simp; done))); (focus (exact ⟨_, none, _, rfl, Nat.le_refl _⟩)); (go_simp; simp only [Stu.relUpon_enter]; exact ba_rel (HW.out W hW).2.1 bb HBB.out HM.out _); (obtain ⟨A16, c16, rfl, hc16⟩ := hv); go_simp; refine hK _ ?_; clear hK K)
      (refine Stu.wpR_spg (by rfl) (by rfl) ?_ ?_ (fun W hW hF => ?_) (fun K v hv hK => ?_); (focus (first | (simp only [Region.wanted]; done) | (go_simp; done))); (focus (exact ⟨_, rfl⟩)); (have hcw := (show Sl W (.slice A16 m c16) bb from hF 16 rfl).str; rw [← HBS.out] at hcw; go_simp; exact ⟨Gb.refl _, rfl, trivial⟩); (cases hv); go_simp; refine hK _ ?_; clear hK K)
      repeat (refine Stu.wpR_plain ?_ (by rfl) (by rfl) (fun K hK => ?_); (focus (first | (simp only [Region.wanted]; done) | (go_simp; done))); apply Exists.intro; refine ⟨fun W hW => ?_, ?_⟩; (go_simp; (try simp only [Stu.plainUpon_value, true_and]); rfl); go_simp; refine hK _ ?_; clear hK K)
      (refine Stu.wpR_spg (by rfl) (by rfl) ?_ ?_ (fun W hW hF => ?_) (fun K v hv hK => ?_); (focus (first | (simp only [Region.wanted]; done) | (go_simp; done))); (focus (exact ⟨_, none, _, rfl, Nat.le_refl _⟩)); (go_simp; simp only [Stu.relUpon_enter]; exact ba_rel (HW.out W hW).1 bb HBB.out HM.out _); (obtain ⟨A19, c19, rfl, hc19⟩ := hv); go_simp; refine hK _ ?_; clear hK K)
      (refine Stu.wpR_spg (by rfl) (by rfl) ?_ ?_ (fun W hW hF => ?_) (fun K v hv hK => ?_); (focus (first | (simp only [Region.wanted]; done) | (go_simp; done))); (focus (exact ⟨_, rfl⟩)); (have hcw := (show Sl W (.slice A19 m c19) bb from hF 19 rfl).str; rw [← HBS.out] at hcw; go_simp; exact ⟨Gb.refl _, rfl, trivial⟩); (cases hv); go_simp; refine hK _ ?_; clear hK K)
      repeat (refine Stu.wpR_plain ?_ (by rfl) (by rfl) (fun K hK => ?_); (focus (first | (simp only [Region.wanted]; done) | (go_simp; done))); apply Exists.intro; refine ⟨fun W hW => ?_, ?_⟩; (go_simp; (try simp only [Stu.plainUpon_value, true_and]); rfl); go_simp; refine hK _ ?_; clear hK K)
      (refine Stu.wpR_spg (by rfl) (by rfl) ?_ ?_ (fun W hW hF => ?_) (fun K v hv hK => ?_); (focus (first | (simp only [Region.wanted]; done) | (go_simp; done))); (focus (exact ⟨_, none, _, rfl, Nat.le_refl _⟩)); (go_simp; simp only [Stu.relUpon_enter]; exact ba_rel (HW.out W hW).2.2 bb HBB.out HM.out _); (obtain ⟨A25, c25, rfl, hc25⟩ := hv); go_simp; refine hK _ ?_; clear hK K)
      (refine Stu.wpR_spg (by rfl) (by rfl) ?_ ?_ (fun W hW hF => ?_) (fun K v hv hK => ?_); (focus (first | (simp only [Region.wanted]; done) | (go_simp; done))); (focus (exact ⟨_, rfl⟩)); (have hcw := (show Sl W (.slice A25 m c25) bb from hF 25 rfl).str; rw [← HBS.out] at hcw; go_simp; exact ⟨Gb.refl _, rfl, trivial⟩); (cases hv); go_simp; refine hK _ ?_; clear hK K)
      repeat (refine Stu.wpR_plain ?_ (by rfl) (by rfl) (fun K hK => ?_); (focus (first | (simp only [Region.wanted]; done) | (go_simp; done))); apply Exists.intro; refine ⟨fun W hW => ?_, ?_⟩; (go_simp; (try simp only [Stu.plainUpon_value, true_and]); rfl); go_simp; refine hK _ ?_; clear hK K)
      (refine Stu.wpR_spg (by rfl) (by rfl) ?_ ?_ (fun W hW hF => ?_) (fun K v hv hK => ?_); (focus (first | (simp only [Region.wanted]; done) | (go_simp; done))); (focus (exact ⟨_, none, _, rfl, Nat.le_refl _⟩)); (go_simp; simp only [Stu.relUpon_enter]; exact ba_rel (HW.out W hW).1 bb HBB.out HM.out _); (obtain ⟨A28, c28, rfl, hc28⟩ := hv); go_simp; refine hK _ ?_; clear hK K)
      (refine Stu.wpR_spg (by rfl) (by rfl) ?_ ?_ (fun W hW hF => ?_) (fun K v hv hK => ?_); (focus (first | (simp only [Region.wanted]; done) | (go_simp; done))); (focus (exact ⟨_, rfl⟩)); (have hcw := (show Sl W (.slice A28 m c28) bb from hF 28 rfl).str; rw [← HBS.out] at hcw; go_simp; exact ⟨Gb.refl _, rfl, trivial⟩); (cases hv); go_simp; refine hK _ ?_; clear hK K)
      repeat (refine Stu.wpR_plain ?_ (by rfl) (by rfl) (fun K hK => ?_); (focus (first | (simp only [Region.wanted]; done) | (go_simp; done))); apply Exists.intro; refine ⟨fun W hW => ?_, ?_⟩; (go_simp; (try simp only [Stu.plainUpon_value, true_and]); rfl); go_simp; refine hK _ ?_; clear hK K)
      refine Stu.wpR_nil (fun W6 hW hU hF => ?_)
      have HL6 := Lib.hid (HW.out W6 hW)
      clear hW hU hF HW
      have HA6 := Lib.hid (lk_all HL6.out.1)
      obtain ⟨nx, hnx⟩ : ∃ n, n = x.all.length := ⟨_, rfl⟩
      have HNX := Lib.hid hnx
      have hnx6 : nx ≤ 1000000 := by rw [hnx]; exact HL6.out.1.2.1.small.2.2.1
      clear hnx
      go_wp2_with fail
      refine HA6.out.mono ?_
      rintro e w7 ⟨v7, rfl, hs7, hb7⟩
      obtain ⟨A7, c7, rfl, _⟩ := hs7.shp
      rw [← HNX.out]
      have HY7 := Lib.hid (HL6.out.2.1.below hb7); have HZ7 := Lib.hid (HL6.out.2.2.below hb7)
      have HA7 := Lib.hid (lk_all HY7.out)
      clear hs7 hb7 HA6 HL6
      go_wp2_with fail
      refine HA7.out.mono ?_
      rintro e w8 ⟨v8, rfl, hs8, hb8⟩
      obtain ⟨A8, c8, rfl, _⟩ := hs8.shp
      rw [← HNX.out]
      have HZ8 := Lib.hid (HZ7.out.below hb8)
      have HA8 := Lib.hid (lk_all HZ8.out)
      clear hs8 hb8 HA7 HZ7 HY7
      go_wp2_with fail
      refine HA8.out.mono ?_
      rintro e w9 ⟨v9, rfl, hs9, hb9⟩
      obtain ⟨A9, c9, rfl, _⟩ := hs9.shp
      rw [← HNX.out]
      have HZ9 := Lib.hid (HZ8.out.below hb9)
      have hadd := lk_add (m := n4) (c := c4) HZ9.out (fun W hb _ => HRM.out.below (below_then HB1.out HB1.out.size hb)) HN4.out (by omega) (by rw [HROOM.out, addB_len, ← HN4.out]; have := HXL2.out; omega)
      have HADD := Lib.hid hadd
      clear hs9 hb9 HA8 HZ8 hadd
      go_wp2_with fail
      refine HADD.out.mono ?_
      rintro e w10 ⟨rfl, ⟨d10, hl10⟩, -⟩
      have HOP := Lib.hid (lk_open hl10.1.ds hl10.2.1 hl10.2.2)
      clear hl10 HADD HZ9
      go_wp2_with fail
      refine HOP.out.mono ?_
      rintro e w11 ⟨gu, rfl, hl11, -⟩
      have HL11 := Lib.hid hl11
      have HA11 := Lib.hid (lk_all hl11)
      clear hl11 HOP
      go_wp2_with fail
      refine HA11.out.mono ?_
      rintro e w12 ⟨v12, rfl, hs12, hb12⟩
      have hal : (WalMath.addX x more).all = x.all ++ [more] := rfl
      rw [hal] at hs12
      obtain ⟨A12, c12, rfl, _⟩ := hs12.shp
      obtain ⟨r1, hr1⟩ : ∃ r, r = (x.all ++ [more]).length := ⟨_, rfl⟩
      rw [← hr1] at hs12 ⊢
      rw [List.length_append, ← HNX.out] at hr1
      have hr1' : r1 = nx + 1 := hr1
      obtain ⟨gv, Ae, ce, rfl, ke, se⟩ := hs12.at_ nx (by rw [List.length_append, ← HNX.out]; show nx < nx + 1; omega)
      have hge : (x.all ++ [more])[nx]'(by rw [List.length_append, ← HNX.out]; show nx < nx + 1; omega) = more := by
        have hh := HNX.out
        subst hh
        simp
      rw [hge, ← HN4.out] at ke se
      have HB12 := Lib.hid (HL11.out.below hb12).1.ds.bel
      obtain ⟨MS, hMS⟩ : ∃ s : ByteArray, s = ⟨more.toArray⟩ := ⟨_, rfl⟩
      have HC : Hid (∀ W, Gr w12.heap.size w12.drew W → W.cell? ⟨gv, nx, none⟩ = some (.slice Ae n4 ce) ∧ (convert 33 9 (.slice Ae n4 ce)).run Try.prog W = .ok (.string MS) W ∧ (convert 33 9 (.slice A4 n4 c4)).run Try.prog W = .ok (.string MS) W) := Lib.hid fun W hW => by
        have hbw := Below.trans (Below.drew (Below.refl w12.heap.size w12)) hW.1
        rw [hMS]
        exact ⟨cell_below hbw ke, (se.below hbw).str, ((HRM.out.below (below_then HB1.out HB1.out.size HB12.out)).below hbw).str n4 c4 HN4.out.symm⟩
      have hw1 : IntKind.i64.wrap ((nx : Int) + 1) = (r1 : Int) := by rw [IntKind.wrap_i64]; omega
      have b1 : (nx : Int) < (r1 : Int) := by omega
      have b2 : nx < r1 := by omega
      have HBE : Hid (Below w.heap.size w w12) := Lib.hid (below_then HB1.out HB1.out.size HB12.out)
      clear hs12 hb12 HA11 ke se hge hal hr1 hr1' hMS
      go_wp2_with fail
      refine wp_region_tbl _ ((fun _ => none)) (w12.heap.size) (by kernel_rfl) (by kernel_rfl) (by kernel_rfl) ?_
      repeat (first
        | (refine wpR_plain ?_ (by rfl) (fun K hK => ?_); (focus (first | (simp only [Region.wanted]; done) | (go_simp; done))); apply Exists.intro; refine ⟨fun W hW => ?_, ?_⟩; (go_simp; (try simp only [plainUpon_value, true_and]); rfl); go_simp; refine hK _ ?_; clear hK K)
        | (refine wpR_plain ?_ (by rfl) (fun K hK => ?_); (focus (first | (simp only [Region.wanted]; done) | (go_simp; done))); apply Exists.intro; refine ⟨fun W hW => ?_, ?_⟩; (have hcw := HC.out W hW; go_simp; (try simp only [plainUpon_value, true_and]); rfl); go_simp; refine hK _ ?_; clear hK K))
      refine wpR_nil (fun W hW hF => ?_)
      have HBW := Lib.hid (HBE.out.trans ((Below.trans (Below.drew (Below.refl _ w12)) hW.1).mono HBE.out.size))
      clear hW hF HC
      go_wp2
      go_ret
      exact ⟨rfl, HBW.out⟩
set_option maxRecDepth 20000 in
theorem WalAgain_walk (A1 : Option Addr) (c1 : Nat) (la : List (List UInt8)) (A2 : Option Addr) (c2 : Nat) (base : List UInt8) (at_ : Int) (A4 : Option Addr) (c4 : Nat) (more : List UInt8) (w : World) (r1 : Row (KSlice KByte 1 1) 1 w A1 la) (hc1 : la.length ≤ c1) (hl1 : la.length * 24 ≤ 140737488351232) (r2 : Rd w A2 base) (hc2 : base.length ≤ c2) (hl2 : base.length ≤ 140737488351232) (wat : (Lit.int .i64 at_).wf = true) (r4 : Rd w A4 more) (hc4 : more.length ≤ c4) (hl4 : more.length ≤ 140737488351232) :
    Calls Try.prog 8 #[.slice A1 la.length c1, .slice A2 base.length c2, .int .i64 at_, .slice A4 more.length c4] w fun e w' => e = .returned (.bool true) ∧ Below w.heap.size w w' := by
  by_cases h : la.length ≤ 15 ∧ base.length ≤ 1000 ∧ more.length ≤ 1000
  · exact WalAgain_ok A1 A2 A4 c1 c2 c4 la base more at_ w (Rdl.of_row r1 (by omega)) hc1 r2 hc2 r4 hc4 h.1 h.2.1 h.2.2
  · clear r1 r2 r4 wat
    generalize la.length = n1 at *
    generalize base.length = n2 at *
    generalize more.length = n4 at *
    by_cases h1 : 15 < n1
    ·
      clear h
      go_enter Try.func8, Try.ntmps8
      go_wp2_with fail
      refine (awake6_any _).mono ?_
      rintro e w1 ⟨rfl, hb1⟩
      have HB1 := Lib.hid hb1
      clear hb1
      go_wp2_with fail
      go_ret
      exact ⟨rfl, HB1.out⟩
    · by_cases h2 : 1000 < n2
      ·
        clear h
        go_enter Try.func8, Try.ntmps8
        go_wp2_with fail
        refine (awake6_any _).mono ?_
        rintro e w1 ⟨rfl, hb1⟩
        have HB1 := Lib.hid hb1
        clear hb1
        go_wp2_with fail
        go_ret
        exact ⟨rfl, HB1.out⟩
      · have h3 : 1000 < n4 := by omega
        clear h
        go_enter Try.func8, Try.ntmps8
        go_wp2_with fail
        refine (awake6_any _).mono ?_
        rintro e w1 ⟨rfl, hb1⟩
        have HB1 := Lib.hid hb1
        clear hb1
        go_wp2_with fail
        go_ret
        exact ⟨rfl, HB1.out⟩
end Go.Proofs.Ytbpecfbliglboaa
