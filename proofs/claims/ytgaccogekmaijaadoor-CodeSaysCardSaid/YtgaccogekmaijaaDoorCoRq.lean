/- The reference quotes bytes. -/
import Derived.Test.YtgaccogekmaijaaDoorCoRa
namespace CodeMath
theorem raw_cases (x : UInt8) (t : List UInt8) : raw x t = ((decide (32 < x.toNat ∧ x.toNat ≤ 126) && !(x == 61)) || ((x == 32 || x == 9) && !(t.isEmpty || crlfAt t))) := rfl
end CodeMath
namespace Go.Proofs.YtgaccogekmaijaaDoor
open Go.RowKit Go.Maps
set_option linter.unusedVariables false
set_option linter.unusedSimpArgs false
attribute [local irreducible] wpR relOp Stu.wpR Stu.relOp
theorem appb_run2 {W : World} {base m c : Nat} {v : Value} {l news : List UInt8} {A : Option Addr} (HO : Ob W base 5 v l) (hz : l = [] → v = .slice none 0 0) (HR : Rd W A news) (hm : m = news.length) (hB : base ≤ W.heap.size) (hlen : l.length + news.length ≤ 1000000000) :
    ∃ v' W', (Builtin.append_ #[22, 22] 22 #[v, .slice A m c]).run Tryd.prog W = .ok v' W' ∧ Ob W' base 5 v' (l ++ news) ∧ TS base W W' ∧ W.grownBy W' v.ownBlock := by
  obtain ⟨v', W', h1, h2, h3⟩ := appb_run (c := c) HO hz HR hm hB hlen
  refine ⟨v', W', h1, h2, h3, ?_⟩
  subst hm
  obtain ⟨i0, hi, hzz⟩ := Option.map_eq_some_iff.1 info_u8b
  simp only [Prod.mk.injEq] at hzz
  obtain ⟨v2, W2, hr, _, h4⟩ := append_dicho (P := Tryd.prog) W base 22 22 5 i0 (.int .u8 0) 1 1 Tryd.underlying22 hi hzz.1 hzz.2.1 hzz.2.2 rfl (by decide) (by decide) v l.length (bvl l) HO A news.length c (bvl news) (by rw [bvl_length]; omega) (Src.of_rd HR) (bvl_one news) (by omega) hB
  rw [h1] at hr
  injection hr with e1 e2
  subst e2
  rcases h4 with ⟨g, cur, q1, q2, q3, q4, q5, q6⟩ | ⟨q1, _⟩
  · rw [q1]; exact q6
  · exact ⟨q1.os, q1.tape, q1.output, q1.size, fun k hk _ => q1.block k hk⟩
theorem Rd.grownBy {W W' : World} {g : Nat} {l : List UInt8} {row : Option Nat} (h : Rd W (some ⟨g, 0, none⟩) l) (hg : W.grownBy W' row) (hne : ∀ k, row = some k → k < g) : Rd W' (some ⟨g, 0, none⟩) l :=
  ⟨h.1, fun hp => by
    obtain ⟨a, e, hc⟩ := h.2 hp
    injection e with e
    subst e
    refine ⟨_, rfl, fun j hj => ?_⟩
    have h1 := hc j hj
    have ha : (⟨g, 0, none⟩ : Addr).add j = ⟨g, j, none⟩ := by unfold Addr.add; split <;> simp_all
    rw [ha] at h1 ⊢
    have hlt := World.block_lt_of_cell? W _ h1
    rw [World.cell?_of_block (hg.block g hlt (fun e => by have := hne g e.symm; omega))]
    exact h1⟩
set_option maxRecDepth 20000 in
set_option maxHeartbeats 40000000 in
theorem rquo_any (w : World) (A : Option Addr) (m c : Nat) (b : List UInt8) (hr : Rd w A b) (hm : b.length = m) (hc : m ≤ c) (hl : m ≤ 1000000) :
    Calls Tryd.prog 16 #[.slice A m c] w fun e w' => ∃ v, e = .returned v ∧ Ob w' w.heap.size 5 v (CodeMath.qpS 0 b) ∧ Below w.heap.size w w' := by
  have HTot : Hid ((CodeMath.qpS 0 b).length ≤ 7000000) := Lib.hid (by have := CodeMath.qpF_len (b.length + 1) 0 b (by omega); unfold CodeMath.qpS; omega)
  have HM := Lib.hid hm; have HR := Lib.hid hr
  clear hm hr
  go_enter Tryd.func16, Tryd.ntmps16
  go_wp2_with fail
  go_loopw [3, 5, 6, 7, 8] (fun vo vn vi _ _ wr => ∃ (pre : List UInt8) (i k : Nat), vi = .int .i64 i ∧ vn = .int .i64 k ∧ k ≤ 75 ∧ i ≤ m ∧ CodeMath.qpS 0 b = pre ++ CodeMath.qpS k (b.drop i) ∧ Ob wr w.heap.size 5 vo pre ∧ (pre = [] → vo = .slice none 0 0) ∧ Below w.heap.size w wr) (fun _ _ vi _ _ _ => m - (intOf vi).toNat)
  case atStart => exact ⟨[], 0, 0, rfl, rfl, by omega, Nat.zero_le _, rfl, Ob.nil _ _ _, fun _ => rfl, Below.refl _ _⟩
  case round =>
    rename World => wr
    obtain ⟨pre, i, k, rfl, rfl, hk, him, henc, hob, hz, hb⟩ := hrel
    obtain ⟨np, hnp⟩ : ∃ np, np = pre.length := ⟨_, rfl⟩
    obtain ⟨A0, c00, hv0, hc00, _⟩ := hob.rd
    rw [← hnp] at hv0 hc00
    subst hv0
    have hnp9 : np ≤ 7000000 := by
      have h1 := HTot.out
      rw [henc, List.length_append] at h1
      omega
    have HNP := Lib.hid hnp; have HE := Lib.hid henc; have HO := Lib.hid hob; have HZ := Lib.hid hz; have HB := Lib.hid hb
    clear hnp henc hob hz hb
    have hwi : IntKind.i64.wrap ((i : Int) + 1) = (i : Int) + 1 := by rw [IntKind.wrap_i64]; omega
    have hwi2 : IntKind.i64.wrap ((i : Int) + 1 + 1) = (i : Int) + 1 + 1 := by rw [IntKind.wrap_i64]; omega
    by_cases hlt : i < m
    · have hlti : (i : Int) < m := by omega
      have hib : i < b.length := by rw [HM.out]; exact hlt
      obtain ⟨a, rfl, x0⟩ := (HR.out.below HB.out).at_ i hib
      have hd : b.drop i = b[i] :: b.drop (i + 1) := List.drop_eq_getElem_cons hib
      have HCR : Hid _ := Lib.hid (fun W (hW : Below w.heap.size w W) => crlf_any W (some a) m c b i (HR.out.below hW) HM.out (by omega))
      have HCR2 : Hid _ := Lib.hid (fun W (hW : Below w.heap.size w W) => crlf_any W (some a) m c b (i + 1) (HR.out.below hW) HM.out (by omega))
      obtain ⟨t, ht⟩ : ∃ t, t = b.drop (i + 1) := ⟨_, rfl⟩
      rw [← ht] at hd HCR2
      have htl : t.length = m - (i + 1) := by rw [ht, List.length_drop, HM.out]
      generalize b[i] = x at *
      rw [hd] at HCR
      rw [hd] at HE
      have HT := Lib.hid ht; have HTL := Lib.hid htl
      have hx8 := x.toNat_lt
      have HST := Lib.hid (CodeMath.qpS_cons k x t)
      clear ht htl hd hib
      generalize hcr : CodeMath.crlfAt (x :: t) = bc at *
      cases bc with
      | true =>
        have ht1 : 1 ≤ t.length := by
          cases t with
          | nil => simp [CodeMath.crlfAt] at hcr
          | cons d t => simp
        have hi2 : i + 2 ≤ m := by have := HTL.out; omega
        have HDR : Hid (t.drop 1 = b.drop (i + 2)) := Lib.hid (by rw [HT.out, List.drop_drop])
        have HEN : Hid (CodeMath.qpS 0 b = (pre ++ [13, 10]) ++ CodeMath.qpS 0 (b.drop (i + 2))) := Lib.hid (by rw [HE.out, HST.out, if_pos rfl, HDR.out]; simp)
        obtain ⟨W5, hW5⟩ : ∃ W5, W5 = wr.alloc (.cells #[.int .u8 13, .int .u8 10] 5) := ⟨_, rfl⟩
        have hb5 : Below wr.heap.size wr W5 := by rw [hW5]; exact (Below.refl _ _).alloc (Nat.le_refl _) _
        obtain ⟨v6, W6, hrun6, ho6, hts6⟩ := appb_run (m := 2) (c := 2) (HO.out.below hb5) HZ.out (Rd.of_block (l := [13, 10]) (show W5.heap[wr.heap.size]? = _ by rw [hW5]; exact heap_new _ _ _ rfl) (by simp)) rfl (Nat.le_trans HB.out.size hb5.size) (by rw [← HNP.out]; simp; omega)
        obtain ⟨n6, hn6⟩ : ∃ n6, n6 = (pre ++ [13, 10]).length := ⟨_, rfl⟩
        obtain ⟨A6, c6, rfl, _⟩ := ho6.shpn hn6.symm
        have HW5 := Lib.hid hW5; have HR6 := Lib.hid hrun6; have HO6 := Lib.hid ho6
        have HB6 : Hid (Below w.heap.size w W6) := Lib.hid ((below_then HB.out HB.out.size hb5).trans hts6.1)
        clear hW5 hb5 hrun6 ho6 hts6 hn6 hcr ht1
        go_wp2_with fail
        refine (HCR.out wr HB.out).mono ?_
        rintro e wr ⟨rfl, rfl⟩
        go_wp2_with (at_builtin; rw [← HW5.out]; refine Lib.wpList_append_run _ rfl _ _ _ _ rfl _ _ rfl rfl _ _ HR6.out ?_)
        go_roundw
        case rel => exact ⟨_, i + 2, 0, by go_num, by go_num, by omega, by omega, HEN.out, HO6.out, fun e => by simp at e, HB6.out⟩
        case measure => simp [intOf]; omega
      | false =>
        have HNC : Hid (¬ (false = true)) := Lib.hid (by decide)
        have HRC := CodeMath.raw_cases x t
        have HNE := Lib.hid (CodeMath.tok_plain x t).2.1
        clear hcr
        have i1 : ∀ w, (Instr.index 9 (.string ⟨#[48, 49, 50, 51, 52, 53, 54, 55, 56, 57, 65, 66, 67, 68, 69, 70]⟩) (.int .u8 ((x.toNat : Int) / 16))).run Tryd.prog w = .ok (.int .u8 (CodeMath.hexN (x.toNat / 16)).toNat) w := fun w => by
          have := run_hex w (x.toNat / 16) (by omega)
          rw [← this, fold_hex]
          congr 3
        have i2 : ∀ w, (Instr.index 9 (.string ⟨#[48, 49, 50, 51, 52, 53, 54, 55, 56, 57, 65, 66, 67, 68, 69, 70]⟩) (.int .u8 ((x.toNat : Int) % 16))).run Tryd.prog w = .ok (.int .u8 (CodeMath.hexN (x.toNat % 16)).toNat) w := fun w => by
          have := run_hex w (x.toNat % 16) (by omega)
          rw [← this, fold_hex]
          congr 3
        have d1 : Int.tdiv (x.toNat : Int) 16 = (x.toNat : Int) / 16 := Int.tdiv_eq_ediv_of_nonneg (by omega)
        have d2 : Int.tmod (x.toNat : Int) 16 = (x.toNat : Int) % 16 := Int.tmod_eq_emod_of_nonneg (by omega)
        have d3 : IntKind.u8.wrap ((x.toNat : Int) / 16) = (x.toNat : Int) / 16 := by rw [IntKind.wrap_u8]; omega
        have d4 : IntKind.u8.wrap ((x.toNat : Int) % 16) = (x.toNat : Int) % 16 := by rw [IntKind.wrap_u8]; omega
        go_wp2_with fail
        refine (HCR.out wr HB.out).mono ?_
        rintro e wr ⟨rfl, rfl⟩
        by_cases c61 : x = 61
        · have k61 : ((x.toNat : Int) == 61) = true := u8_eq 61 rfl c61
          have k32 : ((x.toNat : Int) == 32) = false := u8_ne 32 rfl (by rw [c61]; decide)
          have k9 : ((x.toNat : Int) == 9) = false := u8_ne 9 rfl (by rw [c61]; decide)
          have HRAW : Hid (CodeMath.raw x t = false) := Lib.hid (by rw [HRC, c61]; simp)
          clear HRC c61
          obtain ⟨w4, hw4⟩ : ∃ w4, w4 = wr.alloc (.cells #[.int .u8 (x.toNat : Int)] 5) := ⟨_, rfl⟩
          have hb4 : Below wr.heap.size wr w4 := by rw [hw4]; exact (Below.refl _ _).alloc (Nat.le_refl _) _
          have HO3 := Lib.hid (HO.out.below hb4)
          have HB3 : Hid (Below w.heap.size w w4) := Lib.hid (below_then HB.out HB.out.size hb4)
          have HTK : Hid (CodeMath.tok x t = CodeMath.hexed x) := Lib.hid ((show CodeMath.tok x t = CodeMath.hexed x from if_neg (by rw [HRAW.out]; decide)).trans (rfl))
          have HSL : Hid ((CodeMath.tok x t).length = 3) := Lib.hid (by rw [HTK.out]; rfl)
          have HG3 : Hid (∀ k, (Value.slice A0 np c00).ownBlock = some k → k < w4.heap.size) := Lib.hid (fun k hk => (HO3.out.lt k hk).2)
          have HW4 := Lib.hid hw4
          have hx0 : (wr.alloc (.cells #[.int .u8 (x.toNat : Int)] 5)).cell? (a.add i) = some (.int .u8 (x.toNat : Int)) := cell_alloc _ x0
          have HC : Hid (∀ W, CB w4.drew W → W.cell? (a.add i) = some (.int .u8 (x.toNat : Int))) := Lib.hid fun W hW => cell_below ((Below.drew (Below.refl _ w4)).trans hW) (by rw [hw4]; exact hx0)
          have HBW : Hid (∀ W, CB w4.drew W → Below w4.heap.size w4 W) := Lib.hid fun W hW => (Below.drew (Below.refl _ w4)).trans hW
          clear hw4 hb4
          go_wp2_with fail
          skip
          (try rw [← HW4.out])
          refine Stu.wp_region_stu _ (Stu.mkT [(14, clitS w4.heap.size 3 5 #[.int .u8 61, .int .u8 (CodeMath.hexN (x.toNat / 16)).toNat, .int .u8 (CodeMath.hexN (x.toNat % 16)).toNat])]) (fun _ => True) [] CB.refl (fun _ _ _ => CB.trans) (fun _ _ h => h) (fun _ _ _ _ => trivial) trivial (Stu.mkT_ks _ (by show List.Nodup [14]; decide) _ rfl) (by kernel_rfl) (by kernel_rfl) (by kernel_rfl) ?_
          repeat (first
            | (refine Stu.wpR_plain ?_ (by rfl) (by rfl) (fun K hK => ?_); (focus (first | (simp only [Region.wanted]; done) | (go_simp; done))); apply Exists.intro; refine ⟨fun W hW => ?_, ?_⟩; (go_simp; (try simp only [Stu.plainUpon_value, true_and]); rfl); go_simp; refine hK _ ?_; clear hK K)
            | (refine Stu.wpR_plain ?_ (by rfl) (by rfl) (fun K hK => ?_); (focus (first | (simp only [Region.wanted]; done) | (go_simp; done))); apply Exists.intro; refine ⟨fun W hW => ?_, ?_⟩; (have hcw := HC.out W hW; go_simp; (try simp only [Stu.plainUpon_value, true_and]); rfl); go_simp; refine hK _ ?_; clear hK K)
            | (refine Stu.wpR_spg (by rfl) (by rfl) ?_ ?_ (fun W hW hF => ?_) (fun K v hv hK => ?_); (focus (first | (simp only [Region.wanted]; done) | (go_simp; done))); (focus (exact ⟨_, 0, rfl⟩)); (go_simp; exact clit_rel hW.size _); (obtain ⟨g14, rfl⟩ := hv); go_simp; refine hK _ ?_; clear hK K))
          refine Stu.wpR_nil (fun W hW hU hF => ?_)
          obtain ⟨g', e1, hg1, hg2⟩ := (show (clitS w4.heap.size 3 5 #[.int .u8 61, .int .u8 (CodeMath.hexN (x.toNat / 16)).toNat, .int .u8 (CodeMath.hexN (x.toNat % 16)).toNat]).q [] (.slice (some ⟨g14, 0, none⟩) 3 3) W from hF 14)
          cases e1
          have HO4 := Lib.hid (HO3.out.below (HBW.out W hW))
          have HB4 := Lib.hid (below_then HB3.out HB3.out.size (HBW.out W hW))
          have HG4 : Hid (∀ k, (Value.slice A0 np c00).ownBlock = some k → k < g14) := Lib.hid (fun k hk => Nat.lt_of_lt_of_le (HG3.out k hk) hg1)
          have HRX : Hid (Rd W (some ⟨g14, 0, none⟩) (CodeMath.hexed x)) := Lib.hid (Rd.of_block (l := CodeMath.hexed x) (show W.heap[g14]? = some (.cells (bv (CodeMath.hexed x)) 5) from hg2) (by simp [CodeMath.hexed]))
          clear hF hW hU HC HBW hg1 hg2 HW4 hx0 x0
          have HRD4 : Hid (Rd W (some ⟨g14, 0, none⟩) (CodeMath.tok x t)) := Lib.hid (by rw [HTK.out]; exact HRX.out)
          have HST2 : Hid (CodeMath.qpS k (x :: t) = if 75 < k + 3 then [61, 13, 10] ++ (CodeMath.tok x t ++ CodeMath.qpS 3 t) else CodeMath.tok x t ++ CodeMath.qpS (k + 3) t) := Lib.hid (by rw [HST.out, if_neg HNC.out, HSL.out])
          have hws : IntKind.i64.wrap ((k : Int) + 3) = ((k + 3 : Nat) : Int) := by rw [IntKind.wrap_i64]; omega
          have hws0 : IntKind.i64.wrap (0 + (3 : Int)) = ((3 : Nat) : Int) := by rw [IntKind.wrap_i64]; omega
          by_cases h75 : 75 < k + 3
          · have h75i : (75 : Int) < ((k + 3 : Nat) : Int) := by omega
            have h75j : (75 : Int) < (k : Int) + 3 := by omega
            have HEN : Hid (CodeMath.qpS 0 b = (pre ++ [61, 13, 10] ++ CodeMath.tok x t) ++ CodeMath.qpS 3 t) := Lib.hid (by rw [HE.out, HST2.out, if_pos h75]; simp)
            obtain ⟨W5, hW5⟩ : ∃ W5, W5 = World.alloc W (.cells #[.int .u8 61, .int .u8 13, .int .u8 10] 5) := ⟨_, rfl⟩
            have hb5 : Below (W).heap.size W W5 := by rw [hW5]; exact (Below.refl _ _).alloc (Nat.le_refl _) _
            obtain ⟨v6, W6, hrun6, ho6, hts6, hgr6⟩ := appb_run2 (m := 3) (c := 3) (HO4.out.below hb5) HZ.out (Rd.of_block (l := [61, 13, 10]) (show W5.heap[(W).heap.size]? = _ by rw [hW5]; exact heap_new _ _ _ rfl) (by simp)) rfl (Nat.le_trans HB4.out.size hb5.size) (by rw [← HNP.out]; simp; omega)
            obtain ⟨n6, hn6⟩ : ∃ n6, n6 = (pre ++ [61, 13, 10]).length := ⟨_, rfl⟩
            have HN6 : Hid (n6 = (pre ++ [61, 13, 10]).length ∧ n6 ≤ 7000010) := Lib.hid ⟨hn6, by rw [hn6, List.length_append, ← HNP.out]; show np + 3 ≤ _; omega⟩
            obtain ⟨A6, c6, rfl, _⟩ := ho6.shpn hn6.symm
            obtain ⟨v7, W7, hrun7, ho7, hts7⟩ := appb_run (m := 3) (c := 3) ho6 (fun e => by simp at e) ((HRD4.out.below hb5).grownBy hgr6 HG4.out) HSL.out.symm (Nat.le_trans HB4.out.size (Nat.le_trans hb5.size hts6.1.size)) (by rw [← HN6.out.1, HSL.out]; have := HN6.out.2; omega)
            obtain ⟨n7, hn7⟩ : ∃ n7, n7 = (pre ++ [61, 13, 10] ++ CodeMath.tok x t).length := ⟨_, rfl⟩
            obtain ⟨A7, c7, rfl, _⟩ := ho7.shpn hn7.symm
            have HW5 := Lib.hid hW5; have HR6 := Lib.hid hrun6; have HR7 := Lib.hid hrun7; have HO7 := Lib.hid ho7
            have HB7 : Hid (Below w.heap.size w W7) := Lib.hid (((below_then HB4.out HB4.out.size hb5).trans hts6.1).trans hts7.1)
            skip
            clear hW5 hb5 hrun6 ho6 hts6 hgr6 hrun7 ho7 hts7 hn6 hn7
            go_wp2_with (at_builtin; (try rw [← HW4.out]); (try rw [HWS.out]); (first | (rw [← HW5.out]; refine Lib.wpList_append_run _ rfl _ _ _ _ rfl _ _ rfl rfl _ _ HR6.out ?_) | refine Lib.wpList_append_run _ rfl _ _ _ _ rfl _ _ rfl rfl _ _ HR7.out ?_))
            go_roundw
            case rel => exact ⟨_, i + 1, 3, by go_num, by go_num, by omega, by omega, by rw [← HT.out]; exact HEN.out, HO7.out, fun e => absurd (List.append_eq_nil_iff.1 e).2 HNE.out, HB7.out⟩
            case measure => simp [intOf]; omega
          · have h75i : ¬ (75 : Int) < ((k + 3 : Nat) : Int) := by omega
            have h75j : ¬ (75 : Int) < (k : Int) + 3 := by omega
            have HEN : Hid (CodeMath.qpS 0 b = (pre ++ CodeMath.tok x t) ++ CodeMath.qpS (k + 3) t) := Lib.hid (by rw [HE.out, HST2.out, if_neg h75]; simp)
            obtain ⟨v7, W7, hrun7, ho7, hts7⟩ := appb_run (m := 3) (c := 3) HO4.out HZ.out HRD4.out HSL.out.symm HB4.out.size (by rw [← HNP.out, HSL.out]; omega)
            obtain ⟨n7, hn7⟩ : ∃ n7, n7 = (pre ++ CodeMath.tok x t).length := ⟨_, rfl⟩
            obtain ⟨A7, c7, rfl, _⟩ := ho7.shpn hn7.symm
            have HR7 := Lib.hid hrun7; have HO7 := Lib.hid ho7
            have HB7 : Hid (Below w.heap.size w W7) := Lib.hid (HB4.out.trans hts7.1)
            clear hrun7 ho7 hts7 hn7
            go_wp2_with (at_builtin; (try rw [← HW4.out]); refine Lib.wpList_append_run _ rfl _ _ _ _ rfl _ _ rfl rfl _ _ HR7.out ?_)
            go_roundw
            case rel => exact ⟨_, i + 1, k + 3, by go_num, by go_num, by omega, by omega, by rw [← HT.out]; exact HEN.out, HO7.out, fun e => absurd (List.append_eq_nil_iff.1 e).2 HNE.out, HB7.out⟩
            case measure => simp [intOf]; omega
        · have k61 : ((x.toNat : Int) == 61) = false := u8_ne 61 rfl c61
          have n61 : (x == 61) = false := by rw [beq_eq_false_iff_ne]; exact c61
          rw [n61] at HRC
          by_cases c32 : x = 32
          ·
            have HX9 := Lib.hid c32
            have hxv : (x.toNat : Int) = 32 := by rw [c32]; rfl
            rw [hxv] at x0
            have j1 : ∀ w, (Instr.index 9 (.string ⟨#[48, 49, 50, 51, 52, 53, 54, 55, 56, 57, 65, 66, 67, 68, 69, 70]⟩) (.int .u8 2)).run Tryd.prog w = .ok (.int .u8 50) w := fun w => run_hex w 2 (by decide)
            have j2 : ∀ w, (Instr.index 9 (.string ⟨#[48, 49, 50, 51, 52, 53, 54, 55, 56, 57, 65, 66, 67, 68, 69, 70]⟩) (.int .u8 0)).run Tryd.prog w = .ok (.int .u8 48) w := fun w => run_hex w 0 (by decide)
            have d5 : IntKind.u8.wrap 2 = 2 := by decide
            have d6 : IntKind.u8.wrap 0 = 0 := by decide
            have HRC2 : Hid (CodeMath.raw x t = !(t.isEmpty || CodeMath.crlfAt t)) := Lib.hid (by rw [HRC, c32]; simp)
            clear i1 i2 d1 d2 d3 d4 hxv c32 HRC k61 hx8
            by_cases hend : i + 1 = m
            · have hendb : ((i : Int) + 1 == (m : Int)) = true := by rw [beq_iff_eq]; omega
              have hte : t = [] := List.eq_nil_of_length_eq_zero (by rw [HTL.out]; omega)
              have HRAW : Hid (CodeMath.raw x t = false) := Lib.hid (by rw [HRC2.out, hte]; rfl)
              clear hte
              obtain ⟨w4, hw4⟩ : ∃ w4, w4 = wr.alloc (.cells #[.int .u8 32] 5) := ⟨_, rfl⟩
              have hb4 : Below wr.heap.size wr w4 := by rw [hw4]; exact (Below.refl _ _).alloc (Nat.le_refl _) _
              have HO3 := Lib.hid (HO.out.below hb4)
              have HB3 : Hid (Below w.heap.size w w4) := Lib.hid (below_then HB.out HB.out.size hb4)
              have HTK : Hid (CodeMath.tok x t = [61, 50, 48]) := Lib.hid ((show CodeMath.tok x t = CodeMath.hexed x from if_neg (by rw [HRAW.out]; decide)).trans (congrArg CodeMath.hexed HX9.out))
              have HSL : Hid ((CodeMath.tok x t).length = 3) := Lib.hid (by rw [HTK.out]; rfl)
              have HG3 : Hid (∀ k, (Value.slice A0 np c00).ownBlock = some k → k < w4.heap.size) := Lib.hid (fun k hk => (HO3.out.lt k hk).2)
              have HW4 := Lib.hid hw4
              have hx0 : (wr.alloc (.cells #[.int .u8 32] 5)).cell? (a.add i) = some (.int .u8 32) := cell_alloc _ x0
              have HC : Hid (∀ W, CB w4.drew W → W.cell? (a.add i) = some (.int .u8 32)) := Lib.hid fun W hW => cell_below ((Below.drew (Below.refl _ w4)).trans hW) (by rw [hw4]; exact hx0)
              have HBW : Hid (∀ W, CB w4.drew W → Below w4.heap.size w4 W) := Lib.hid fun W hW => (Below.drew (Below.refl _ w4)).trans hW
              clear hw4 hb4
              go_wp2_with fail
              skip
              (try rw [← HW4.out])
              refine Stu.wp_region_stu _ (Stu.mkT [(14, clitS w4.heap.size 3 5 #[.int .u8 61, .int .u8 50, .int .u8 48])]) (fun _ => True) [] CB.refl (fun _ _ _ => CB.trans) (fun _ _ h => h) (fun _ _ _ _ => trivial) trivial (Stu.mkT_ks _ (by show List.Nodup [14]; decide) _ rfl) (by kernel_rfl) (by kernel_rfl) (by kernel_rfl) ?_
              repeat (first
                | (refine Stu.wpR_plain ?_ (by rfl) (by rfl) (fun K hK => ?_); (focus (first | (simp only [Region.wanted]; done) | (go_simp; done))); apply Exists.intro; refine ⟨fun W hW => ?_, ?_⟩; (go_simp; (try simp only [Stu.plainUpon_value, true_and]); rfl); go_simp; refine hK _ ?_; clear hK K)
                | (refine Stu.wpR_plain ?_ (by rfl) (by rfl) (fun K hK => ?_); (focus (first | (simp only [Region.wanted]; done) | (go_simp; done))); apply Exists.intro; refine ⟨fun W hW => ?_, ?_⟩; (have hcw := HC.out W hW; go_simp; (try simp only [Stu.plainUpon_value, true_and]); rfl); go_simp; refine hK _ ?_; clear hK K)
                | (refine Stu.wpR_spg (by rfl) (by rfl) ?_ ?_ (fun W hW hF => ?_) (fun K v hv hK => ?_); (focus (first | (simp only [Region.wanted]; done) | (go_simp; done))); (focus (exact ⟨_, 0, rfl⟩)); (go_simp; exact clit_rel hW.size _); (obtain ⟨g14, rfl⟩ := hv); go_simp; refine hK _ ?_; clear hK K))
              refine Stu.wpR_nil (fun W hW hU hF => ?_)
              obtain ⟨g', e1, hg1, hg2⟩ := (show (clitS w4.heap.size 3 5 #[.int .u8 61, .int .u8 50, .int .u8 48]).q [] (.slice (some ⟨g14, 0, none⟩) 3 3) W from hF 14)
              cases e1
              have HO4 := Lib.hid (HO3.out.below (HBW.out W hW))
              have HB4 := Lib.hid (below_then HB3.out HB3.out.size (HBW.out W hW))
              have HG4 : Hid (∀ k, (Value.slice A0 np c00).ownBlock = some k → k < g14) := Lib.hid (fun k hk => Nat.lt_of_lt_of_le (HG3.out k hk) hg1)
              have HRX : Hid (Rd W (some ⟨g14, 0, none⟩) ([61, 50, 48])) := Lib.hid (Rd.of_block (l := [61, 50, 48]) (show W.heap[g14]? = some (.cells (bv ([61, 50, 48])) 5) from hg2) (by simp [CodeMath.hexed]))
              clear hF hW hU HC HBW hg1 hg2 HW4 hx0 x0
              have HRD4 : Hid (Rd W (some ⟨g14, 0, none⟩) (CodeMath.tok x t)) := Lib.hid (by rw [HTK.out]; exact HRX.out)
              have HST2 : Hid (CodeMath.qpS k (x :: t) = if 75 < k + 3 then [61, 13, 10] ++ (CodeMath.tok x t ++ CodeMath.qpS 3 t) else CodeMath.tok x t ++ CodeMath.qpS (k + 3) t) := Lib.hid (by rw [HST.out, if_neg HNC.out, HSL.out])
              have hws : IntKind.i64.wrap ((k : Int) + 3) = ((k + 3 : Nat) : Int) := by rw [IntKind.wrap_i64]; omega
              have hws0 : IntKind.i64.wrap (0 + (3 : Int)) = ((3 : Nat) : Int) := by rw [IntKind.wrap_i64]; omega
              by_cases h75 : 75 < k + 3
              · have h75i : (75 : Int) < ((k + 3 : Nat) : Int) := by omega
                have h75j : (75 : Int) < (k : Int) + 3 := by omega
                have HEN : Hid (CodeMath.qpS 0 b = (pre ++ [61, 13, 10] ++ CodeMath.tok x t) ++ CodeMath.qpS 3 t) := Lib.hid (by rw [HE.out, HST2.out, if_pos h75]; simp)
                obtain ⟨W5, hW5⟩ : ∃ W5, W5 = World.alloc W (.cells #[.int .u8 61, .int .u8 13, .int .u8 10] 5) := ⟨_, rfl⟩
                have hb5 : Below (W).heap.size W W5 := by rw [hW5]; exact (Below.refl _ _).alloc (Nat.le_refl _) _
                obtain ⟨v6, W6, hrun6, ho6, hts6, hgr6⟩ := appb_run2 (m := 3) (c := 3) (HO4.out.below hb5) HZ.out (Rd.of_block (l := [61, 13, 10]) (show W5.heap[(W).heap.size]? = _ by rw [hW5]; exact heap_new _ _ _ rfl) (by simp)) rfl (Nat.le_trans HB4.out.size hb5.size) (by rw [← HNP.out]; simp; omega)
                obtain ⟨n6, hn6⟩ : ∃ n6, n6 = (pre ++ [61, 13, 10]).length := ⟨_, rfl⟩
                have HN6 : Hid (n6 = (pre ++ [61, 13, 10]).length ∧ n6 ≤ 7000010) := Lib.hid ⟨hn6, by rw [hn6, List.length_append, ← HNP.out]; show np + 3 ≤ _; omega⟩
                obtain ⟨A6, c6, rfl, _⟩ := ho6.shpn hn6.symm
                obtain ⟨v7, W7, hrun7, ho7, hts7⟩ := appb_run (m := 3) (c := 3) ho6 (fun e => by simp at e) ((HRD4.out.below hb5).grownBy hgr6 HG4.out) HSL.out.symm (Nat.le_trans HB4.out.size (Nat.le_trans hb5.size hts6.1.size)) (by rw [← HN6.out.1, HSL.out]; have := HN6.out.2; omega)
                obtain ⟨n7, hn7⟩ : ∃ n7, n7 = (pre ++ [61, 13, 10] ++ CodeMath.tok x t).length := ⟨_, rfl⟩
                obtain ⟨A7, c7, rfl, _⟩ := ho7.shpn hn7.symm
                have HW5 := Lib.hid hW5; have HR6 := Lib.hid hrun6; have HR7 := Lib.hid hrun7; have HO7 := Lib.hid ho7
                have HB7 : Hid (Below w.heap.size w W7) := Lib.hid (((below_then HB4.out HB4.out.size hb5).trans hts6.1).trans hts7.1)
                skip
                clear hW5 hb5 hrun6 ho6 hts6 hgr6 hrun7 ho7 hts7 hn6 hn7
                go_wp2_with (at_builtin; (try rw [← HW4.out]); (try rw [HWS.out]); (first | (rw [← HW5.out]; refine Lib.wpList_append_run _ rfl _ _ _ _ rfl _ _ rfl rfl _ _ HR6.out ?_) | refine Lib.wpList_append_run _ rfl _ _ _ _ rfl _ _ rfl rfl _ _ HR7.out ?_))
                go_roundw
                case rel => exact ⟨_, i + 1, 3, by go_num, by go_num, by omega, by omega, by rw [← HT.out]; exact HEN.out, HO7.out, fun e => absurd (List.append_eq_nil_iff.1 e).2 HNE.out, HB7.out⟩
                case measure => simp [intOf]; omega
              · have h75i : ¬ (75 : Int) < ((k + 3 : Nat) : Int) := by omega
                have h75j : ¬ (75 : Int) < (k : Int) + 3 := by omega
                have HEN : Hid (CodeMath.qpS 0 b = (pre ++ CodeMath.tok x t) ++ CodeMath.qpS (k + 3) t) := Lib.hid (by rw [HE.out, HST2.out, if_neg h75]; simp)
                obtain ⟨v7, W7, hrun7, ho7, hts7⟩ := appb_run (m := 3) (c := 3) HO4.out HZ.out HRD4.out HSL.out.symm HB4.out.size (by rw [← HNP.out, HSL.out]; omega)
                obtain ⟨n7, hn7⟩ : ∃ n7, n7 = (pre ++ CodeMath.tok x t).length := ⟨_, rfl⟩
                obtain ⟨A7, c7, rfl, _⟩ := ho7.shpn hn7.symm
                have HR7 := Lib.hid hrun7; have HO7 := Lib.hid ho7
                have HB7 : Hid (Below w.heap.size w W7) := Lib.hid (HB4.out.trans hts7.1)
                clear hrun7 ho7 hts7 hn7
                go_wp2_with (at_builtin; (try rw [← HW4.out]); refine Lib.wpList_append_run _ rfl _ _ _ _ rfl _ _ rfl rfl _ _ HR7.out ?_)
                go_roundw
                case rel => exact ⟨_, i + 1, k + 3, by go_num, by go_num, by omega, by omega, by rw [← HT.out]; exact HEN.out, HO7.out, fun e => absurd (List.append_eq_nil_iff.1 e).2 HNE.out, HB7.out⟩
                case measure => simp [intOf]; omega
            · have hendb : ((i : Int) + 1 == (m : Int)) = false := by rw [beq_eq_false_iff_ne]; omega
              have hte : t.isEmpty = false := by
                cases t with
                | nil => exfalso; have := HTL.out; simp at this; omega
                | cons y t => rfl
              cases hc2 : CodeMath.crlfAt t with
              | true =>
                have HRAW : Hid (CodeMath.raw x t = false) := Lib.hid (by rw [HRC2.out, hc2]; simp)
                rw [hc2] at HCR2
                clear hte hc2
                obtain ⟨w4, hw4⟩ : ∃ w4, w4 = wr.alloc (.cells #[.int .u8 32] 5) := ⟨_, rfl⟩
                have hb4 : Below wr.heap.size wr w4 := by rw [hw4]; exact (Below.refl _ _).alloc (Nat.le_refl _) _
                have HO3 := Lib.hid (HO.out.below hb4)
                have HB3 : Hid (Below w.heap.size w w4) := Lib.hid (below_then HB.out HB.out.size hb4)
                have HTK : Hid (CodeMath.tok x t = [61, 50, 48]) := Lib.hid ((show CodeMath.tok x t = CodeMath.hexed x from if_neg (by rw [HRAW.out]; decide)).trans (congrArg CodeMath.hexed HX9.out))
                have HSL : Hid ((CodeMath.tok x t).length = 3) := Lib.hid (by rw [HTK.out]; rfl)
                have HG3 : Hid (∀ k, (Value.slice A0 np c00).ownBlock = some k → k < w4.heap.size) := Lib.hid (fun k hk => (HO3.out.lt k hk).2)
                have HW4 := Lib.hid hw4
                have hx0 : (wr.alloc (.cells #[.int .u8 32] 5)).cell? (a.add i) = some (.int .u8 32) := cell_alloc _ x0
                have HC : Hid (∀ W, CB w4.drew W → W.cell? (a.add i) = some (.int .u8 32)) := Lib.hid fun W hW => cell_below ((Below.drew (Below.refl _ w4)).trans hW) (by rw [hw4]; exact hx0)
                have HBW : Hid (∀ W, CB w4.drew W → Below w4.heap.size w4 W) := Lib.hid fun W hW => (Below.drew (Below.refl _ w4)).trans hW
                clear hw4 hb4
                go_wp2_with fail
                (try rw [← HW4.out]); refine (HCR2.out w4 HB3.out).mono ?_; rintro e w5 ⟨rfl, he⟩; rw [he]; clear he; go_wp2_with fail
                (try rw [← HW4.out])
                refine Stu.wp_region_stu _ (Stu.mkT [(14, clitS w4.heap.size 3 5 #[.int .u8 61, .int .u8 50, .int .u8 48])]) (fun _ => True) [] CB.refl (fun _ _ _ => CB.trans) (fun _ _ h => h) (fun _ _ _ _ => trivial) trivial (Stu.mkT_ks _ (by show List.Nodup [14]; decide) _ rfl) (by kernel_rfl) (by kernel_rfl) (by kernel_rfl) ?_
                repeat (first
                  | (refine Stu.wpR_plain ?_ (by rfl) (by rfl) (fun K hK => ?_); (focus (first | (simp only [Region.wanted]; done) | (go_simp; done))); apply Exists.intro; refine ⟨fun W hW => ?_, ?_⟩; (go_simp; (try simp only [Stu.plainUpon_value, true_and]); rfl); go_simp; refine hK _ ?_; clear hK K)
                  | (refine Stu.wpR_plain ?_ (by rfl) (by rfl) (fun K hK => ?_); (focus (first | (simp only [Region.wanted]; done) | (go_simp; done))); apply Exists.intro; refine ⟨fun W hW => ?_, ?_⟩; (have hcw := HC.out W hW; go_simp; (try simp only [Stu.plainUpon_value, true_and]); rfl); go_simp; refine hK _ ?_; clear hK K)
                  | (refine Stu.wpR_spg (by rfl) (by rfl) ?_ ?_ (fun W hW hF => ?_) (fun K v hv hK => ?_); (focus (first | (simp only [Region.wanted]; done) | (go_simp; done))); (focus (exact ⟨_, 0, rfl⟩)); (go_simp; exact clit_rel hW.size _); (obtain ⟨g14, rfl⟩ := hv); go_simp; refine hK _ ?_; clear hK K))
                refine Stu.wpR_nil (fun W hW hU hF => ?_)
                obtain ⟨g', e1, hg1, hg2⟩ := (show (clitS w4.heap.size 3 5 #[.int .u8 61, .int .u8 50, .int .u8 48]).q [] (.slice (some ⟨g14, 0, none⟩) 3 3) W from hF 14)
                cases e1
                have HO4 := Lib.hid (HO3.out.below (HBW.out W hW))
                have HB4 := Lib.hid (below_then HB3.out HB3.out.size (HBW.out W hW))
                have HG4 : Hid (∀ k, (Value.slice A0 np c00).ownBlock = some k → k < g14) := Lib.hid (fun k hk => Nat.lt_of_lt_of_le (HG3.out k hk) hg1)
                have HRX : Hid (Rd W (some ⟨g14, 0, none⟩) ([61, 50, 48])) := Lib.hid (Rd.of_block (l := [61, 50, 48]) (show W.heap[g14]? = some (.cells (bv ([61, 50, 48])) 5) from hg2) (by simp [CodeMath.hexed]))
                clear hF hW hU HC HBW hg1 hg2 HW4 hx0 x0
                have HRD4 : Hid (Rd W (some ⟨g14, 0, none⟩) (CodeMath.tok x t)) := Lib.hid (by rw [HTK.out]; exact HRX.out)
                have HST2 : Hid (CodeMath.qpS k (x :: t) = if 75 < k + 3 then [61, 13, 10] ++ (CodeMath.tok x t ++ CodeMath.qpS 3 t) else CodeMath.tok x t ++ CodeMath.qpS (k + 3) t) := Lib.hid (by rw [HST.out, if_neg HNC.out, HSL.out])
                have hws : IntKind.i64.wrap ((k : Int) + 3) = ((k + 3 : Nat) : Int) := by rw [IntKind.wrap_i64]; omega
                have hws0 : IntKind.i64.wrap (0 + (3 : Int)) = ((3 : Nat) : Int) := by rw [IntKind.wrap_i64]; omega
                by_cases h75 : 75 < k + 3
                · have h75i : (75 : Int) < ((k + 3 : Nat) : Int) := by omega
                  have h75j : (75 : Int) < (k : Int) + 3 := by omega
                  have HEN : Hid (CodeMath.qpS 0 b = (pre ++ [61, 13, 10] ++ CodeMath.tok x t) ++ CodeMath.qpS 3 t) := Lib.hid (by rw [HE.out, HST2.out, if_pos h75]; simp)
                  obtain ⟨W5, hW5⟩ : ∃ W5, W5 = World.alloc W (.cells #[.int .u8 61, .int .u8 13, .int .u8 10] 5) := ⟨_, rfl⟩
                  have hb5 : Below (W).heap.size W W5 := by rw [hW5]; exact (Below.refl _ _).alloc (Nat.le_refl _) _
                  obtain ⟨v6, W6, hrun6, ho6, hts6, hgr6⟩ := appb_run2 (m := 3) (c := 3) (HO4.out.below hb5) HZ.out (Rd.of_block (l := [61, 13, 10]) (show W5.heap[(W).heap.size]? = _ by rw [hW5]; exact heap_new _ _ _ rfl) (by simp)) rfl (Nat.le_trans HB4.out.size hb5.size) (by rw [← HNP.out]; simp; omega)
                  obtain ⟨n6, hn6⟩ : ∃ n6, n6 = (pre ++ [61, 13, 10]).length := ⟨_, rfl⟩
                  have HN6 : Hid (n6 = (pre ++ [61, 13, 10]).length ∧ n6 ≤ 7000010) := Lib.hid ⟨hn6, by rw [hn6, List.length_append, ← HNP.out]; show np + 3 ≤ _; omega⟩
                  obtain ⟨A6, c6, rfl, _⟩ := ho6.shpn hn6.symm
                  obtain ⟨v7, W7, hrun7, ho7, hts7⟩ := appb_run (m := 3) (c := 3) ho6 (fun e => by simp at e) ((HRD4.out.below hb5).grownBy hgr6 HG4.out) HSL.out.symm (Nat.le_trans HB4.out.size (Nat.le_trans hb5.size hts6.1.size)) (by rw [← HN6.out.1, HSL.out]; have := HN6.out.2; omega)
                  obtain ⟨n7, hn7⟩ : ∃ n7, n7 = (pre ++ [61, 13, 10] ++ CodeMath.tok x t).length := ⟨_, rfl⟩
                  obtain ⟨A7, c7, rfl, _⟩ := ho7.shpn hn7.symm
                  have HW5 := Lib.hid hW5; have HR6 := Lib.hid hrun6; have HR7 := Lib.hid hrun7; have HO7 := Lib.hid ho7
                  have HB7 : Hid (Below w.heap.size w W7) := Lib.hid (((below_then HB4.out HB4.out.size hb5).trans hts6.1).trans hts7.1)
                  skip
                  clear hW5 hb5 hrun6 ho6 hts6 hgr6 hrun7 ho7 hts7 hn6 hn7
                  go_wp2_with (at_builtin; (try rw [← HW4.out]); (try rw [HWS.out]); (first | (rw [← HW5.out]; refine Lib.wpList_append_run _ rfl _ _ _ _ rfl _ _ rfl rfl _ _ HR6.out ?_) | refine Lib.wpList_append_run _ rfl _ _ _ _ rfl _ _ rfl rfl _ _ HR7.out ?_))
                  go_roundw
                  case rel => exact ⟨_, i + 1, 3, by go_num, by go_num, by omega, by omega, by rw [← HT.out]; exact HEN.out, HO7.out, fun e => absurd (List.append_eq_nil_iff.1 e).2 HNE.out, HB7.out⟩
                  case measure => simp [intOf]; omega
                · have h75i : ¬ (75 : Int) < ((k + 3 : Nat) : Int) := by omega
                  have h75j : ¬ (75 : Int) < (k : Int) + 3 := by omega
                  have HEN : Hid (CodeMath.qpS 0 b = (pre ++ CodeMath.tok x t) ++ CodeMath.qpS (k + 3) t) := Lib.hid (by rw [HE.out, HST2.out, if_neg h75]; simp)
                  obtain ⟨v7, W7, hrun7, ho7, hts7⟩ := appb_run (m := 3) (c := 3) HO4.out HZ.out HRD4.out HSL.out.symm HB4.out.size (by rw [← HNP.out, HSL.out]; omega)
                  obtain ⟨n7, hn7⟩ : ∃ n7, n7 = (pre ++ CodeMath.tok x t).length := ⟨_, rfl⟩
                  obtain ⟨A7, c7, rfl, _⟩ := ho7.shpn hn7.symm
                  have HR7 := Lib.hid hrun7; have HO7 := Lib.hid ho7
                  have HB7 : Hid (Below w.heap.size w W7) := Lib.hid (HB4.out.trans hts7.1)
                  clear hrun7 ho7 hts7 hn7
                  go_wp2_with (at_builtin; (try rw [← HW4.out]); refine Lib.wpList_append_run _ rfl _ _ _ _ rfl _ _ rfl rfl _ _ HR7.out ?_)
                  go_roundw
                  case rel => exact ⟨_, i + 1, k + 3, by go_num, by go_num, by omega, by omega, by rw [← HT.out]; exact HEN.out, HO7.out, fun e => absurd (List.append_eq_nil_iff.1 e).2 HNE.out, HB7.out⟩
                  case measure => simp [intOf]; omega
              | false =>
                have HRAW : Hid (CodeMath.raw x t = true) := Lib.hid (by rw [HRC2.out, hc2, hte]; rfl)
                rw [hc2] at HCR2
                clear hte hc2
                obtain ⟨w4, hw4⟩ : ∃ w4, w4 = wr.alloc (.cells #[.int .u8 32] 5) := ⟨_, rfl⟩
                have hb4 : Below wr.heap.size wr w4 := by rw [hw4]; exact (Below.refl _ _).alloc (Nat.le_refl _) _
                have HO4 := Lib.hid (HO.out.below hb4)
                have HB4 : Hid (Below w.heap.size w w4) := Lib.hid (below_then HB.out HB.out.size hb4)
                have HTK : Hid (CodeMath.tok x t = [32]) := Lib.hid ((show CodeMath.tok x t = [x] from if_pos HRAW.out).trans (congrArg (fun z => [z]) HX9.out))
                have HSL : Hid ((CodeMath.tok x t).length = 1) := Lib.hid (by rw [HTK.out]; rfl)
                have HG4 : Hid (∀ k, (Value.slice A0 np c00).ownBlock = some k → k < wr.heap.size) := Lib.hid (fun k hk => (HO.out.lt k hk).2)
                have HW4 := Lib.hid hw4
                have HWS : Hid (wr.heap.size + 1 = w4.heap.size) := Lib.hid (by rw [hw4]; simp)
                have hx0 : (wr.alloc (.cells #[.int .u8 32] 5)).cell? (a.add i) = some (.int .u8 32) := cell_alloc _ x0
                clear hw4 hb4
                go_wp2_with fail
                rw [← HW4.out]
                refine (HCR2.out w4 HB4.out).mono ?_
                rintro e w5 ⟨rfl, he⟩
                rw [he, HW4.out]
                clear he
                have HRD4 : Hid (Rd w4 (some ⟨wr.heap.size, 0, none⟩) (CodeMath.tok x t)) := Lib.hid (by rw [HTK.out, HW4.out]; exact Rd.of_block (l := [32]) (heap_new wr _ _ rfl) (by simp))
                have HST2 : Hid (CodeMath.qpS k (x :: t) = if 75 < k + 1 then [61, 13, 10] ++ (CodeMath.tok x t ++ CodeMath.qpS 1 t) else CodeMath.tok x t ++ CodeMath.qpS (k + 1) t) := Lib.hid (by rw [HST.out, if_neg HNC.out, HSL.out])
                have hws : IntKind.i64.wrap ((k : Int) + 1) = ((k + 1 : Nat) : Int) := by rw [IntKind.wrap_i64]; omega
                have hws0 : IntKind.i64.wrap (0 + (1 : Int)) = ((1 : Nat) : Int) := by rw [IntKind.wrap_i64]; omega
                by_cases h75 : 75 < k + 1
                · have h75i : (75 : Int) < ((k + 1 : Nat) : Int) := by omega
                  have h75j : (75 : Int) < (k : Int) + 1 := by omega
                  have HEN : Hid (CodeMath.qpS 0 b = (pre ++ [61, 13, 10] ++ CodeMath.tok x t) ++ CodeMath.qpS 1 t) := Lib.hid (by rw [HE.out, HST2.out, if_pos h75]; simp)
                  obtain ⟨W5, hW5⟩ : ∃ W5, W5 = World.alloc w4 (.cells #[.int .u8 61, .int .u8 13, .int .u8 10] 5) := ⟨_, rfl⟩
                  have hb5 : Below (w4).heap.size w4 W5 := by rw [hW5]; exact (Below.refl _ _).alloc (Nat.le_refl _) _
                  obtain ⟨v6, W6, hrun6, ho6, hts6, hgr6⟩ := appb_run2 (m := 3) (c := 3) (HO4.out.below hb5) HZ.out (Rd.of_block (l := [61, 13, 10]) (show W5.heap[(w4).heap.size]? = _ by rw [hW5]; exact heap_new _ _ _ rfl) (by simp)) rfl (Nat.le_trans HB4.out.size hb5.size) (by rw [← HNP.out]; simp; omega)
                  obtain ⟨n6, hn6⟩ : ∃ n6, n6 = (pre ++ [61, 13, 10]).length := ⟨_, rfl⟩
                  have HN6 : Hid (n6 = (pre ++ [61, 13, 10]).length ∧ n6 ≤ 7000010) := Lib.hid ⟨hn6, by rw [hn6, List.length_append, ← HNP.out]; show np + 3 ≤ _; omega⟩
                  obtain ⟨A6, c6, rfl, _⟩ := ho6.shpn hn6.symm
                  obtain ⟨v7, W7, hrun7, ho7, hts7⟩ := appb_run (m := 1) (c := 1) ho6 (fun e => by simp at e) ((HRD4.out.below hb5).grownBy hgr6 HG4.out) HSL.out.symm (Nat.le_trans HB4.out.size (Nat.le_trans hb5.size hts6.1.size)) (by rw [← HN6.out.1, HSL.out]; have := HN6.out.2; omega)
                  obtain ⟨n7, hn7⟩ : ∃ n7, n7 = (pre ++ [61, 13, 10] ++ CodeMath.tok x t).length := ⟨_, rfl⟩
                  obtain ⟨A7, c7, rfl, _⟩ := ho7.shpn hn7.symm
                  have HW5 := Lib.hid hW5; have HR6 := Lib.hid hrun6; have HR7 := Lib.hid hrun7; have HO7 := Lib.hid ho7
                  have HB7 : Hid (Below w.heap.size w W7) := Lib.hid (((below_then HB4.out HB4.out.size hb5).trans hts6.1).trans hts7.1)
                  skip
                  clear hW5 hb5 hrun6 ho6 hts6 hgr6 hrun7 ho7 hts7 hn6 hn7
                  go_wp2_with (at_builtin; (try rw [← HW4.out]); (try rw [HWS.out]); (first | (rw [← HW5.out]; refine Lib.wpList_append_run _ rfl _ _ _ _ rfl _ _ rfl rfl _ _ HR6.out ?_) | refine Lib.wpList_append_run _ rfl _ _ _ _ rfl _ _ rfl rfl _ _ HR7.out ?_))
                  go_roundw
                  case rel => exact ⟨_, i + 1, 1, by go_num, by go_num, by omega, by omega, by rw [← HT.out]; exact HEN.out, HO7.out, fun e => absurd (List.append_eq_nil_iff.1 e).2 HNE.out, HB7.out⟩
                  case measure => simp [intOf]; omega
                · have h75i : ¬ (75 : Int) < ((k + 1 : Nat) : Int) := by omega
                  have h75j : ¬ (75 : Int) < (k : Int) + 1 := by omega
                  have HEN : Hid (CodeMath.qpS 0 b = (pre ++ CodeMath.tok x t) ++ CodeMath.qpS (k + 1) t) := Lib.hid (by rw [HE.out, HST2.out, if_neg h75]; simp)
                  obtain ⟨v7, W7, hrun7, ho7, hts7⟩ := appb_run (m := 1) (c := 1) HO4.out HZ.out HRD4.out HSL.out.symm HB4.out.size (by rw [← HNP.out, HSL.out]; omega)
                  obtain ⟨n7, hn7⟩ : ∃ n7, n7 = (pre ++ CodeMath.tok x t).length := ⟨_, rfl⟩
                  obtain ⟨A7, c7, rfl, _⟩ := ho7.shpn hn7.symm
                  have HR7 := Lib.hid hrun7; have HO7 := Lib.hid ho7
                  have HB7 : Hid (Below w.heap.size w W7) := Lib.hid (HB4.out.trans hts7.1)
                  clear hrun7 ho7 hts7 hn7
                  go_wp2_with (at_builtin; (try rw [← HW4.out]); refine Lib.wpList_append_run _ rfl _ _ _ _ rfl _ _ rfl rfl _ _ HR7.out ?_)
                  go_roundw
                  case rel => exact ⟨_, i + 1, k + 1, by go_num, by go_num, by omega, by omega, by rw [← HT.out]; exact HEN.out, HO7.out, fun e => absurd (List.append_eq_nil_iff.1 e).2 HNE.out, HB7.out⟩
                  case measure => simp [intOf]; omega
          · have k32 : ((x.toNat : Int) == 32) = false := u8_ne 32 rfl c32
            have n32 : (x == 32) = false := by rw [beq_eq_false_iff_ne]; exact c32
            rw [n32] at HRC
            by_cases c9 : x = 9
            · clear k32
              have HX9 := Lib.hid c9
              have hxv : (x.toNat : Int) = 9 := by rw [c9]; rfl
              rw [hxv] at x0
              have j1 : ∀ w, (Instr.index 9 (.string ⟨#[48, 49, 50, 51, 52, 53, 54, 55, 56, 57, 65, 66, 67, 68, 69, 70]⟩) (.int .u8 0)).run Tryd.prog w = .ok (.int .u8 48) w := fun w => run_hex w 0 (by decide)
              have j2 : ∀ w, (Instr.index 9 (.string ⟨#[48, 49, 50, 51, 52, 53, 54, 55, 56, 57, 65, 66, 67, 68, 69, 70]⟩) (.int .u8 9)).run Tryd.prog w = .ok (.int .u8 57) w := fun w => run_hex w 9 (by decide)
              have d5 : IntKind.u8.wrap 0 = 0 := by decide
              have d6 : IntKind.u8.wrap 9 = 9 := by decide
              have HRC2 : Hid (CodeMath.raw x t = !(t.isEmpty || CodeMath.crlfAt t)) := Lib.hid (by rw [HRC, c9]; simp)
              clear i1 i2 d1 d2 d3 d4 hxv c9 HRC k61 hx8
              by_cases hend : i + 1 = m
              · have hendb : ((i : Int) + 1 == (m : Int)) = true := by rw [beq_iff_eq]; omega
                have hte : t = [] := List.eq_nil_of_length_eq_zero (by rw [HTL.out]; omega)
                have HRAW : Hid (CodeMath.raw x t = false) := Lib.hid (by rw [HRC2.out, hte]; rfl)
                clear hte
                obtain ⟨w4, hw4⟩ : ∃ w4, w4 = wr.alloc (.cells #[.int .u8 9] 5) := ⟨_, rfl⟩
                have hb4 : Below wr.heap.size wr w4 := by rw [hw4]; exact (Below.refl _ _).alloc (Nat.le_refl _) _
                have HO3 := Lib.hid (HO.out.below hb4)
                have HB3 : Hid (Below w.heap.size w w4) := Lib.hid (below_then HB.out HB.out.size hb4)
                have HTK : Hid (CodeMath.tok x t = [61, 48, 57]) := Lib.hid ((show CodeMath.tok x t = CodeMath.hexed x from if_neg (by rw [HRAW.out]; decide)).trans (congrArg CodeMath.hexed HX9.out))
                have HSL : Hid ((CodeMath.tok x t).length = 3) := Lib.hid (by rw [HTK.out]; rfl)
                have HG3 : Hid (∀ k, (Value.slice A0 np c00).ownBlock = some k → k < w4.heap.size) := Lib.hid (fun k hk => (HO3.out.lt k hk).2)
                have HW4 := Lib.hid hw4
                have hx0 : (wr.alloc (.cells #[.int .u8 9] 5)).cell? (a.add i) = some (.int .u8 9) := cell_alloc _ x0
                have HC : Hid (∀ W, CB w4.drew W → W.cell? (a.add i) = some (.int .u8 9)) := Lib.hid fun W hW => cell_below ((Below.drew (Below.refl _ w4)).trans hW) (by rw [hw4]; exact hx0)
                have HBW : Hid (∀ W, CB w4.drew W → Below w4.heap.size w4 W) := Lib.hid fun W hW => (Below.drew (Below.refl _ w4)).trans hW
                clear hw4 hb4
                go_wp2_with fail
                skip
                (try rw [← HW4.out])
                refine Stu.wp_region_stu _ (Stu.mkT [(14, clitS w4.heap.size 3 5 #[.int .u8 61, .int .u8 48, .int .u8 57])]) (fun _ => True) [] CB.refl (fun _ _ _ => CB.trans) (fun _ _ h => h) (fun _ _ _ _ => trivial) trivial (Stu.mkT_ks _ (by show List.Nodup [14]; decide) _ rfl) (by kernel_rfl) (by kernel_rfl) (by kernel_rfl) ?_
                repeat (first
                  | (refine Stu.wpR_plain ?_ (by rfl) (by rfl) (fun K hK => ?_); (focus (first | (simp only [Region.wanted]; done) | (go_simp; done))); apply Exists.intro; refine ⟨fun W hW => ?_, ?_⟩; (go_simp; (try simp only [Stu.plainUpon_value, true_and]); rfl); go_simp; refine hK _ ?_; clear hK K)
                  | (refine Stu.wpR_plain ?_ (by rfl) (by rfl) (fun K hK => ?_); (focus (first | (simp only [Region.wanted]; done) | (go_simp; done))); apply Exists.intro; refine ⟨fun W hW => ?_, ?_⟩; (have hcw := HC.out W hW; go_simp; (try simp only [Stu.plainUpon_value, true_and]); rfl); go_simp; refine hK _ ?_; clear hK K)
                  | (refine Stu.wpR_spg (by rfl) (by rfl) ?_ ?_ (fun W hW hF => ?_) (fun K v hv hK => ?_); (focus (first | (simp only [Region.wanted]; done) | (go_simp; done))); (focus (exact ⟨_, 0, rfl⟩)); (go_simp; exact clit_rel hW.size _); (obtain ⟨g14, rfl⟩ := hv); go_simp; refine hK _ ?_; clear hK K))
                refine Stu.wpR_nil (fun W hW hU hF => ?_)
                obtain ⟨g', e1, hg1, hg2⟩ := (show (clitS w4.heap.size 3 5 #[.int .u8 61, .int .u8 48, .int .u8 57]).q [] (.slice (some ⟨g14, 0, none⟩) 3 3) W from hF 14)
                cases e1
                have HO4 := Lib.hid (HO3.out.below (HBW.out W hW))
                have HB4 := Lib.hid (below_then HB3.out HB3.out.size (HBW.out W hW))
                have HG4 : Hid (∀ k, (Value.slice A0 np c00).ownBlock = some k → k < g14) := Lib.hid (fun k hk => Nat.lt_of_lt_of_le (HG3.out k hk) hg1)
                have HRX : Hid (Rd W (some ⟨g14, 0, none⟩) ([61, 48, 57])) := Lib.hid (Rd.of_block (l := [61, 48, 57]) (show W.heap[g14]? = some (.cells (bv ([61, 48, 57])) 5) from hg2) (by simp [CodeMath.hexed]))
                clear hF hW hU HC HBW hg1 hg2 HW4 hx0 x0
                have HRD4 : Hid (Rd W (some ⟨g14, 0, none⟩) (CodeMath.tok x t)) := Lib.hid (by rw [HTK.out]; exact HRX.out)
                have HST2 : Hid (CodeMath.qpS k (x :: t) = if 75 < k + 3 then [61, 13, 10] ++ (CodeMath.tok x t ++ CodeMath.qpS 3 t) else CodeMath.tok x t ++ CodeMath.qpS (k + 3) t) := Lib.hid (by rw [HST.out, if_neg HNC.out, HSL.out])
                have hws : IntKind.i64.wrap ((k : Int) + 3) = ((k + 3 : Nat) : Int) := by rw [IntKind.wrap_i64]; omega
                have hws0 : IntKind.i64.wrap (0 + (3 : Int)) = ((3 : Nat) : Int) := by rw [IntKind.wrap_i64]; omega
                by_cases h75 : 75 < k + 3
                · have h75i : (75 : Int) < ((k + 3 : Nat) : Int) := by omega
                  have h75j : (75 : Int) < (k : Int) + 3 := by omega
                  have HEN : Hid (CodeMath.qpS 0 b = (pre ++ [61, 13, 10] ++ CodeMath.tok x t) ++ CodeMath.qpS 3 t) := Lib.hid (by rw [HE.out, HST2.out, if_pos h75]; simp)
                  obtain ⟨W5, hW5⟩ : ∃ W5, W5 = World.alloc W (.cells #[.int .u8 61, .int .u8 13, .int .u8 10] 5) := ⟨_, rfl⟩
                  have hb5 : Below (W).heap.size W W5 := by rw [hW5]; exact (Below.refl _ _).alloc (Nat.le_refl _) _
                  obtain ⟨v6, W6, hrun6, ho6, hts6, hgr6⟩ := appb_run2 (m := 3) (c := 3) (HO4.out.below hb5) HZ.out (Rd.of_block (l := [61, 13, 10]) (show W5.heap[(W).heap.size]? = _ by rw [hW5]; exact heap_new _ _ _ rfl) (by simp)) rfl (Nat.le_trans HB4.out.size hb5.size) (by rw [← HNP.out]; simp; omega)
                  obtain ⟨n6, hn6⟩ : ∃ n6, n6 = (pre ++ [61, 13, 10]).length := ⟨_, rfl⟩
                  have HN6 : Hid (n6 = (pre ++ [61, 13, 10]).length ∧ n6 ≤ 7000010) := Lib.hid ⟨hn6, by rw [hn6, List.length_append, ← HNP.out]; show np + 3 ≤ _; omega⟩
                  obtain ⟨A6, c6, rfl, _⟩ := ho6.shpn hn6.symm
                  obtain ⟨v7, W7, hrun7, ho7, hts7⟩ := appb_run (m := 3) (c := 3) ho6 (fun e => by simp at e) ((HRD4.out.below hb5).grownBy hgr6 HG4.out) HSL.out.symm (Nat.le_trans HB4.out.size (Nat.le_trans hb5.size hts6.1.size)) (by rw [← HN6.out.1, HSL.out]; have := HN6.out.2; omega)
                  obtain ⟨n7, hn7⟩ : ∃ n7, n7 = (pre ++ [61, 13, 10] ++ CodeMath.tok x t).length := ⟨_, rfl⟩
                  obtain ⟨A7, c7, rfl, _⟩ := ho7.shpn hn7.symm
                  have HW5 := Lib.hid hW5; have HR6 := Lib.hid hrun6; have HR7 := Lib.hid hrun7; have HO7 := Lib.hid ho7
                  have HB7 : Hid (Below w.heap.size w W7) := Lib.hid (((below_then HB4.out HB4.out.size hb5).trans hts6.1).trans hts7.1)
                  skip
                  clear hW5 hb5 hrun6 ho6 hts6 hgr6 hrun7 ho7 hts7 hn6 hn7
                  go_wp2_with (at_builtin; (try rw [← HW4.out]); (try rw [HWS.out]); (first | (rw [← HW5.out]; refine Lib.wpList_append_run _ rfl _ _ _ _ rfl _ _ rfl rfl _ _ HR6.out ?_) | refine Lib.wpList_append_run _ rfl _ _ _ _ rfl _ _ rfl rfl _ _ HR7.out ?_))
                  go_roundw
                  case rel => exact ⟨_, i + 1, 3, by go_num, by go_num, by omega, by omega, by rw [← HT.out]; exact HEN.out, HO7.out, fun e => absurd (List.append_eq_nil_iff.1 e).2 HNE.out, HB7.out⟩
                  case measure => simp [intOf]; omega
                · have h75i : ¬ (75 : Int) < ((k + 3 : Nat) : Int) := by omega
                  have h75j : ¬ (75 : Int) < (k : Int) + 3 := by omega
                  have HEN : Hid (CodeMath.qpS 0 b = (pre ++ CodeMath.tok x t) ++ CodeMath.qpS (k + 3) t) := Lib.hid (by rw [HE.out, HST2.out, if_neg h75]; simp)
                  obtain ⟨v7, W7, hrun7, ho7, hts7⟩ := appb_run (m := 3) (c := 3) HO4.out HZ.out HRD4.out HSL.out.symm HB4.out.size (by rw [← HNP.out, HSL.out]; omega)
                  obtain ⟨n7, hn7⟩ : ∃ n7, n7 = (pre ++ CodeMath.tok x t).length := ⟨_, rfl⟩
                  obtain ⟨A7, c7, rfl, _⟩ := ho7.shpn hn7.symm
                  have HR7 := Lib.hid hrun7; have HO7 := Lib.hid ho7
                  have HB7 : Hid (Below w.heap.size w W7) := Lib.hid (HB4.out.trans hts7.1)
                  clear hrun7 ho7 hts7 hn7
                  go_wp2_with (at_builtin; (try rw [← HW4.out]); refine Lib.wpList_append_run _ rfl _ _ _ _ rfl _ _ rfl rfl _ _ HR7.out ?_)
                  go_roundw
                  case rel => exact ⟨_, i + 1, k + 3, by go_num, by go_num, by omega, by omega, by rw [← HT.out]; exact HEN.out, HO7.out, fun e => absurd (List.append_eq_nil_iff.1 e).2 HNE.out, HB7.out⟩
                  case measure => simp [intOf]; omega
              · have hendb : ((i : Int) + 1 == (m : Int)) = false := by rw [beq_eq_false_iff_ne]; omega
                have hte : t.isEmpty = false := by
                  cases t with
                  | nil => exfalso; have := HTL.out; simp at this; omega
                  | cons y t => rfl
                cases hc2 : CodeMath.crlfAt t with
                | true =>
                  have HRAW : Hid (CodeMath.raw x t = false) := Lib.hid (by rw [HRC2.out, hc2]; simp)
                  rw [hc2] at HCR2
                  clear hte hc2
                  obtain ⟨w4, hw4⟩ : ∃ w4, w4 = wr.alloc (.cells #[.int .u8 9] 5) := ⟨_, rfl⟩
                  have hb4 : Below wr.heap.size wr w4 := by rw [hw4]; exact (Below.refl _ _).alloc (Nat.le_refl _) _
                  have HO3 := Lib.hid (HO.out.below hb4)
                  have HB3 : Hid (Below w.heap.size w w4) := Lib.hid (below_then HB.out HB.out.size hb4)
                  have HTK : Hid (CodeMath.tok x t = [61, 48, 57]) := Lib.hid ((show CodeMath.tok x t = CodeMath.hexed x from if_neg (by rw [HRAW.out]; decide)).trans (congrArg CodeMath.hexed HX9.out))
                  have HSL : Hid ((CodeMath.tok x t).length = 3) := Lib.hid (by rw [HTK.out]; rfl)
                  have HG3 : Hid (∀ k, (Value.slice A0 np c00).ownBlock = some k → k < w4.heap.size) := Lib.hid (fun k hk => (HO3.out.lt k hk).2)
                  have HW4 := Lib.hid hw4
                  have hx0 : (wr.alloc (.cells #[.int .u8 9] 5)).cell? (a.add i) = some (.int .u8 9) := cell_alloc _ x0
                  have HC : Hid (∀ W, CB w4.drew W → W.cell? (a.add i) = some (.int .u8 9)) := Lib.hid fun W hW => cell_below ((Below.drew (Below.refl _ w4)).trans hW) (by rw [hw4]; exact hx0)
                  have HBW : Hid (∀ W, CB w4.drew W → Below w4.heap.size w4 W) := Lib.hid fun W hW => (Below.drew (Below.refl _ w4)).trans hW
                  clear hw4 hb4
                  go_wp2_with fail
                  (try rw [← HW4.out]); refine (HCR2.out w4 HB3.out).mono ?_; rintro e w5 ⟨rfl, he⟩; rw [he]; clear he; go_wp2_with fail
                  (try rw [← HW4.out])
                  refine Stu.wp_region_stu _ (Stu.mkT [(14, clitS w4.heap.size 3 5 #[.int .u8 61, .int .u8 48, .int .u8 57])]) (fun _ => True) [] CB.refl (fun _ _ _ => CB.trans) (fun _ _ h => h) (fun _ _ _ _ => trivial) trivial (Stu.mkT_ks _ (by show List.Nodup [14]; decide) _ rfl) (by kernel_rfl) (by kernel_rfl) (by kernel_rfl) ?_
                  repeat (first
                    | (refine Stu.wpR_plain ?_ (by rfl) (by rfl) (fun K hK => ?_); (focus (first | (simp only [Region.wanted]; done) | (go_simp; done))); apply Exists.intro; refine ⟨fun W hW => ?_, ?_⟩; (go_simp; (try simp only [Stu.plainUpon_value, true_and]); rfl); go_simp; refine hK _ ?_; clear hK K)
                    | (refine Stu.wpR_plain ?_ (by rfl) (by rfl) (fun K hK => ?_); (focus (first | (simp only [Region.wanted]; done) | (go_simp; done))); apply Exists.intro; refine ⟨fun W hW => ?_, ?_⟩; (have hcw := HC.out W hW; go_simp; (try simp only [Stu.plainUpon_value, true_and]); rfl); go_simp; refine hK _ ?_; clear hK K)
                    | (refine Stu.wpR_spg (by rfl) (by rfl) ?_ ?_ (fun W hW hF => ?_) (fun K v hv hK => ?_); (focus (first | (simp only [Region.wanted]; done) | (go_simp; done))); (focus (exact ⟨_, 0, rfl⟩)); (go_simp; exact clit_rel hW.size _); (obtain ⟨g14, rfl⟩ := hv); go_simp; refine hK _ ?_; clear hK K))
                  refine Stu.wpR_nil (fun W hW hU hF => ?_)
                  obtain ⟨g', e1, hg1, hg2⟩ := (show (clitS w4.heap.size 3 5 #[.int .u8 61, .int .u8 48, .int .u8 57]).q [] (.slice (some ⟨g14, 0, none⟩) 3 3) W from hF 14)
                  cases e1
                  have HO4 := Lib.hid (HO3.out.below (HBW.out W hW))
                  have HB4 := Lib.hid (below_then HB3.out HB3.out.size (HBW.out W hW))
                  have HG4 : Hid (∀ k, (Value.slice A0 np c00).ownBlock = some k → k < g14) := Lib.hid (fun k hk => Nat.lt_of_lt_of_le (HG3.out k hk) hg1)
                  have HRX : Hid (Rd W (some ⟨g14, 0, none⟩) ([61, 48, 57])) := Lib.hid (Rd.of_block (l := [61, 48, 57]) (show W.heap[g14]? = some (.cells (bv ([61, 48, 57])) 5) from hg2) (by simp [CodeMath.hexed]))
                  clear hF hW hU HC HBW hg1 hg2 HW4 hx0 x0
                  have HRD4 : Hid (Rd W (some ⟨g14, 0, none⟩) (CodeMath.tok x t)) := Lib.hid (by rw [HTK.out]; exact HRX.out)
                  have HST2 : Hid (CodeMath.qpS k (x :: t) = if 75 < k + 3 then [61, 13, 10] ++ (CodeMath.tok x t ++ CodeMath.qpS 3 t) else CodeMath.tok x t ++ CodeMath.qpS (k + 3) t) := Lib.hid (by rw [HST.out, if_neg HNC.out, HSL.out])
                  have hws : IntKind.i64.wrap ((k : Int) + 3) = ((k + 3 : Nat) : Int) := by rw [IntKind.wrap_i64]; omega
                  have hws0 : IntKind.i64.wrap (0 + (3 : Int)) = ((3 : Nat) : Int) := by rw [IntKind.wrap_i64]; omega
                  by_cases h75 : 75 < k + 3
                  · have h75i : (75 : Int) < ((k + 3 : Nat) : Int) := by omega
                    have h75j : (75 : Int) < (k : Int) + 3 := by omega
                    have HEN : Hid (CodeMath.qpS 0 b = (pre ++ [61, 13, 10] ++ CodeMath.tok x t) ++ CodeMath.qpS 3 t) := Lib.hid (by rw [HE.out, HST2.out, if_pos h75]; simp)
                    obtain ⟨W5, hW5⟩ : ∃ W5, W5 = World.alloc W (.cells #[.int .u8 61, .int .u8 13, .int .u8 10] 5) := ⟨_, rfl⟩
                    have hb5 : Below (W).heap.size W W5 := by rw [hW5]; exact (Below.refl _ _).alloc (Nat.le_refl _) _
                    obtain ⟨v6, W6, hrun6, ho6, hts6, hgr6⟩ := appb_run2 (m := 3) (c := 3) (HO4.out.below hb5) HZ.out (Rd.of_block (l := [61, 13, 10]) (show W5.heap[(W).heap.size]? = _ by rw [hW5]; exact heap_new _ _ _ rfl) (by simp)) rfl (Nat.le_trans HB4.out.size hb5.size) (by rw [← HNP.out]; simp; omega)
                    obtain ⟨n6, hn6⟩ : ∃ n6, n6 = (pre ++ [61, 13, 10]).length := ⟨_, rfl⟩
                    have HN6 : Hid (n6 = (pre ++ [61, 13, 10]).length ∧ n6 ≤ 7000010) := Lib.hid ⟨hn6, by rw [hn6, List.length_append, ← HNP.out]; show np + 3 ≤ _; omega⟩
                    obtain ⟨A6, c6, rfl, _⟩ := ho6.shpn hn6.symm
                    obtain ⟨v7, W7, hrun7, ho7, hts7⟩ := appb_run (m := 3) (c := 3) ho6 (fun e => by simp at e) ((HRD4.out.below hb5).grownBy hgr6 HG4.out) HSL.out.symm (Nat.le_trans HB4.out.size (Nat.le_trans hb5.size hts6.1.size)) (by rw [← HN6.out.1, HSL.out]; have := HN6.out.2; omega)
                    obtain ⟨n7, hn7⟩ : ∃ n7, n7 = (pre ++ [61, 13, 10] ++ CodeMath.tok x t).length := ⟨_, rfl⟩
                    obtain ⟨A7, c7, rfl, _⟩ := ho7.shpn hn7.symm
                    have HW5 := Lib.hid hW5; have HR6 := Lib.hid hrun6; have HR7 := Lib.hid hrun7; have HO7 := Lib.hid ho7
                    have HB7 : Hid (Below w.heap.size w W7) := Lib.hid (((below_then HB4.out HB4.out.size hb5).trans hts6.1).trans hts7.1)
                    skip
                    clear hW5 hb5 hrun6 ho6 hts6 hgr6 hrun7 ho7 hts7 hn6 hn7
                    go_wp2_with (at_builtin; (try rw [← HW4.out]); (try rw [HWS.out]); (first | (rw [← HW5.out]; refine Lib.wpList_append_run _ rfl _ _ _ _ rfl _ _ rfl rfl _ _ HR6.out ?_) | refine Lib.wpList_append_run _ rfl _ _ _ _ rfl _ _ rfl rfl _ _ HR7.out ?_))
                    go_roundw
                    case rel => exact ⟨_, i + 1, 3, by go_num, by go_num, by omega, by omega, by rw [← HT.out]; exact HEN.out, HO7.out, fun e => absurd (List.append_eq_nil_iff.1 e).2 HNE.out, HB7.out⟩
                    case measure => simp [intOf]; omega
                  · have h75i : ¬ (75 : Int) < ((k + 3 : Nat) : Int) := by omega
                    have h75j : ¬ (75 : Int) < (k : Int) + 3 := by omega
                    have HEN : Hid (CodeMath.qpS 0 b = (pre ++ CodeMath.tok x t) ++ CodeMath.qpS (k + 3) t) := Lib.hid (by rw [HE.out, HST2.out, if_neg h75]; simp)
                    obtain ⟨v7, W7, hrun7, ho7, hts7⟩ := appb_run (m := 3) (c := 3) HO4.out HZ.out HRD4.out HSL.out.symm HB4.out.size (by rw [← HNP.out, HSL.out]; omega)
                    obtain ⟨n7, hn7⟩ : ∃ n7, n7 = (pre ++ CodeMath.tok x t).length := ⟨_, rfl⟩
                    obtain ⟨A7, c7, rfl, _⟩ := ho7.shpn hn7.symm
                    have HR7 := Lib.hid hrun7; have HO7 := Lib.hid ho7
                    have HB7 : Hid (Below w.heap.size w W7) := Lib.hid (HB4.out.trans hts7.1)
                    clear hrun7 ho7 hts7 hn7
                    go_wp2_with (at_builtin; (try rw [← HW4.out]); refine Lib.wpList_append_run _ rfl _ _ _ _ rfl _ _ rfl rfl _ _ HR7.out ?_)
                    go_roundw
                    case rel => exact ⟨_, i + 1, k + 3, by go_num, by go_num, by omega, by omega, by rw [← HT.out]; exact HEN.out, HO7.out, fun e => absurd (List.append_eq_nil_iff.1 e).2 HNE.out, HB7.out⟩
                    case measure => simp [intOf]; omega
                | false =>
                  have HRAW : Hid (CodeMath.raw x t = true) := Lib.hid (by rw [HRC2.out, hc2, hte]; rfl)
                  rw [hc2] at HCR2
                  clear hte hc2
                  obtain ⟨w4, hw4⟩ : ∃ w4, w4 = wr.alloc (.cells #[.int .u8 9] 5) := ⟨_, rfl⟩
                  have hb4 : Below wr.heap.size wr w4 := by rw [hw4]; exact (Below.refl _ _).alloc (Nat.le_refl _) _
                  have HO4 := Lib.hid (HO.out.below hb4)
                  have HB4 : Hid (Below w.heap.size w w4) := Lib.hid (below_then HB.out HB.out.size hb4)
                  have HTK : Hid (CodeMath.tok x t = [9]) := Lib.hid ((show CodeMath.tok x t = [x] from if_pos HRAW.out).trans (congrArg (fun z => [z]) HX9.out))
                  have HSL : Hid ((CodeMath.tok x t).length = 1) := Lib.hid (by rw [HTK.out]; rfl)
                  have HG4 : Hid (∀ k, (Value.slice A0 np c00).ownBlock = some k → k < wr.heap.size) := Lib.hid (fun k hk => (HO.out.lt k hk).2)
                  have HW4 := Lib.hid hw4
                  have HWS : Hid (wr.heap.size + 1 = w4.heap.size) := Lib.hid (by rw [hw4]; simp)
                  have hx0 : (wr.alloc (.cells #[.int .u8 9] 5)).cell? (a.add i) = some (.int .u8 9) := cell_alloc _ x0
                  clear hw4 hb4
                  go_wp2_with fail
                  rw [← HW4.out]
                  refine (HCR2.out w4 HB4.out).mono ?_
                  rintro e w5 ⟨rfl, he⟩
                  rw [he, HW4.out]
                  clear he
                  have HRD4 : Hid (Rd w4 (some ⟨wr.heap.size, 0, none⟩) (CodeMath.tok x t)) := Lib.hid (by rw [HTK.out, HW4.out]; exact Rd.of_block (l := [9]) (heap_new wr _ _ rfl) (by simp))
                  have HST2 : Hid (CodeMath.qpS k (x :: t) = if 75 < k + 1 then [61, 13, 10] ++ (CodeMath.tok x t ++ CodeMath.qpS 1 t) else CodeMath.tok x t ++ CodeMath.qpS (k + 1) t) := Lib.hid (by rw [HST.out, if_neg HNC.out, HSL.out])
                  have hws : IntKind.i64.wrap ((k : Int) + 1) = ((k + 1 : Nat) : Int) := by rw [IntKind.wrap_i64]; omega
                  have hws0 : IntKind.i64.wrap (0 + (1 : Int)) = ((1 : Nat) : Int) := by rw [IntKind.wrap_i64]; omega
                  by_cases h75 : 75 < k + 1
                  · have h75i : (75 : Int) < ((k + 1 : Nat) : Int) := by omega
                    have h75j : (75 : Int) < (k : Int) + 1 := by omega
                    have HEN : Hid (CodeMath.qpS 0 b = (pre ++ [61, 13, 10] ++ CodeMath.tok x t) ++ CodeMath.qpS 1 t) := Lib.hid (by rw [HE.out, HST2.out, if_pos h75]; simp)
                    obtain ⟨W5, hW5⟩ : ∃ W5, W5 = World.alloc w4 (.cells #[.int .u8 61, .int .u8 13, .int .u8 10] 5) := ⟨_, rfl⟩
                    have hb5 : Below (w4).heap.size w4 W5 := by rw [hW5]; exact (Below.refl _ _).alloc (Nat.le_refl _) _
                    obtain ⟨v6, W6, hrun6, ho6, hts6, hgr6⟩ := appb_run2 (m := 3) (c := 3) (HO4.out.below hb5) HZ.out (Rd.of_block (l := [61, 13, 10]) (show W5.heap[(w4).heap.size]? = _ by rw [hW5]; exact heap_new _ _ _ rfl) (by simp)) rfl (Nat.le_trans HB4.out.size hb5.size) (by rw [← HNP.out]; simp; omega)
                    obtain ⟨n6, hn6⟩ : ∃ n6, n6 = (pre ++ [61, 13, 10]).length := ⟨_, rfl⟩
                    have HN6 : Hid (n6 = (pre ++ [61, 13, 10]).length ∧ n6 ≤ 7000010) := Lib.hid ⟨hn6, by rw [hn6, List.length_append, ← HNP.out]; show np + 3 ≤ _; omega⟩
                    obtain ⟨A6, c6, rfl, _⟩ := ho6.shpn hn6.symm
                    obtain ⟨v7, W7, hrun7, ho7, hts7⟩ := appb_run (m := 1) (c := 1) ho6 (fun e => by simp at e) ((HRD4.out.below hb5).grownBy hgr6 HG4.out) HSL.out.symm (Nat.le_trans HB4.out.size (Nat.le_trans hb5.size hts6.1.size)) (by rw [← HN6.out.1, HSL.out]; have := HN6.out.2; omega)
                    obtain ⟨n7, hn7⟩ : ∃ n7, n7 = (pre ++ [61, 13, 10] ++ CodeMath.tok x t).length := ⟨_, rfl⟩
                    obtain ⟨A7, c7, rfl, _⟩ := ho7.shpn hn7.symm
                    have HW5 := Lib.hid hW5; have HR6 := Lib.hid hrun6; have HR7 := Lib.hid hrun7; have HO7 := Lib.hid ho7
                    have HB7 : Hid (Below w.heap.size w W7) := Lib.hid (((below_then HB4.out HB4.out.size hb5).trans hts6.1).trans hts7.1)
                    skip
                    clear hW5 hb5 hrun6 ho6 hts6 hgr6 hrun7 ho7 hts7 hn6 hn7
                    go_wp2_with (at_builtin; (try rw [← HW4.out]); (try rw [HWS.out]); (first | (rw [← HW5.out]; refine Lib.wpList_append_run _ rfl _ _ _ _ rfl _ _ rfl rfl _ _ HR6.out ?_) | refine Lib.wpList_append_run _ rfl _ _ _ _ rfl _ _ rfl rfl _ _ HR7.out ?_))
                    go_roundw
                    case rel => exact ⟨_, i + 1, 1, by go_num, by go_num, by omega, by omega, by rw [← HT.out]; exact HEN.out, HO7.out, fun e => absurd (List.append_eq_nil_iff.1 e).2 HNE.out, HB7.out⟩
                    case measure => simp [intOf]; omega
                  · have h75i : ¬ (75 : Int) < ((k + 1 : Nat) : Int) := by omega
                    have h75j : ¬ (75 : Int) < (k : Int) + 1 := by omega
                    have HEN : Hid (CodeMath.qpS 0 b = (pre ++ CodeMath.tok x t) ++ CodeMath.qpS (k + 1) t) := Lib.hid (by rw [HE.out, HST2.out, if_neg h75]; simp)
                    obtain ⟨v7, W7, hrun7, ho7, hts7⟩ := appb_run (m := 1) (c := 1) HO4.out HZ.out HRD4.out HSL.out.symm HB4.out.size (by rw [← HNP.out, HSL.out]; omega)
                    obtain ⟨n7, hn7⟩ : ∃ n7, n7 = (pre ++ CodeMath.tok x t).length := ⟨_, rfl⟩
                    obtain ⟨A7, c7, rfl, _⟩ := ho7.shpn hn7.symm
                    have HR7 := Lib.hid hrun7; have HO7 := Lib.hid ho7
                    have HB7 : Hid (Below w.heap.size w W7) := Lib.hid (HB4.out.trans hts7.1)
                    clear hrun7 ho7 hts7 hn7
                    go_wp2_with (at_builtin; (try rw [← HW4.out]); refine Lib.wpList_append_run _ rfl _ _ _ _ rfl _ _ rfl rfl _ _ HR7.out ?_)
                    go_roundw
                    case rel => exact ⟨_, i + 1, k + 1, by go_num, by go_num, by omega, by omega, by rw [← HT.out]; exact HEN.out, HO7.out, fun e => absurd (List.append_eq_nil_iff.1 e).2 HNE.out, HB7.out⟩
                    case measure => simp [intOf]; omega
            · have k9 : ((x.toNat : Int) == 9) = false := u8_ne 9 rfl c9
              have n9 : (x == 9) = false := by rw [beq_eq_false_iff_ne]; exact c9
              rw [n9] at HRC
              by_cases r1 : (x.toNat : Int) < 33
              · have HRAW : Hid (CodeMath.raw x t = false) := Lib.hid (by rw [HRC]; simp; omega)
                clear HRC c61 c32 c9
                obtain ⟨w4, hw4⟩ : ∃ w4, w4 = wr.alloc (.cells #[.int .u8 (x.toNat : Int)] 5) := ⟨_, rfl⟩
                have hb4 : Below wr.heap.size wr w4 := by rw [hw4]; exact (Below.refl _ _).alloc (Nat.le_refl _) _
                have HO3 := Lib.hid (HO.out.below hb4)
                have HB3 : Hid (Below w.heap.size w w4) := Lib.hid (below_then HB.out HB.out.size hb4)
                have HTK : Hid (CodeMath.tok x t = CodeMath.hexed x) := Lib.hid ((show CodeMath.tok x t = CodeMath.hexed x from if_neg (by rw [HRAW.out]; decide)).trans (rfl))
                have HSL : Hid ((CodeMath.tok x t).length = 3) := Lib.hid (by rw [HTK.out]; rfl)
                have HG3 : Hid (∀ k, (Value.slice A0 np c00).ownBlock = some k → k < w4.heap.size) := Lib.hid (fun k hk => (HO3.out.lt k hk).2)
                have HW4 := Lib.hid hw4
                have hx0 : (wr.alloc (.cells #[.int .u8 (x.toNat : Int)] 5)).cell? (a.add i) = some (.int .u8 (x.toNat : Int)) := cell_alloc _ x0
                have HC : Hid (∀ W, CB w4.drew W → W.cell? (a.add i) = some (.int .u8 (x.toNat : Int))) := Lib.hid fun W hW => cell_below ((Below.drew (Below.refl _ w4)).trans hW) (by rw [hw4]; exact hx0)
                have HBW : Hid (∀ W, CB w4.drew W → Below w4.heap.size w4 W) := Lib.hid fun W hW => (Below.drew (Below.refl _ w4)).trans hW
                clear hw4 hb4
                go_wp2_with fail
                skip
                (try rw [← HW4.out])
                refine Stu.wp_region_stu _ (Stu.mkT [(14, clitS w4.heap.size 3 5 #[.int .u8 61, .int .u8 (CodeMath.hexN (x.toNat / 16)).toNat, .int .u8 (CodeMath.hexN (x.toNat % 16)).toNat])]) (fun _ => True) [] CB.refl (fun _ _ _ => CB.trans) (fun _ _ h => h) (fun _ _ _ _ => trivial) trivial (Stu.mkT_ks _ (by show List.Nodup [14]; decide) _ rfl) (by kernel_rfl) (by kernel_rfl) (by kernel_rfl) ?_
                repeat (first
                  | (refine Stu.wpR_plain ?_ (by rfl) (by rfl) (fun K hK => ?_); (focus (first | (simp only [Region.wanted]; done) | (go_simp; done))); apply Exists.intro; refine ⟨fun W hW => ?_, ?_⟩; (go_simp; (try simp only [Stu.plainUpon_value, true_and]); rfl); go_simp; refine hK _ ?_; clear hK K)
                  | (refine Stu.wpR_plain ?_ (by rfl) (by rfl) (fun K hK => ?_); (focus (first | (simp only [Region.wanted]; done) | (go_simp; done))); apply Exists.intro; refine ⟨fun W hW => ?_, ?_⟩; (have hcw := HC.out W hW; go_simp; (try simp only [Stu.plainUpon_value, true_and]); rfl); go_simp; refine hK _ ?_; clear hK K)
                  | (refine Stu.wpR_spg (by rfl) (by rfl) ?_ ?_ (fun W hW hF => ?_) (fun K v hv hK => ?_); (focus (first | (simp only [Region.wanted]; done) | (go_simp; done))); (focus (exact ⟨_, 0, rfl⟩)); (go_simp; exact clit_rel hW.size _); (obtain ⟨g14, rfl⟩ := hv); go_simp; refine hK _ ?_; clear hK K))
                refine Stu.wpR_nil (fun W hW hU hF => ?_)
                obtain ⟨g', e1, hg1, hg2⟩ := (show (clitS w4.heap.size 3 5 #[.int .u8 61, .int .u8 (CodeMath.hexN (x.toNat / 16)).toNat, .int .u8 (CodeMath.hexN (x.toNat % 16)).toNat]).q [] (.slice (some ⟨g14, 0, none⟩) 3 3) W from hF 14)
                cases e1
                have HO4 := Lib.hid (HO3.out.below (HBW.out W hW))
                have HB4 := Lib.hid (below_then HB3.out HB3.out.size (HBW.out W hW))
                have HG4 : Hid (∀ k, (Value.slice A0 np c00).ownBlock = some k → k < g14) := Lib.hid (fun k hk => Nat.lt_of_lt_of_le (HG3.out k hk) hg1)
                have HRX : Hid (Rd W (some ⟨g14, 0, none⟩) (CodeMath.hexed x)) := Lib.hid (Rd.of_block (l := CodeMath.hexed x) (show W.heap[g14]? = some (.cells (bv (CodeMath.hexed x)) 5) from hg2) (by simp [CodeMath.hexed]))
                clear hF hW hU HC HBW hg1 hg2 HW4 hx0 x0
                have HRD4 : Hid (Rd W (some ⟨g14, 0, none⟩) (CodeMath.tok x t)) := Lib.hid (by rw [HTK.out]; exact HRX.out)
                have HST2 : Hid (CodeMath.qpS k (x :: t) = if 75 < k + 3 then [61, 13, 10] ++ (CodeMath.tok x t ++ CodeMath.qpS 3 t) else CodeMath.tok x t ++ CodeMath.qpS (k + 3) t) := Lib.hid (by rw [HST.out, if_neg HNC.out, HSL.out])
                have hws : IntKind.i64.wrap ((k : Int) + 3) = ((k + 3 : Nat) : Int) := by rw [IntKind.wrap_i64]; omega
                have hws0 : IntKind.i64.wrap (0 + (3 : Int)) = ((3 : Nat) : Int) := by rw [IntKind.wrap_i64]; omega
                by_cases h75 : 75 < k + 3
                · have h75i : (75 : Int) < ((k + 3 : Nat) : Int) := by omega
                  have h75j : (75 : Int) < (k : Int) + 3 := by omega
                  have HEN : Hid (CodeMath.qpS 0 b = (pre ++ [61, 13, 10] ++ CodeMath.tok x t) ++ CodeMath.qpS 3 t) := Lib.hid (by rw [HE.out, HST2.out, if_pos h75]; simp)
                  obtain ⟨W5, hW5⟩ : ∃ W5, W5 = World.alloc W (.cells #[.int .u8 61, .int .u8 13, .int .u8 10] 5) := ⟨_, rfl⟩
                  have hb5 : Below (W).heap.size W W5 := by rw [hW5]; exact (Below.refl _ _).alloc (Nat.le_refl _) _
                  obtain ⟨v6, W6, hrun6, ho6, hts6, hgr6⟩ := appb_run2 (m := 3) (c := 3) (HO4.out.below hb5) HZ.out (Rd.of_block (l := [61, 13, 10]) (show W5.heap[(W).heap.size]? = _ by rw [hW5]; exact heap_new _ _ _ rfl) (by simp)) rfl (Nat.le_trans HB4.out.size hb5.size) (by rw [← HNP.out]; simp; omega)
                  obtain ⟨n6, hn6⟩ : ∃ n6, n6 = (pre ++ [61, 13, 10]).length := ⟨_, rfl⟩
                  have HN6 : Hid (n6 = (pre ++ [61, 13, 10]).length ∧ n6 ≤ 7000010) := Lib.hid ⟨hn6, by rw [hn6, List.length_append, ← HNP.out]; show np + 3 ≤ _; omega⟩
                  obtain ⟨A6, c6, rfl, _⟩ := ho6.shpn hn6.symm
                  obtain ⟨v7, W7, hrun7, ho7, hts7⟩ := appb_run (m := 3) (c := 3) ho6 (fun e => by simp at e) ((HRD4.out.below hb5).grownBy hgr6 HG4.out) HSL.out.symm (Nat.le_trans HB4.out.size (Nat.le_trans hb5.size hts6.1.size)) (by rw [← HN6.out.1, HSL.out]; have := HN6.out.2; omega)
                  obtain ⟨n7, hn7⟩ : ∃ n7, n7 = (pre ++ [61, 13, 10] ++ CodeMath.tok x t).length := ⟨_, rfl⟩
                  obtain ⟨A7, c7, rfl, _⟩ := ho7.shpn hn7.symm
                  have HW5 := Lib.hid hW5; have HR6 := Lib.hid hrun6; have HR7 := Lib.hid hrun7; have HO7 := Lib.hid ho7
                  have HB7 : Hid (Below w.heap.size w W7) := Lib.hid (((below_then HB4.out HB4.out.size hb5).trans hts6.1).trans hts7.1)
                  skip
                  clear hW5 hb5 hrun6 ho6 hts6 hgr6 hrun7 ho7 hts7 hn6 hn7
                  go_wp2_with (at_builtin; (try rw [← HW4.out]); (try rw [HWS.out]); (first | (rw [← HW5.out]; refine Lib.wpList_append_run _ rfl _ _ _ _ rfl _ _ rfl rfl _ _ HR6.out ?_) | refine Lib.wpList_append_run _ rfl _ _ _ _ rfl _ _ rfl rfl _ _ HR7.out ?_))
                  go_roundw
                  case rel => exact ⟨_, i + 1, 3, by go_num, by go_num, by omega, by omega, by rw [← HT.out]; exact HEN.out, HO7.out, fun e => absurd (List.append_eq_nil_iff.1 e).2 HNE.out, HB7.out⟩
                  case measure => simp [intOf]; omega
                · have h75i : ¬ (75 : Int) < ((k + 3 : Nat) : Int) := by omega
                  have h75j : ¬ (75 : Int) < (k : Int) + 3 := by omega
                  have HEN : Hid (CodeMath.qpS 0 b = (pre ++ CodeMath.tok x t) ++ CodeMath.qpS (k + 3) t) := Lib.hid (by rw [HE.out, HST2.out, if_neg h75]; simp)
                  obtain ⟨v7, W7, hrun7, ho7, hts7⟩ := appb_run (m := 3) (c := 3) HO4.out HZ.out HRD4.out HSL.out.symm HB4.out.size (by rw [← HNP.out, HSL.out]; omega)
                  obtain ⟨n7, hn7⟩ : ∃ n7, n7 = (pre ++ CodeMath.tok x t).length := ⟨_, rfl⟩
                  obtain ⟨A7, c7, rfl, _⟩ := ho7.shpn hn7.symm
                  have HR7 := Lib.hid hrun7; have HO7 := Lib.hid ho7
                  have HB7 : Hid (Below w.heap.size w W7) := Lib.hid (HB4.out.trans hts7.1)
                  clear hrun7 ho7 hts7 hn7
                  go_wp2_with (at_builtin; (try rw [← HW4.out]); refine Lib.wpList_append_run _ rfl _ _ _ _ rfl _ _ rfl rfl _ _ HR7.out ?_)
                  go_roundw
                  case rel => exact ⟨_, i + 1, k + 3, by go_num, by go_num, by omega, by omega, by rw [← HT.out]; exact HEN.out, HO7.out, fun e => absurd (List.append_eq_nil_iff.1 e).2 HNE.out, HB7.out⟩
                  case measure => simp [intOf]; omega
              · by_cases r2 : (126 : Int) < x.toNat
                · have HRAW : Hid (CodeMath.raw x t = false) := Lib.hid (by rw [HRC]; simp; omega)
                  clear HRC c61 c32 c9
                  obtain ⟨w4, hw4⟩ : ∃ w4, w4 = wr.alloc (.cells #[.int .u8 (x.toNat : Int)] 5) := ⟨_, rfl⟩
                  have hb4 : Below wr.heap.size wr w4 := by rw [hw4]; exact (Below.refl _ _).alloc (Nat.le_refl _) _
                  have HO3 := Lib.hid (HO.out.below hb4)
                  have HB3 : Hid (Below w.heap.size w w4) := Lib.hid (below_then HB.out HB.out.size hb4)
                  have HTK : Hid (CodeMath.tok x t = CodeMath.hexed x) := Lib.hid ((show CodeMath.tok x t = CodeMath.hexed x from if_neg (by rw [HRAW.out]; decide)).trans (rfl))
                  have HSL : Hid ((CodeMath.tok x t).length = 3) := Lib.hid (by rw [HTK.out]; rfl)
                  have HG3 : Hid (∀ k, (Value.slice A0 np c00).ownBlock = some k → k < w4.heap.size) := Lib.hid (fun k hk => (HO3.out.lt k hk).2)
                  have HW4 := Lib.hid hw4
                  have hx0 : (wr.alloc (.cells #[.int .u8 (x.toNat : Int)] 5)).cell? (a.add i) = some (.int .u8 (x.toNat : Int)) := cell_alloc _ x0
                  have HC : Hid (∀ W, CB w4.drew W → W.cell? (a.add i) = some (.int .u8 (x.toNat : Int))) := Lib.hid fun W hW => cell_below ((Below.drew (Below.refl _ w4)).trans hW) (by rw [hw4]; exact hx0)
                  have HBW : Hid (∀ W, CB w4.drew W → Below w4.heap.size w4 W) := Lib.hid fun W hW => (Below.drew (Below.refl _ w4)).trans hW
                  clear hw4 hb4
                  go_wp2_with fail
                  skip
                  (try rw [← HW4.out])
                  refine Stu.wp_region_stu _ (Stu.mkT [(14, clitS w4.heap.size 3 5 #[.int .u8 61, .int .u8 (CodeMath.hexN (x.toNat / 16)).toNat, .int .u8 (CodeMath.hexN (x.toNat % 16)).toNat])]) (fun _ => True) [] CB.refl (fun _ _ _ => CB.trans) (fun _ _ h => h) (fun _ _ _ _ => trivial) trivial (Stu.mkT_ks _ (by show List.Nodup [14]; decide) _ rfl) (by kernel_rfl) (by kernel_rfl) (by kernel_rfl) ?_
                  repeat (first
                    | (refine Stu.wpR_plain ?_ (by rfl) (by rfl) (fun K hK => ?_); (focus (first | (simp only [Region.wanted]; done) | (go_simp; done))); apply Exists.intro; refine ⟨fun W hW => ?_, ?_⟩; (go_simp; (try simp only [Stu.plainUpon_value, true_and]); rfl); go_simp; refine hK _ ?_; clear hK K)
                    | (refine Stu.wpR_plain ?_ (by rfl) (by rfl) (fun K hK => ?_); (focus (first | (simp only [Region.wanted]; done) | (go_simp; done))); apply Exists.intro; refine ⟨fun W hW => ?_, ?_⟩; (have hcw := HC.out W hW; go_simp; (try simp only [Stu.plainUpon_value, true_and]); rfl); go_simp; refine hK _ ?_; clear hK K)
                    | (refine Stu.wpR_spg (by rfl) (by rfl) ?_ ?_ (fun W hW hF => ?_) (fun K v hv hK => ?_); (focus (first | (simp only [Region.wanted]; done) | (go_simp; done))); (focus (exact ⟨_, 0, rfl⟩)); (go_simp; exact clit_rel hW.size _); (obtain ⟨g14, rfl⟩ := hv); go_simp; refine hK _ ?_; clear hK K))
                  refine Stu.wpR_nil (fun W hW hU hF => ?_)
                  obtain ⟨g', e1, hg1, hg2⟩ := (show (clitS w4.heap.size 3 5 #[.int .u8 61, .int .u8 (CodeMath.hexN (x.toNat / 16)).toNat, .int .u8 (CodeMath.hexN (x.toNat % 16)).toNat]).q [] (.slice (some ⟨g14, 0, none⟩) 3 3) W from hF 14)
                  cases e1
                  have HO4 := Lib.hid (HO3.out.below (HBW.out W hW))
                  have HB4 := Lib.hid (below_then HB3.out HB3.out.size (HBW.out W hW))
                  have HG4 : Hid (∀ k, (Value.slice A0 np c00).ownBlock = some k → k < g14) := Lib.hid (fun k hk => Nat.lt_of_lt_of_le (HG3.out k hk) hg1)
                  have HRX : Hid (Rd W (some ⟨g14, 0, none⟩) (CodeMath.hexed x)) := Lib.hid (Rd.of_block (l := CodeMath.hexed x) (show W.heap[g14]? = some (.cells (bv (CodeMath.hexed x)) 5) from hg2) (by simp [CodeMath.hexed]))
                  clear hF hW hU HC HBW hg1 hg2 HW4 hx0 x0
                  have HRD4 : Hid (Rd W (some ⟨g14, 0, none⟩) (CodeMath.tok x t)) := Lib.hid (by rw [HTK.out]; exact HRX.out)
                  have HST2 : Hid (CodeMath.qpS k (x :: t) = if 75 < k + 3 then [61, 13, 10] ++ (CodeMath.tok x t ++ CodeMath.qpS 3 t) else CodeMath.tok x t ++ CodeMath.qpS (k + 3) t) := Lib.hid (by rw [HST.out, if_neg HNC.out, HSL.out])
                  have hws : IntKind.i64.wrap ((k : Int) + 3) = ((k + 3 : Nat) : Int) := by rw [IntKind.wrap_i64]; omega
                  have hws0 : IntKind.i64.wrap (0 + (3 : Int)) = ((3 : Nat) : Int) := by rw [IntKind.wrap_i64]; omega
                  by_cases h75 : 75 < k + 3
                  · have h75i : (75 : Int) < ((k + 3 : Nat) : Int) := by omega
                    have h75j : (75 : Int) < (k : Int) + 3 := by omega
                    have HEN : Hid (CodeMath.qpS 0 b = (pre ++ [61, 13, 10] ++ CodeMath.tok x t) ++ CodeMath.qpS 3 t) := Lib.hid (by rw [HE.out, HST2.out, if_pos h75]; simp)
                    obtain ⟨W5, hW5⟩ : ∃ W5, W5 = World.alloc W (.cells #[.int .u8 61, .int .u8 13, .int .u8 10] 5) := ⟨_, rfl⟩
                    have hb5 : Below (W).heap.size W W5 := by rw [hW5]; exact (Below.refl _ _).alloc (Nat.le_refl _) _
                    obtain ⟨v6, W6, hrun6, ho6, hts6, hgr6⟩ := appb_run2 (m := 3) (c := 3) (HO4.out.below hb5) HZ.out (Rd.of_block (l := [61, 13, 10]) (show W5.heap[(W).heap.size]? = _ by rw [hW5]; exact heap_new _ _ _ rfl) (by simp)) rfl (Nat.le_trans HB4.out.size hb5.size) (by rw [← HNP.out]; simp; omega)
                    obtain ⟨n6, hn6⟩ : ∃ n6, n6 = (pre ++ [61, 13, 10]).length := ⟨_, rfl⟩
                    have HN6 : Hid (n6 = (pre ++ [61, 13, 10]).length ∧ n6 ≤ 7000010) := Lib.hid ⟨hn6, by rw [hn6, List.length_append, ← HNP.out]; show np + 3 ≤ _; omega⟩
                    obtain ⟨A6, c6, rfl, _⟩ := ho6.shpn hn6.symm
                    obtain ⟨v7, W7, hrun7, ho7, hts7⟩ := appb_run (m := 3) (c := 3) ho6 (fun e => by simp at e) ((HRD4.out.below hb5).grownBy hgr6 HG4.out) HSL.out.symm (Nat.le_trans HB4.out.size (Nat.le_trans hb5.size hts6.1.size)) (by rw [← HN6.out.1, HSL.out]; have := HN6.out.2; omega)
                    obtain ⟨n7, hn7⟩ : ∃ n7, n7 = (pre ++ [61, 13, 10] ++ CodeMath.tok x t).length := ⟨_, rfl⟩
                    obtain ⟨A7, c7, rfl, _⟩ := ho7.shpn hn7.symm
                    have HW5 := Lib.hid hW5; have HR6 := Lib.hid hrun6; have HR7 := Lib.hid hrun7; have HO7 := Lib.hid ho7
                    have HB7 : Hid (Below w.heap.size w W7) := Lib.hid (((below_then HB4.out HB4.out.size hb5).trans hts6.1).trans hts7.1)
                    skip
                    clear hW5 hb5 hrun6 ho6 hts6 hgr6 hrun7 ho7 hts7 hn6 hn7
                    go_wp2_with (at_builtin; (try rw [← HW4.out]); (try rw [HWS.out]); (first | (rw [← HW5.out]; refine Lib.wpList_append_run _ rfl _ _ _ _ rfl _ _ rfl rfl _ _ HR6.out ?_) | refine Lib.wpList_append_run _ rfl _ _ _ _ rfl _ _ rfl rfl _ _ HR7.out ?_))
                    go_roundw
                    case rel => exact ⟨_, i + 1, 3, by go_num, by go_num, by omega, by omega, by rw [← HT.out]; exact HEN.out, HO7.out, fun e => absurd (List.append_eq_nil_iff.1 e).2 HNE.out, HB7.out⟩
                    case measure => simp [intOf]; omega
                  · have h75i : ¬ (75 : Int) < ((k + 3 : Nat) : Int) := by omega
                    have h75j : ¬ (75 : Int) < (k : Int) + 3 := by omega
                    have HEN : Hid (CodeMath.qpS 0 b = (pre ++ CodeMath.tok x t) ++ CodeMath.qpS (k + 3) t) := Lib.hid (by rw [HE.out, HST2.out, if_neg h75]; simp)
                    obtain ⟨v7, W7, hrun7, ho7, hts7⟩ := appb_run (m := 3) (c := 3) HO4.out HZ.out HRD4.out HSL.out.symm HB4.out.size (by rw [← HNP.out, HSL.out]; omega)
                    obtain ⟨n7, hn7⟩ : ∃ n7, n7 = (pre ++ CodeMath.tok x t).length := ⟨_, rfl⟩
                    obtain ⟨A7, c7, rfl, _⟩ := ho7.shpn hn7.symm
                    have HR7 := Lib.hid hrun7; have HO7 := Lib.hid ho7
                    have HB7 : Hid (Below w.heap.size w W7) := Lib.hid (HB4.out.trans hts7.1)
                    clear hrun7 ho7 hts7 hn7
                    go_wp2_with (at_builtin; (try rw [← HW4.out]); refine Lib.wpList_append_run _ rfl _ _ _ _ rfl _ _ rfl rfl _ _ HR7.out ?_)
                    go_roundw
                    case rel => exact ⟨_, i + 1, k + 3, by go_num, by go_num, by omega, by omega, by rw [← HT.out]; exact HEN.out, HO7.out, fun e => absurd (List.append_eq_nil_iff.1 e).2 HNE.out, HB7.out⟩
                    case measure => simp [intOf]; omega
                · have HRAW : Hid (CodeMath.raw x t = true) := Lib.hid (by rw [HRC]; simp; omega)
                  clear HRC c61 c32 c9
                  obtain ⟨w4, hw4⟩ : ∃ w4, w4 = wr.alloc (.cells #[.int .u8 (x.toNat : Int)] 5) := ⟨_, rfl⟩
                  have hb4 : Below wr.heap.size wr w4 := by rw [hw4]; exact (Below.refl _ _).alloc (Nat.le_refl _) _
                  have HO4 := Lib.hid (HO.out.below hb4)
                  have HB4 : Hid (Below w.heap.size w w4) := Lib.hid (below_then HB.out HB.out.size hb4)
                  have HTK : Hid (CodeMath.tok x t = [x]) := Lib.hid ((show CodeMath.tok x t = [x] from if_pos HRAW.out).trans (rfl))
                  have HSL : Hid ((CodeMath.tok x t).length = 1) := Lib.hid (by rw [HTK.out]; rfl)
                  have HG4 : Hid (∀ k, (Value.slice A0 np c00).ownBlock = some k → k < wr.heap.size) := Lib.hid (fun k hk => (HO.out.lt k hk).2)
                  have HW4 := Lib.hid hw4
                  have HWS : Hid (wr.heap.size + 1 = w4.heap.size) := Lib.hid (by rw [hw4]; simp)
                  have hx0 : (wr.alloc (.cells #[.int .u8 (x.toNat : Int)] 5)).cell? (a.add i) = some (.int .u8 (x.toNat : Int)) := cell_alloc _ x0
                  clear hw4 hb4
                  have HRD4 : Hid (Rd w4 (some ⟨wr.heap.size, 0, none⟩) (CodeMath.tok x t)) := Lib.hid (by rw [HTK.out, HW4.out]; exact Rd.of_block (l := [x]) (heap_new wr _ _ rfl) (by simp))
                  have HST2 : Hid (CodeMath.qpS k (x :: t) = if 75 < k + 1 then [61, 13, 10] ++ (CodeMath.tok x t ++ CodeMath.qpS 1 t) else CodeMath.tok x t ++ CodeMath.qpS (k + 1) t) := Lib.hid (by rw [HST.out, if_neg HNC.out, HSL.out])
                  have hws : IntKind.i64.wrap ((k : Int) + 1) = ((k + 1 : Nat) : Int) := by rw [IntKind.wrap_i64]; omega
                  have hws0 : IntKind.i64.wrap (0 + (1 : Int)) = ((1 : Nat) : Int) := by rw [IntKind.wrap_i64]; omega
                  by_cases h75 : 75 < k + 1
                  · have h75i : (75 : Int) < ((k + 1 : Nat) : Int) := by omega
                    have h75j : (75 : Int) < (k : Int) + 1 := by omega
                    have HEN : Hid (CodeMath.qpS 0 b = (pre ++ [61, 13, 10] ++ CodeMath.tok x t) ++ CodeMath.qpS 1 t) := Lib.hid (by rw [HE.out, HST2.out, if_pos h75]; simp)
                    obtain ⟨W5, hW5⟩ : ∃ W5, W5 = World.alloc w4 (.cells #[.int .u8 61, .int .u8 13, .int .u8 10] 5) := ⟨_, rfl⟩
                    have hb5 : Below (w4).heap.size w4 W5 := by rw [hW5]; exact (Below.refl _ _).alloc (Nat.le_refl _) _
                    obtain ⟨v6, W6, hrun6, ho6, hts6, hgr6⟩ := appb_run2 (m := 3) (c := 3) (HO4.out.below hb5) HZ.out (Rd.of_block (l := [61, 13, 10]) (show W5.heap[(w4).heap.size]? = _ by rw [hW5]; exact heap_new _ _ _ rfl) (by simp)) rfl (Nat.le_trans HB4.out.size hb5.size) (by rw [← HNP.out]; simp; omega)
                    obtain ⟨n6, hn6⟩ : ∃ n6, n6 = (pre ++ [61, 13, 10]).length := ⟨_, rfl⟩
                    have HN6 : Hid (n6 = (pre ++ [61, 13, 10]).length ∧ n6 ≤ 7000010) := Lib.hid ⟨hn6, by rw [hn6, List.length_append, ← HNP.out]; show np + 3 ≤ _; omega⟩
                    obtain ⟨A6, c6, rfl, _⟩ := ho6.shpn hn6.symm
                    obtain ⟨v7, W7, hrun7, ho7, hts7⟩ := appb_run (m := 1) (c := 1) ho6 (fun e => by simp at e) ((HRD4.out.below hb5).grownBy hgr6 HG4.out) HSL.out.symm (Nat.le_trans HB4.out.size (Nat.le_trans hb5.size hts6.1.size)) (by rw [← HN6.out.1, HSL.out]; have := HN6.out.2; omega)
                    obtain ⟨n7, hn7⟩ : ∃ n7, n7 = (pre ++ [61, 13, 10] ++ CodeMath.tok x t).length := ⟨_, rfl⟩
                    obtain ⟨A7, c7, rfl, _⟩ := ho7.shpn hn7.symm
                    have HW5 := Lib.hid hW5; have HR6 := Lib.hid hrun6; have HR7 := Lib.hid hrun7; have HO7 := Lib.hid ho7
                    have HB7 : Hid (Below w.heap.size w W7) := Lib.hid (((below_then HB4.out HB4.out.size hb5).trans hts6.1).trans hts7.1)
                    skip
                    clear hW5 hb5 hrun6 ho6 hts6 hgr6 hrun7 ho7 hts7 hn6 hn7
                    go_wp2_with (at_builtin; (try rw [← HW4.out]); (try rw [HWS.out]); (first | (rw [← HW5.out]; refine Lib.wpList_append_run _ rfl _ _ _ _ rfl _ _ rfl rfl _ _ HR6.out ?_) | refine Lib.wpList_append_run _ rfl _ _ _ _ rfl _ _ rfl rfl _ _ HR7.out ?_))
                    go_roundw
                    case rel => exact ⟨_, i + 1, 1, by go_num, by go_num, by omega, by omega, by rw [← HT.out]; exact HEN.out, HO7.out, fun e => absurd (List.append_eq_nil_iff.1 e).2 HNE.out, HB7.out⟩
                    case measure => simp [intOf]; omega
                  · have h75i : ¬ (75 : Int) < ((k + 1 : Nat) : Int) := by omega
                    have h75j : ¬ (75 : Int) < (k : Int) + 1 := by omega
                    have HEN : Hid (CodeMath.qpS 0 b = (pre ++ CodeMath.tok x t) ++ CodeMath.qpS (k + 1) t) := Lib.hid (by rw [HE.out, HST2.out, if_neg h75]; simp)
                    obtain ⟨v7, W7, hrun7, ho7, hts7⟩ := appb_run (m := 1) (c := 1) HO4.out HZ.out HRD4.out HSL.out.symm HB4.out.size (by rw [← HNP.out, HSL.out]; omega)
                    obtain ⟨n7, hn7⟩ : ∃ n7, n7 = (pre ++ CodeMath.tok x t).length := ⟨_, rfl⟩
                    obtain ⟨A7, c7, rfl, _⟩ := ho7.shpn hn7.symm
                    have HR7 := Lib.hid hrun7; have HO7 := Lib.hid ho7
                    have HB7 : Hid (Below w.heap.size w W7) := Lib.hid (HB4.out.trans hts7.1)
                    clear hrun7 ho7 hts7 hn7
                    go_wp2_with (at_builtin; (try rw [← HW4.out]); refine Lib.wpList_append_run _ rfl _ _ _ _ rfl _ _ rfl rfl _ _ HR7.out ?_)
                    go_roundw
                    case rel => exact ⟨_, i + 1, k + 1, by go_num, by go_num, by omega, by omega, by rw [← HT.out]; exact HEN.out, HO7.out, fun e => absurd (List.append_eq_nil_iff.1 e).2 HNE.out, HB7.out⟩
                    case measure => simp [intOf]; omega
    · have hlti : ¬ (i : Int) < m := by omega
      have HRES : Hid (CodeMath.qpS 0 b = pre) := Lib.hid (by rw [HE.out, List.drop_eq_nil_of_le (by rw [HM.out]; omega), CodeMath.qpS_nil, List.append_nil])
      go_wp2
      go_ret
      exact ⟨_, rfl, by rw [HRES.out]; exact HO.out, HB.out⟩
end Go.Proofs.YtgaccogekmaijaaDoor
