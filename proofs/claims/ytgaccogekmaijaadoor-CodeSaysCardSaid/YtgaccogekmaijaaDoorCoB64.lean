/- Base 64 written. -/
import Derived.Test.YtgaccogekmaijaaDoorCoGrp
import Derived.Deep.Slices
namespace Go.Proofs.YtgaccogekmaijaaDoor
open Go.RowKit Go.Maps
set_option linter.unusedVariables false
set_option linter.unusedSimpArgs false
attribute [local irreducible] wpR relOp Stu.wpR Stu.relOp
def lenV2 : Value → Nat
  | .slice _ n _ => n
  | _ => 0
theorem Rd.none' {w : World} {A : Option Addr} : Rd w A [] := ⟨by simp, fun h => by simp at h⟩
theorem Rd.take {w : World} {A : Option Addr} {l : List UInt8} (h : Rd w A l) (k : Nat) : Rd w A (l.take k) :=
  ⟨by have := h.1; rw [List.length_take]; omega, fun hp => by
    rw [List.length_take] at hp
    obtain ⟨a, e, hc⟩ := h.2 (by omega)
    refine ⟨a, e, fun j hj => ?_⟩
    rw [List.length_take] at hj
    rw [List.getElem_take]
    exact hc j (by omega)⟩
theorem Rd.drop {w : World} {A : Option Addr} {l : List UInt8} (h : Rd w A l) (k : Nat) : Rd w (A.map (·.add k)) (l.drop k) :=
  ⟨by have := h.1; rw [List.length_drop]; omega, fun hp => by
    rw [List.length_drop] at hp
    obtain ⟨a, e, hc⟩ := h.2 (by omega)
    subst e
    refine ⟨a.add k, rfl, fun j hj => ?_⟩
    rw [List.length_drop] at hj
    rw [List.getElem_drop, Go.Deep.add_add]
    exact hc _ (by omega)⟩
theorem encF_len : ∀ f n b, b.length < f → (CodeMath.encF f n b).length ≤ 6 * b.length + 2 := by
  intro f
  induction f with
  | zero => intro n b h; omega
  | succ f ih =>
    intro n b h
    simp only [CodeMath.encF]
    by_cases hb : b = []
    · rw [if_pos hb]; split <;> simp
    · have : 0 < b.length := List.length_pos_iff.2 hb
      rw [if_neg hb, List.length_append, List.length_append, CodeMath.grp_len]
      have h2 := ih ((if n = 76 then 0 else n) + 4) (b.drop 3) (by rw [List.length_drop]; omega)
      rw [List.length_drop] at h2
      have h3 : (if n = 76 then [13, 10] else ([] : List UInt8)).length ≤ 2 := by split <;> simp
      by_cases h4 : b.length ≤ 3
      · have e : b.drop 3 = [] := List.drop_eq_nil_of_le h4
        have h5 : (CodeMath.encF f ((if n = 76 then 0 else n) + 4) (b.drop 3)).length ≤ 2 := by
          rw [e]
          cases f with
          | zero => simp [CodeMath.encF]
          | succ f => simp only [CodeMath.encF]; rw [if_pos trivial]; split <;> simp
        omega
      · omega
set_option maxRecDepth 20000 in
set_option maxHeartbeats 1000000 in
theorem b64_any (w : World) (A : Option Addr) (c : Nat) (b : List UInt8) (hr : Rd w A b) (hc : b.length ≤ c) (hl : b.length ≤ 1000000) :
    Calls Tryd.prog 8 #[.slice A b.length c] w fun e w' => ∃ v, e = .returned v ∧ Ob w' w.heap.size 5 v (CodeMath.enc 0 b) ∧ Below w.heap.size w w' := by
  have HTot : Hid ((CodeMath.enc 0 b).length ≤ 7000000) := Lib.hid (by have := encF_len (b.length + 1) 0 b (by omega); unfold CodeMath.enc; omega)
  obtain ⟨m, hm⟩ : ∃ m, m = b.length := ⟨_, rfl⟩
  rw [← hm] at hc hl ⊢
  have HM := Lib.hid hm; have HR := Lib.hid hr
  clear hm hr
  go_enter Tryd.func8, Tryd.ntmps8
  go_wp2_with fail
  go_loopw [0, 3, 4, 5] (fun vb vo n _ wr => ∃ (pre r : List UInt8) (Ab : Option Addr) (cb k : Nat), vb = .slice Ab r.length cb ∧ r.length ≤ cb ∧ (∀ W, Below w.heap.size w W → Rd W Ab r) ∧ n = .int .i64 k ∧ k ≤ 76 ∧ (0 < k → 1 ≤ pre.length) ∧ CodeMath.enc 0 b = pre ++ CodeMath.enc k r ∧ Ob wr w.heap.size 5 vo pre ∧ (pre = [] → vo = .slice none 0 0) ∧ Below w.heap.size w wr ∧ k % 4 = 0 ∧ r.length ≤ m) (fun vb _ _ _ _ => lenV2 vb)
  case atStart => exact ⟨[], b, A, c, 0, by rw [HM.out], by rw [← HM.out]; exact hc, fun W hW => HR.out.below hW, rfl, by omega, fun h => absurd h (by decide), rfl, Ob.nil _ _ _, fun _ => rfl, Below.refl _ _, rfl, by rw [HM.out]; exact Nat.le_refl _⟩
  case round =>
    rename World => wL
    obtain ⟨pre, r, Ab, cb, k, rfl, hcb, hrd, rfl, hk, hkp, henc, hob, hz, hb, hk4, hrm⟩ := hrel
    obtain ⟨nr, hnr⟩ : ∃ nr, nr = r.length := ⟨_, rfl⟩
    obtain ⟨np, hnp⟩ : ∃ np, np = pre.length := ⟨_, rfl⟩
    obtain ⟨A0, c00, hv0, hc00, _⟩ := hob.rd
    rw [← hnp] at hv0 hc00
    subst hv0
    rw [← hnr] at hcb hrm ⊢
    have hnp9 : np ≤ 7000000 := by
      have h1 := HTot.out
      rw [henc, List.length_append] at h1
      omega
    have HNR := Lib.hid hnr; have HNP := Lib.hid hnp; have HRD := Lib.hid hrd; have HE := Lib.hid henc; have HO := Lib.hid hob; have HZ := Lib.hid hz; have HB := Lib.hid hb; have HKP := Lib.hid hkp
    clear hnr hnp hrd henc hob hz hb hkp
    have hBs : w.heap.size ≤ wL.heap.size := HB.out.size
    by_cases h0 : nr = 0
    · subst h0
      have hr0 : r = [] := List.eq_nil_of_length_eq_zero HNR.out.symm
      by_cases hk0 : 0 < k
      · have hki : (0 : Int) < k := by omega
        obtain ⟨v2, W2, hrun, ho2, hts⟩ := apps_run (s := ⟨#[13, 10]⟩) HO.out (HKP.out hk0) hBs (by rw [← HNP.out]; have : (⟨#[13, 10]⟩ : ByteArray).size = 2 := rfl; omega)
        have HRUN := Lib.hid hrun
        have HRES : Hid (CodeMath.enc 0 b = pre ++ [13, 10]) := Lib.hid (by rw [HE.out, hr0, CodeMath.enc_nil, if_pos hk0])
        have HO2 : Hid (Ob W2 w.heap.size 5 v2 (pre ++ [13, 10])) := Lib.hid ho2
        have HB2 := Lib.hid (HB.out.trans hts.1)
        obtain ⟨A2, c2, rfl, _⟩ := ho2.rd
        generalize (pre ++ [13, 10]).length = n2 at *
        clear hrun ho2 hts hr0
        go_wp2_with (at_builtin; refine Lib.wpList_append_run _ rfl _ _ _ _ rfl _ _ rfl rfl _ _ HRUN.out ?_)
        go_ret
        exact ⟨_, rfl, by rw [HRES.out]; exact HO2.out, HB2.out⟩
      · have hki : ¬ (0 : Int) < k := by omega
        have HRES : Hid (CodeMath.enc 0 b = pre) := Lib.hid (by rw [HE.out, hr0, CodeMath.enc_nil, if_neg hk0, List.append_nil])
        clear hr0
        go_wp2
        go_ret
        exact ⟨_, rfl, by rw [HRES.out]; exact HO.out, HB.out⟩
    · have hnr0 : 0 < nr := by omega
      have hnr0i : (0 : Int) < nr := by omega
      have hrne : r ≠ [] := fun e => by have := HNR.out; rw [e] at this; simp at this; omega
      have hst := CodeMath.enc_step k r hrne
      obtain ⟨q, hq⟩ : ∃ q, q = min nr 3 := ⟨_, rfl⟩
      have hql : (r.take 3).length = q := by rw [List.length_take, ← HNR.out, hq]; omega
      have hq1 : 1 ≤ q := by omega
      have hq3 : q ≤ 3 := by omega
      have hqn : q ≤ nr := by omega
      have hcq : q ≤ cb := by omega
      have hdr : r.drop q = r.drop 3 := by
        by_cases h : nr ≤ 3
        · rw [List.drop_eq_nil_of_le (by rw [← HNR.out]; omega), List.drop_eq_nil_of_le (by rw [← HNR.out]; omega)]
        · rw [show q = 3 by omega]
      have hrest : (r.drop 3).length = nr - q := by rw [← hdr, List.length_drop, ← HNR.out]
      have HQL := Lib.hid hql; have HDR := Lib.hid hdr; have HRS := Lib.hid hrest; have HST := Lib.hid hst
      clear hql hdr hrest hst
      obtain ⟨a, rfl, _⟩ := (HRD.out wL HB.out).2 (by rw [← HNR.out]; exact hnr0)
      by_cases hk76 : k = 76
      · subst hk76
        obtain ⟨v2, W2', hrun, ho2, hts⟩ := apps_run (s := ⟨#[13, 10]⟩) HO.out (HKP.out (by decide)) hBs (by rw [← HNP.out]; have : (⟨#[13, 10]⟩ : ByteArray).size = 2 := rfl; omega)
        have HRUN := Lib.hid hrun
        have HOx : Hid (Ob W2' w.heap.size 5 v2 (pre ++ [13, 10])) := Lib.hid ho2
        have HBx := Lib.hid (HB.out.trans hts.1)
        obtain ⟨A2, c2, hv2, _⟩ := ho2.rd
        obtain ⟨np1, hnp1⟩ : ∃ np1, np1 = np + 2 := ⟨_, rfl⟩
        have HNx : Hid (np1 = (pre ++ [13, 10]).length ∧ np1 ≤ 7000010) := Lib.hid ⟨by rw [hnp1, List.length_append, ← HNP.out]; rfl, by omega⟩
        rw [← HNx.out.1] at hv2
        subst hv2
        have HZx : Hid (pre ++ [13, 10] = [] → Value.slice A2 np1 c2 = .slice none 0 0) := Lib.hid fun e => by simp at e
        clear hrun ho2 hts hnp1
        by_cases hn3 : nr ≤ 3
        · have hn3i : (nr : Int) ≤ 3 := by omega
          have hn3j : ¬ (3 : Int) < nr := by omega
          have hqe : nr = q := by omega
          clear hq
          subst hqe
          have hg := grp_any W2' (some a) cb (r.take 3) ((HRD.out _ HBx.out).take 3) (by rw [HQL.out]; exact hcq) (by rw [HQL.out]; exact hq1) (by rw [HQL.out]; exact hq3)
          rw [HQL.out] at hg
          have HGR := Lib.hid hg
          clear hg
          go_wp2_with (at_builtin; refine Lib.wpList_append_run _ rfl _ _ _ _ rfl _ _ rfl rfl _ _ HRUN.out ?_)
          refine HGR.out.mono ?_
          rintro e W2 ⟨vg, rfl, hog, hbg⟩
          obtain ⟨Ag, cg, hvg, hcg, hrg⟩ := hog.rd
          rw [CodeMath.grp_len] at hvg hcg
          subst hvg
          obtain ⟨v3, W3, hrun3, ho3, hts3⟩ := appb_run (m := 4) (c := cg) (HOx.out.below hbg) HZx.out hrg (CodeMath.grp_len _).symm (Nat.le_trans HBx.out.size hbg.size) (by have := HNx.out; rw [CodeMath.grp_len]; omega)
          have HO3 := Lib.hid ho3
          have HB3 : Hid (Below w.heap.size w W3) := Lib.hid ((below_then HBx.out HBx.out.size hbg).trans hts3.1)
          obtain ⟨A3, c3, hv3, hc3, _⟩ := ho3.rd
          have HL3 : Hid (((pre ++ [13, 10]) ++ CodeMath.grp (r.take 3)).length = np1 + 4) := Lib.hid (by rw [List.length_append, CodeMath.grp_len]; have := HNx.out; omega)
          rw [HL3.out] at hv3 hc3
          subst hv3
          have HRUN3 := Lib.hid hrun3
          have HEN : Hid (CodeMath.enc 0 b = ((pre ++ [13, 10]) ++ CodeMath.grp (r.take 3)) ++ CodeMath.enc ((0) + 4) (r.drop 3)) := Lib.hid (by rw [HE.out, HST.out]; skip; simp [List.append_assoc])
          have HRD3 : Hid (∀ W, Below w.heap.size w W → Rd W (some (a.add (nr))) (r.drop 3)) := Lib.hid fun W hW => by first | exact (HRD.out W hW).drop 3 | (rw [← HDR.out]; exact (HRD.out W hW).drop (nr))
          have hwk : IntKind.i64.wrap (((0 : Nat) : Int) + 4) = (((0) + 4 : Nat) : Int) := by rw [IntKind.wrap_i64]; omega
          clear hog hbg hrg hrun3 ho3 hts3 HGR
          by_cases hcx : cb = nr
          · have hcx' := hcx.symm
            clear hcx
            subst hcx'
            have he0 : r.drop 3 = [] := List.eq_nil_of_length_eq_zero (by rw [HRS.out]; omega)
            have HE0 := Lib.hid he0
            have hrl0 : (r.drop 3).length = 0 := by rw [he0]; rfl
            have HRL0 := Lib.hid hrl0
            clear he0 hrl0
            go_wp2_with (at_builtin; refine Lib.wpList_append_run _ rfl _ _ _ _ rfl _ _ rfl rfl _ _ HRUN3.out ?_)
            go_roundw
            case rel => exact ⟨_, r.drop 3, some a, 0, (0) + 4, by rw [HRL0.out], by rw [HRL0.out]; exact Nat.le_refl _, fun W hW => by rw [HE0.out]; exact Rd.none', by go_num, by omega, fun _ => by rw [HL3.out]; omega, HEN.out, HO3.out, fun e => by have := HL3.out; rw [e] at this; simp at this, HB3.out, by omega, by rw [HRL0.out]; omega⟩
            case measure => simp only [lenV2]; omega
          ·
            go_wp2_with (at_builtin; refine Lib.wpList_append_run _ rfl _ _ _ _ rfl _ _ rfl rfl _ _ HRUN3.out ?_)
            go_roundw
            case rel => exact ⟨_, r.drop 3, some (a.add (nr)), cb - (nr), (0) + 4, by rw [HRS.out]; first | rfl | simp, by rw [HRS.out]; omega, HRD3.out, by go_num, by omega, fun _ => by rw [HL3.out]; omega, HEN.out, HO3.out, fun e => by have := HL3.out; rw [e] at this; simp at this, HB3.out, by omega, by rw [HRS.out]; omega⟩
            case measure => simp only [lenV2]; omega
        · have hn3i : ¬ (nr : Int) ≤ 3 := by omega
          have hn3j : (3 : Int) < nr := by omega
          have hqe : 3 = q := by omega
          clear hq
          subst hqe
          have hcx : ¬ cb = 3 := by omega
          have hg := grp_any W2' (some a) cb (r.take 3) ((HRD.out _ HBx.out).take 3) (by rw [HQL.out]; exact hcq) (by rw [HQL.out]; exact hq1) (by rw [HQL.out]; exact hq3)
          rw [HQL.out] at hg
          have HGR := Lib.hid hg
          clear hg
          go_wp2_with (at_builtin; refine Lib.wpList_append_run _ rfl _ _ _ _ rfl _ _ rfl rfl _ _ HRUN.out ?_)
          refine HGR.out.mono ?_
          rintro e W2 ⟨vg, rfl, hog, hbg⟩
          obtain ⟨Ag, cg, hvg, hcg, hrg⟩ := hog.rd
          rw [CodeMath.grp_len] at hvg hcg
          subst hvg
          obtain ⟨v3, W3, hrun3, ho3, hts3⟩ := appb_run (m := 4) (c := cg) (HOx.out.below hbg) HZx.out hrg (CodeMath.grp_len _).symm (Nat.le_trans HBx.out.size hbg.size) (by have := HNx.out; rw [CodeMath.grp_len]; omega)
          have HO3 := Lib.hid ho3
          have HB3 : Hid (Below w.heap.size w W3) := Lib.hid ((below_then HBx.out HBx.out.size hbg).trans hts3.1)
          obtain ⟨A3, c3, hv3, hc3, _⟩ := ho3.rd
          have HL3 : Hid (((pre ++ [13, 10]) ++ CodeMath.grp (r.take 3)).length = np1 + 4) := Lib.hid (by rw [List.length_append, CodeMath.grp_len]; have := HNx.out; omega)
          rw [HL3.out] at hv3 hc3
          subst hv3
          have HRUN3 := Lib.hid hrun3
          have HEN : Hid (CodeMath.enc 0 b = ((pre ++ [13, 10]) ++ CodeMath.grp (r.take 3)) ++ CodeMath.enc ((0) + 4) (r.drop 3)) := Lib.hid (by rw [HE.out, HST.out]; skip; simp [List.append_assoc])
          have HRD3 : Hid (∀ W, Below w.heap.size w W → Rd W (some (a.add (3))) (r.drop 3)) := Lib.hid fun W hW => by first | exact (HRD.out W hW).drop 3 | (rw [← HDR.out]; exact (HRD.out W hW).drop (3))
          have hwk : IntKind.i64.wrap (((0 : Nat) : Int) + 4) = (((0) + 4 : Nat) : Int) := by rw [IntKind.wrap_i64]; omega
          clear hog hbg hrg hrun3 ho3 hts3 HGR
          go_wp2_with (at_builtin; refine Lib.wpList_append_run _ rfl _ _ _ _ rfl _ _ rfl rfl _ _ HRUN3.out ?_)
          go_roundw
          case rel => exact ⟨_, r.drop 3, some (a.add (3)), cb - (3), (0) + 4, by rw [HRS.out]; first | rfl | simp, by rw [HRS.out]; omega, HRD3.out, by go_num, by omega, fun _ => by rw [HL3.out]; omega, HEN.out, HO3.out, fun e => by have := HL3.out; rw [e] at this; simp at this, HB3.out, by omega, by rw [HRS.out]; omega⟩
          case measure => simp only [lenV2]; omega
      · have hk76i : ¬ (k : Int) = 76 := by omega
        have hk76b : ((k : Int) == 76) = false := by rw [beq_eq_false_iff_ne]; exact hk76i
        have HOx := HO; have HZx := HZ; have HBx := HB
        obtain ⟨np1, hnp1⟩ : ∃ np1, np1 = np := ⟨_, rfl⟩
        rw [← hnp1] at HOx HZx hc00 ⊢
        have HNx : Hid (np1 = pre.length ∧ np1 ≤ 7000010) := Lib.hid ⟨by rw [hnp1]; exact HNP.out, by omega⟩
        clear hnp1 HO HZ HB
        by_cases hn3 : nr ≤ 3
        · have hn3i : (nr : Int) ≤ 3 := by omega
          have hn3j : ¬ (3 : Int) < nr := by omega
          have hqe : nr = q := by omega
          clear hq
          subst hqe
          have hg := grp_any wL (some a) cb (r.take 3) ((HRD.out _ HBx.out).take 3) (by rw [HQL.out]; exact hcq) (by rw [HQL.out]; exact hq1) (by rw [HQL.out]; exact hq3)
          rw [HQL.out] at hg
          have HGR := Lib.hid hg
          clear hg
          go_wp2_with fail
          refine HGR.out.mono ?_
          rintro e W2 ⟨vg, rfl, hog, hbg⟩
          obtain ⟨Ag, cg, hvg, hcg, hrg⟩ := hog.rd
          rw [CodeMath.grp_len] at hvg hcg
          subst hvg
          obtain ⟨v3, W3, hrun3, ho3, hts3⟩ := appb_run (m := 4) (c := cg) (HOx.out.below hbg) HZx.out hrg (CodeMath.grp_len _).symm (Nat.le_trans HBx.out.size hbg.size) (by have := HNx.out; rw [CodeMath.grp_len]; omega)
          have HO3 := Lib.hid ho3
          have HB3 : Hid (Below w.heap.size w W3) := Lib.hid ((below_then HBx.out HBx.out.size hbg).trans hts3.1)
          obtain ⟨A3, c3, hv3, hc3, _⟩ := ho3.rd
          have HL3 : Hid ((pre ++ CodeMath.grp (r.take 3)).length = np1 + 4) := Lib.hid (by rw [List.length_append, CodeMath.grp_len]; have := HNx.out; omega)
          rw [HL3.out] at hv3 hc3
          subst hv3
          have HRUN3 := Lib.hid hrun3
          have HEN : Hid (CodeMath.enc 0 b = (pre ++ CodeMath.grp (r.take 3)) ++ CodeMath.enc ((k) + 4) (r.drop 3)) := Lib.hid (by rw [HE.out, HST.out]; rw [if_neg hk76, if_neg hk76]; simp [List.append_assoc])
          have HRD3 : Hid (∀ W, Below w.heap.size w W → Rd W (some (a.add (nr))) (r.drop 3)) := Lib.hid fun W hW => by first | exact (HRD.out W hW).drop 3 | (rw [← HDR.out]; exact (HRD.out W hW).drop (nr))
          have hwk : IntKind.i64.wrap (((k : Nat) : Int) + 4) = (((k) + 4 : Nat) : Int) := by rw [IntKind.wrap_i64]; omega
          clear hog hbg hrg hrun3 ho3 hts3 HGR
          by_cases hcx : cb = nr
          · have hcx' := hcx.symm
            clear hcx
            subst hcx'
            have he0 : r.drop 3 = [] := List.eq_nil_of_length_eq_zero (by rw [HRS.out]; omega)
            have HE0 := Lib.hid he0
            have hrl0 : (r.drop 3).length = 0 := by rw [he0]; rfl
            have HRL0 := Lib.hid hrl0
            clear he0 hrl0
            go_wp2_with (at_builtin; refine Lib.wpList_append_run _ rfl _ _ _ _ rfl _ _ rfl rfl _ _ HRUN3.out ?_)
            go_roundw
            case rel => exact ⟨_, r.drop 3, some a, 0, (k) + 4, by rw [HRL0.out], by rw [HRL0.out]; exact Nat.le_refl _, fun W hW => by rw [HE0.out]; exact Rd.none', by go_num, by omega, fun _ => by rw [HL3.out]; omega, HEN.out, HO3.out, fun e => by have := HL3.out; rw [e] at this; simp at this, HB3.out, by omega, by rw [HRL0.out]; omega⟩
            case measure => simp only [lenV2]; omega
          ·
            go_wp2_with (at_builtin; refine Lib.wpList_append_run _ rfl _ _ _ _ rfl _ _ rfl rfl _ _ HRUN3.out ?_)
            go_roundw
            case rel => exact ⟨_, r.drop 3, some (a.add (nr)), cb - (nr), (k) + 4, by rw [HRS.out]; first | rfl | simp, by rw [HRS.out]; omega, HRD3.out, by go_num, by omega, fun _ => by rw [HL3.out]; omega, HEN.out, HO3.out, fun e => by have := HL3.out; rw [e] at this; simp at this, HB3.out, by omega, by rw [HRS.out]; omega⟩
            case measure => simp only [lenV2]; omega
        · have hn3i : ¬ (nr : Int) ≤ 3 := by omega
          have hn3j : (3 : Int) < nr := by omega
          have hqe : 3 = q := by omega
          clear hq
          subst hqe
          have hcx : ¬ cb = 3 := by omega
          have hg := grp_any wL (some a) cb (r.take 3) ((HRD.out _ HBx.out).take 3) (by rw [HQL.out]; exact hcq) (by rw [HQL.out]; exact hq1) (by rw [HQL.out]; exact hq3)
          rw [HQL.out] at hg
          have HGR := Lib.hid hg
          clear hg
          go_wp2_with fail
          refine HGR.out.mono ?_
          rintro e W2 ⟨vg, rfl, hog, hbg⟩
          obtain ⟨Ag, cg, hvg, hcg, hrg⟩ := hog.rd
          rw [CodeMath.grp_len] at hvg hcg
          subst hvg
          obtain ⟨v3, W3, hrun3, ho3, hts3⟩ := appb_run (m := 4) (c := cg) (HOx.out.below hbg) HZx.out hrg (CodeMath.grp_len _).symm (Nat.le_trans HBx.out.size hbg.size) (by have := HNx.out; rw [CodeMath.grp_len]; omega)
          have HO3 := Lib.hid ho3
          have HB3 : Hid (Below w.heap.size w W3) := Lib.hid ((below_then HBx.out HBx.out.size hbg).trans hts3.1)
          obtain ⟨A3, c3, hv3, hc3, _⟩ := ho3.rd
          have HL3 : Hid ((pre ++ CodeMath.grp (r.take 3)).length = np1 + 4) := Lib.hid (by rw [List.length_append, CodeMath.grp_len]; have := HNx.out; omega)
          rw [HL3.out] at hv3 hc3
          subst hv3
          have HRUN3 := Lib.hid hrun3
          have HEN : Hid (CodeMath.enc 0 b = (pre ++ CodeMath.grp (r.take 3)) ++ CodeMath.enc ((k) + 4) (r.drop 3)) := Lib.hid (by rw [HE.out, HST.out]; rw [if_neg hk76, if_neg hk76]; simp [List.append_assoc])
          have HRD3 : Hid (∀ W, Below w.heap.size w W → Rd W (some (a.add (3))) (r.drop 3)) := Lib.hid fun W hW => by first | exact (HRD.out W hW).drop 3 | (rw [← HDR.out]; exact (HRD.out W hW).drop (3))
          have hwk : IntKind.i64.wrap (((k : Nat) : Int) + 4) = (((k) + 4 : Nat) : Int) := by rw [IntKind.wrap_i64]; omega
          clear hog hbg hrg hrun3 ho3 hts3 HGR
          go_wp2_with (at_builtin; refine Lib.wpList_append_run _ rfl _ _ _ _ rfl _ _ rfl rfl _ _ HRUN3.out ?_)
          go_roundw
          case rel => exact ⟨_, r.drop 3, some (a.add (3)), cb - (3), (k) + 4, by rw [HRS.out]; first | rfl | simp, by rw [HRS.out]; omega, HRD3.out, by go_num, by omega, fun _ => by rw [HL3.out]; omega, HEN.out, HO3.out, fun e => by have := HL3.out; rw [e] at this; simp at this, HB3.out, by omega, by rw [HRS.out]; omega⟩
          case measure => simp only [lenV2]; omega
end Go.Proofs.YtgaccogekmaijaaDoor
