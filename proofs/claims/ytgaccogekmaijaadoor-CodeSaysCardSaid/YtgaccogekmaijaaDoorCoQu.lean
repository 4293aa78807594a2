/- Quoted is walked. -/
import Derived.Test.YtgaccogekmaijaaDoorCoTk
import Derived.Test.YtgaccogekmaijaaDoorCoLn
namespace CodeMath
theorem qpF_mono : ∀ f g n b, b.length < f → b.length < g → qpF f n b = qpF g n b := by
  intro f
  induction f with
  | zero => intro g n b h; omega
  | succ f ih =>
    intro g n b h1 h2
    cases g with
    | zero => omega
    | succ g =>
      cases b with
      | nil => rfl
      | cons c t =>
        simp only [List.length_cons] at h1 h2
        simp only [qpF]
        rw [ih g 0 (t.drop 1) (by rw [List.length_drop]; omega) (by rw [List.length_drop]; omega), ih g (tok c t).length t (by omega) (by omega), ih g (n + (tok c t).length) t (by omega) (by omega)]
def qpS (n : Nat) (b : List UInt8) : List UInt8 := qpF (b.length + 1) n b
theorem qpS_nil (n : Nat) : qpS n [] = [] := rfl
theorem qpS_cons (n : Nat) (c : UInt8) (t : List UInt8) : qpS n (c :: t) = if crlfAt (c :: t) then [13, 10] ++ qpS 0 (t.drop 1)
    else if 75 < n + (tok c t).length then [61, 13, 10] ++ (tok c t ++ qpS (tok c t).length t) else tok c t ++ qpS (n + (tok c t).length) t := by
  unfold qpS
  show qpF ((t.length + 1) + 1) n (c :: t) = _
  simp only [qpF]
  rw [qpF_mono (t.length + 1) ((t.drop 1).length + 1) 0 (t.drop 1) (by rw [List.length_drop]; omega) (by omega)]
theorem qpF_len : ∀ f n b, b.length < f → (qpF f n b).length ≤ 6 * b.length := by
  intro f
  induction f with
  | zero => intro n b h; omega
  | succ f ih =>
    intro n b h
    cases b with
    | nil => simp [qpF]
    | cons c t =>
      simp only [List.length_cons] at h
      have h3 := (tok_plain c t).2.2
      have a1 := ih 0 (t.drop 1) (by rw [List.length_drop]; omega)
      rw [List.length_drop] at a1
      have a2 := ih (tok c t).length t (by omega)
      have a3 := ih (n + (tok c t).length) t (by omega)
      simp only [qpF]
      split
      · simp only [List.length_append, List.length_cons, List.length_nil]; omega
      · split
        · simp only [List.length_append, List.length_cons, List.length_nil]; omega
        · simp only [List.length_append, List.length_cons]; omega
end CodeMath
namespace Go.Proofs.YtgaccogekmaijaaDoor
open Go.RowKit Go.Maps
set_option linter.unusedVariables false
set_option linter.unusedSimpArgs false
attribute [local irreducible] wpR relOp Stu.wpR Stu.relOp
theorem apps_any {W : World} {base : Nat} {v : Value} {l : List UInt8} {s : ByteArray} (HO : Ob W base 5 v l) (hz : l = [] → v = .slice none 0 0) (hB : base ≤ W.heap.size) (hlen : l.length + s.size ≤ 1000000000) :
    ∃ v' W', (Builtin.append_ #[22, 9] 22 #[v, .string s]).run Tryd.prog W = .ok v' W' ∧ Ob W' base 5 v' (l ++ s.data.toList) ∧ TS base W W' := by
  by_cases hl : 1 ≤ l.length
  · exact apps_run HO hl hB hlen
  · have hl0 : l = [] := List.eq_nil_of_length_eq_zero (by omega)
    subst hl0
    have hv := hz rfl
    subst hv
    obtain ⟨i0, hi, hzz⟩ := Option.map_eq_some_iff.1 info_u8b
    simp only [Prod.mk.injEq] at hzz
    have hsz : s.data.toList.length = s.size := by rw [Array.length_toList]; rfl
    obtain ⟨v1, W', hr, h2, h3, _⟩ := Lib.run_append_own_string (P := Tryd.prog) (w := W) base 22 9 22 5 i0 Tryd.underlying22 Tryd.underlying9 hi hzz.1 hzz.2.1 hzz.2.2 _ 0 (bvl []) HO s (by simp only [maxLen]; simp at hlen; omega) (by simp at hlen; omega) hB
    refine ⟨v1, W', hr, ?_, ?_⟩
    · unfold Ob
      rw [bvl_append, List.length_append, hsz, ← strCells_bvl]
      exact h2
    · exact Gs.ts _ _ ⟨⟨h3.os, h3.tape, h3.output, h3.size, fun k hk => h3.block k hk (fun e => by cases e)⟩, hB⟩
set_option maxRecDepth 20000 in
set_option maxHeartbeats 4000000 in
theorem quoted_any (w : World) (A : Option Addr) (c : Nat) (b : List UInt8) (hr : Rd w A b) (hc : b.length ≤ c) (hl : b.length ≤ 1000000) :
    Calls Tryd.prog 9 #[.slice A b.length c] w fun e w' => ∃ v, e = .returned v ∧ Ob w' w.heap.size 5 v (CodeMath.qpS 0 b) ∧ Below w.heap.size w w' := by
  have HTot : Hid ((CodeMath.qpS 0 b).length ≤ 7000000) := Lib.hid (by have := CodeMath.qpF_len (b.length + 1) 0 b (by omega); unfold CodeMath.qpS; omega)
  obtain ⟨m, hm⟩ : ∃ m, m = b.length := ⟨_, rfl⟩
  rw [← hm] at hc hl ⊢
  have HM := Lib.hid hm; have HR := Lib.hid hr
  clear hm hr
  go_enter Tryd.func9, Tryd.ntmps9
  go_wp2_with fail
  go_loopw [0, 3, 4, 5, 6] (fun vb vo n _ _ wr => ∃ (pre r : List UInt8) (Ab : Option Addr) (cb k : Nat), vb = .slice Ab r.length cb ∧ r.length ≤ cb ∧ (∀ W, Below w.heap.size w W → Rd W Ab r) ∧ n = .int .i64 k ∧ k ≤ 75 ∧ CodeMath.qpS 0 b = pre ++ CodeMath.qpS k r ∧ Ob wr w.heap.size 5 vo pre ∧ (pre = [] → vo = .slice none 0 0) ∧ Below w.heap.size w wr ∧ r.length ≤ m) (fun vb _ _ _ _ _ => lenV2 vb)
  case atStart => exact ⟨[], b, A, c, 0, by rw [HM.out], by rw [← HM.out]; exact hc, fun W hW => HR.out.below hW, rfl, by omega, rfl, Ob.nil _ _ _, fun _ => rfl, Below.refl _ _, by rw [HM.out]; exact Nat.le_refl _⟩
  case round =>
    rename World => wL
    obtain ⟨pre, r, Ab, cb, k, rfl, hcb, hrd, rfl, hk, henc, hob, hz, hb, hrm⟩ := hrel
    obtain ⟨nr, hnr⟩ : ∃ nr, nr = r.length := ⟨_, rfl⟩
    obtain ⟨np, hnp⟩ : ∃ np, np = pre.length := ⟨_, rfl⟩
    obtain ⟨A0, c00, hv0, hc00, _⟩ := hob.rd
    rw [← hnp] at hv0 hc00
    subst hv0
    rw [← hnr] at hcb hrm ⊢
    have hnp9 : np ≤ 7000000 := by
      have h1 := HTot.out
      rw [henc, List.length_append] at h1
      omega
    have HNR := Lib.hid hnr; have HNP := Lib.hid hnp; have HRD := Lib.hid hrd; have HE := Lib.hid henc; have HO := Lib.hid hob; have HZ := Lib.hid hz; have HB := Lib.hid hb
    clear hnr hnp hrd henc hob hz hb
    have hBs : w.heap.size ≤ wL.heap.size := HB.out.size
    cases r with
    | nil =>
      obtain rfl : nr = 0 := HNR.out
      have HRES : Hid (CodeMath.qpS 0 b = pre) := Lib.hid (by rw [HE.out, CodeMath.qpS_nil, List.append_nil])
      go_wp2
      go_ret
      exact ⟨_, rfl, by rw [HRES.out]; exact HO.out, HB.out⟩
    | cons x t =>
      have hnr1 : 1 ≤ nr := by have := HNR.out; simp at this; omega
      have hnr0i : (0 : Int) < nr := by omega
      obtain ⟨a, rfl, _⟩ := (HRD.out wL HB.out).2 (by simp)
      have htk := token_any wL (some a) cb nr x t (HRD.out wL HB.out) HNR.out hcb
      have HTK := Lib.hid htk
      have hst := CodeMath.qpS_cons k x t
      have HST := Lib.hid hst
      have hts := CodeMath.tok_plain x t
      clear htk hst
      by_cases hcr : CodeMath.crlfAt (x :: t) = true
      · have hS : CodeMath.tokS x t = [13, 10] := by unfold CodeMath.tokS; rw [if_pos hcr]
        have hK : CodeMath.tokK x t = 2 := by unfold CodeMath.tokK; rw [if_pos hcr]
        obtain ⟨S, hSe⟩ : ∃ S : ByteArray, S = ⟨(CodeMath.tokS x t).toArray⟩ := ⟨_, rfl⟩
        have hsz : S.size = 2 := by rw [hSe, hS]; rfl
        have hSd : S.data.toList = [13, 10] := by rw [hSe, hS]
        have hne' : (S.toList == [13, 10]) = true := by
          rw [beq_iff_eq, Lib.toList_data, hSd]
        have ht1 : 1 ≤ t.length := by
          cases t with
          | nil => simp [CodeMath.crlfAt] at hcr
          | cons d t => simp
        have hlt : t.length = nr - 1 := by rw [HNR.out]; rfl
        have h2n : 2 ≤ nr := by omega
        have h2i : (2 : Int) ≤ nr := by omega
        have h2c : 2 ≤ cb := by omega
        have h2ci : (2 : Int) ≤ cb := by omega
        have hrest : (t.drop 1).length = nr - 2 := by rw [List.length_drop, hlt]; omega
        have HRS := Lib.hid hrest; have HSD := Lib.hid hSd
        have HTK2 : Hid (Calls Tryd.prog 20 #[.slice (some a) nr cb] wL fun e w' => e = .returned (.tuple #[.string S, .int .i64 2]) ∧ Below wL.heap.size wL w') := Lib.hid (by
          refine HTK.out.mono ?_
          rintro e w' ⟨rfl, h⟩
          rw [hK, ← hSe]
          exact ⟨rfl, h⟩)
        have HSL : Hid (2 = ([13, 10] : List UInt8).length) := Lib.hid rfl
        have HR2 : Hid (∀ W, Below w.heap.size w W → Rd W (some (a.add 2)) (t.drop 1)) := Lib.hid fun W hW => (HRD.out W hW).drop 2
        have HEN : Hid (CodeMath.qpS 0 b = (pre ++ [13, 10]) ++ CodeMath.qpS 0 (t.drop 1)) := Lib.hid (by
          rw [HE.out, HST.out, if_pos hcr]; simp)
        obtain ⟨r2, hr2⟩ : ∃ r2, r2 = t.drop 1 := ⟨_, rfl⟩
        rw [← hr2] at HRS HR2 HEN
        clear HTK hS hK hSe hSd hts hrest hcr hr2 ht1 hlt
        go_wp2_with fail
        refine HTK2.out.mono ?_
        rintro e w1 ⟨rfl, hb1⟩
        have HB1 : Hid (Below w.heap.size w w1) := Lib.hid (below_then HB.out HB.out.size hb1)
        have ho1 := HO.out.below hb1
        have HO1 := Lib.hid ho1
        clear hb1 ho1
        obtain ⟨v3, W3, hrun3, ho3, hts3⟩ := apps_any (s := S) HO1.out HZ.out HB1.out.size (by rw [← HNP.out, hsz]; omega)
        have HRUN3 := Lib.hid hrun3
        have HO3 : Hid (Ob W3 w.heap.size 5 v3 (pre ++ [13, 10])) := Lib.hid (by have h := ho3; rw [HSD.out] at h; exact h)
        have HB3 : Hid (Below w.heap.size w W3) := Lib.hid (HB1.out.trans hts3.1)
        have HZ3 : Hid (pre ++ [13, 10] = [] → v3 = .slice none 0 0) := Lib.hid (fun e => by have h := congrArg List.length e; simp only [List.length_append, List.length_nil] at h; have := HSL.out; omega)
        obtain ⟨A3, c3, rfl, _⟩ := ho3.rd
        generalize (_ ++ S.data.toList).length = n3 at *
        clear hrun3 ho3 hts3
        by_cases hcx : cb = (2)
        · have hcx' := hcx.symm
          clear hcx
          subst hcx'
          have he0 : r2 = [] := List.eq_nil_of_length_eq_zero (by rw [HRS.out]; omega)
          have HE0 := Lib.hid he0
          have hrl0 : r2.length = 0 := by rw [he0]; rfl
          have HRL0 := Lib.hid hrl0
          clear he0 hrl0
          go_wp2_with (at_builtin; refine Lib.wpList_append_run _ rfl _ _ _ _ rfl _ _ rfl rfl _ _ HRUN3.out ?_)
          go_roundw
          case rel => exact ⟨_, r2, some a, 0, 0, by rw [HRL0.out], by rw [HRL0.out]; exact Nat.le_refl _, fun W hW => by rw [HE0.out]; exact Rd.none', by go_num, by omega, HEN.out, HO3.out, HZ3.out, HB3.out, by rw [HRL0.out]; omega⟩
          case measure => simp only [lenV2]; omega
        · go_wp2_with (at_builtin; refine Lib.wpList_append_run _ rfl _ _ _ _ rfl _ _ rfl rfl _ _ HRUN3.out ?_)
          go_roundw
          case rel => exact ⟨_, r2, some (a.add (2)), cb - (2), 0, by rw [HRS.out]; first | rfl | simp [Addr.add], by rw [HRS.out]; omega, fun W hW => HR2.out W hW, by go_num, by omega, HEN.out, HO3.out, HZ3.out, HB3.out, by rw [HRS.out]; omega⟩
          case measure => simp only [lenV2]; omega
      · have hS : CodeMath.tokS x t = CodeMath.tok x t := by unfold CodeMath.tokS; rw [if_neg hcr]
        have hK : CodeMath.tokK x t = 1 := by unfold CodeMath.tokK; rw [if_neg hcr]
        obtain ⟨S, hSe⟩ : ∃ S : ByteArray, S = ⟨(CodeMath.tokS x t).toArray⟩ := ⟨_, rfl⟩
        obtain ⟨sl, hsl⟩ : ∃ sl, sl = (CodeMath.tok x t).length := ⟨_, rfl⟩
        have hsz : S.size = sl := by rw [hSe, hS, hsl]; rfl
        have hsl3 : sl ≤ 3 := by rw [hsl]; exact hts.2.2
        have hsl1 : 1 ≤ sl := by rw [hsl]; exact List.length_pos_iff.2 hts.2.1
        have hSd : S.data.toList = CodeMath.tok x t := by rw [hSe, hS]
        have hne' : (S.toList == [13, 10]) = false := by
          rw [beq_eq_false_iff_ne, Lib.toList_data, hSd]
          intro this
          exact (hts.1 13 (by rw [this]; simp)).2 rfl
        have hrest : t.length = nr - 1 := by rw [HNR.out]; rfl
        have HRS := Lib.hid hrest; have HSD := Lib.hid hSd
        have HTK2 : Hid (Calls Tryd.prog 20 #[.slice (some a) nr cb] wL fun e w' => e = .returned (.tuple #[.string S, .int .i64 1]) ∧ Below wL.heap.size wL w') := Lib.hid (by
          refine HTK.out.mono ?_
          rintro e w' ⟨rfl, h⟩
          rw [hK, ← hSe]
          exact ⟨rfl, h⟩)
        have HSL := Lib.hid hsl; have HCR := Lib.hid hcr
        clear HTK hS hK hSe hsl hSd hts hrest hcr
        go_wp2_with fail
        refine HTK2.out.mono ?_
        rintro e w1 ⟨rfl, hb1⟩
        have HB1 : Hid (Below w.heap.size w w1) := Lib.hid (below_then HB.out HB.out.size hb1)
        have ho1 := HO.out.below hb1
        have HO1 := Lib.hid ho1
        clear hb1 ho1
        have HR2 : Hid (∀ W, Below w.heap.size w W → Rd W (some (a.add 1)) t) := Lib.hid fun W hW => (HRD.out W hW).drop 1
        have hwk : IntKind.i64.wrap ((k : Int) + sl) = ((k + sl : Nat) : Int) := by rw [IntKind.wrap_i64]; omega
        have hws : IntKind.i64.wrap (sl : Int) = (sl : Int) := by rw [IntKind.wrap_i64]; omega
        obtain ⟨r2, hr2⟩ : ∃ r2, r2 = t := ⟨_, rfl⟩
        rw [← hr2] at HRS HR2
        by_cases h75 : 75 < k + sl
        · have h75i : (75 : Int) < ((k + sl : Nat) : Int) := by omega
          obtain ⟨v2, W2, hrun2, ho2, hts2⟩ := apps_any (s := ⟨#[61, 13, 10]⟩) HO1.out HZ.out HB1.out.size (by rw [← HNP.out]; have : (⟨#[61, 13, 10]⟩ : ByteArray).size = 3 := rfl; omega)
          have HRUN2 := Lib.hid hrun2
          have HO2 : Hid (Ob W2 w.heap.size 5 v2 (pre ++ [61, 13, 10])) := Lib.hid ho2
          have HB2 : Hid (Below w.heap.size w W2) := Lib.hid (HB1.out.trans hts2.1)
          obtain ⟨A2, c2, hv2, _⟩ := ho2.rd
          obtain ⟨n2, hn2⟩ : ∃ n2, n2 = (pre ++ [61, 13, 10]).length := ⟨_, rfl⟩
          have HN2 : Hid (n2 = (pre ++ [61, 13, 10]).length ∧ n2 ≤ 7000010) := Lib.hid ⟨hn2, by rw [hn2, List.length_append, ← HNP.out]; show np + 3 ≤ _; omega⟩
          have hv2' : v2 = .slice A2 n2 c2 := by rw [hv2, hn2]
          subst hv2'
          have HEN : Hid (CodeMath.qpS 0 b = (pre ++ [61, 13, 10] ++ CodeMath.tok x t) ++ CodeMath.qpS sl r2) := Lib.hid (by
            rw [HE.out, HST.out, if_neg HCR.out, ← HSL.out, if_pos h75, hr2]; simp)
          clear hrun2 ho2 hts2 hn2 hv2 h75 hr2
          obtain ⟨v3, W3, hrun3, ho3, hts3⟩ := apps_any (s := S) HO2.out (fun e => by simp at e) HB2.out.size (by rw [← HN2.out.1, hsz]; have := HN2.out.2; omega)
          have HRUN3 := Lib.hid hrun3
          have HO3 : Hid (Ob W3 w.heap.size 5 v3 (pre ++ [61, 13, 10] ++ CodeMath.tok x t)) := Lib.hid (by have h := ho3; rw [HSD.out] at h; exact h)
          have HB3 : Hid (Below w.heap.size w W3) := Lib.hid (HB2.out.trans hts3.1)
          have HZ3 : Hid (pre ++ [61, 13, 10] ++ CodeMath.tok x t = [] → v3 = .slice none 0 0) := Lib.hid (fun e => by have h := congrArg List.length e; simp only [List.length_append, List.length_nil] at h; have := HSL.out; omega)
          obtain ⟨A3, c3, rfl, _⟩ := ho3.rd
          generalize (_ ++ S.data.toList).length = n3 at *
          clear hrun3 ho3 hts3
          by_cases hcx : cb = (1)
          · have hcx' := hcx.symm
            clear hcx
            subst hcx'
            have he0 : r2 = [] := List.eq_nil_of_length_eq_zero (by rw [HRS.out]; omega)
            have HE0 := Lib.hid he0
            have hrl0 : r2.length = 0 := by rw [he0]; rfl
            have HRL0 := Lib.hid hrl0
            clear he0 hrl0
            go_wp2_with (at_builtin; (first | refine Lib.wpList_append_run _ rfl _ _ _ _ rfl _ _ rfl rfl _ _ HRUN2.out ?_ | refine Lib.wpList_append_run _ rfl _ _ _ _ rfl _ _ rfl rfl _ _ HRUN3.out ?_))
            go_roundw
            case rel => exact ⟨_, r2, some a, 0, sl, by rw [HRL0.out], by rw [HRL0.out]; exact Nat.le_refl _, fun W hW => by rw [HE0.out]; exact Rd.none', by go_num, by omega, HEN.out, HO3.out, HZ3.out, HB3.out, by rw [HRL0.out]; omega⟩
            case measure => simp only [lenV2]; omega
          · go_wp2_with (at_builtin; (first | refine Lib.wpList_append_run _ rfl _ _ _ _ rfl _ _ rfl rfl _ _ HRUN2.out ?_ | refine Lib.wpList_append_run _ rfl _ _ _ _ rfl _ _ rfl rfl _ _ HRUN3.out ?_))
            go_roundw
            case rel => exact ⟨_, r2, some (a.add (1)), cb - (1), sl, by rw [HRS.out]; first | rfl | simp [Addr.add], by rw [HRS.out]; omega, fun W hW => HR2.out W hW, by go_num, by omega, HEN.out, HO3.out, HZ3.out, HB3.out, by rw [HRS.out]; omega⟩
            case measure => simp only [lenV2]; omega
        · have h75i : ¬ (75 : Int) < ((k + sl : Nat) : Int) := by omega
          have HEN : Hid (CodeMath.qpS 0 b = (pre ++ CodeMath.tok x t) ++ CodeMath.qpS (k + sl) r2) := Lib.hid (by
            rw [HE.out, HST.out, if_neg HCR.out, ← HSL.out, if_neg h75, hr2]; simp)
          clear hr2
          obtain ⟨v3, W3, hrun3, ho3, hts3⟩ := apps_any (s := S) HO1.out HZ.out HB1.out.size (by rw [← HNP.out, hsz]; omega)
          have HRUN3 := Lib.hid hrun3
          have HO3 : Hid (Ob W3 w.heap.size 5 v3 (pre ++ CodeMath.tok x t)) := Lib.hid (by have h := ho3; rw [HSD.out] at h; exact h)
          have HB3 : Hid (Below w.heap.size w W3) := Lib.hid (HB1.out.trans hts3.1)
          have HZ3 : Hid (pre ++ CodeMath.tok x t = [] → v3 = .slice none 0 0) := Lib.hid (fun e => by have h := congrArg List.length e; simp only [List.length_append, List.length_nil] at h; have := HSL.out; omega)
          obtain ⟨A3, c3, rfl, _⟩ := ho3.rd
          generalize (_ ++ S.data.toList).length = n3 at *
          clear hrun3 ho3 hts3
          by_cases hcx : cb = (1)
          · have hcx' := hcx.symm
            clear hcx
            subst hcx'
            have he0 : r2 = [] := List.eq_nil_of_length_eq_zero (by rw [HRS.out]; omega)
            have HE0 := Lib.hid he0
            have hrl0 : r2.length = 0 := by rw [he0]; rfl
            have HRL0 := Lib.hid hrl0
            clear he0 hrl0
            go_wp2_with (at_builtin; refine Lib.wpList_append_run _ rfl _ _ _ _ rfl _ _ rfl rfl _ _ HRUN3.out ?_)
            go_roundw
            case rel => exact ⟨_, r2, some a, 0, k + sl, by rw [HRL0.out], by rw [HRL0.out]; exact Nat.le_refl _, fun W hW => by rw [HE0.out]; exact Rd.none', by go_num, by omega, HEN.out, HO3.out, HZ3.out, HB3.out, by rw [HRL0.out]; omega⟩
            case measure => simp only [lenV2]; omega
          · go_wp2_with (at_builtin; refine Lib.wpList_append_run _ rfl _ _ _ _ rfl _ _ rfl rfl _ _ HRUN3.out ?_)
            go_roundw
            case rel => exact ⟨_, r2, some (a.add (1)), cb - (1), k + sl, by rw [HRS.out]; first | rfl | simp [Addr.add], by rw [HRS.out]; omega, fun W hW => HR2.out W hW, by go_num, by omega, HEN.out, HO3.out, HZ3.out, HB3.out, by rw [HRS.out]; omega⟩
            case measure => simp only [lenV2]; omega
end Go.Proofs.YtgaccogekmaijaaDoor
