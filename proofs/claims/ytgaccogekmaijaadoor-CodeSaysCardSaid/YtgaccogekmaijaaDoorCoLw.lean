/- Lines: the walk. -/
import Derived.Test.YtgaccogekmaijaaDoorCoRow
namespace Go.Proofs.YtgaccogekmaijaaDoor
open Go.RowKit Go.Maps
set_option linter.unusedVariables false
set_option linter.unusedSimpArgs false
attribute [local irreducible] wpR relOp Stu.wpR Stu.relOp
set_option maxRecDepth 20000 in
set_option maxHeartbeats 4000000 in
theorem lines_any (w : World) (A : Option Addr) (c : Nat) (b : List UInt8) (hr : Rd w A b) (hc : b.length ≤ c) (hl : b.length ≤ 1000000) :
    Calls Tryd.prog 26 #[.slice A b.length c] w fun e w' => ∃ v vs, e = .returned v ∧ w'.ownsRow w.heap.size 22 1 v (CodeMath.ln [] b).length vs ∧ Cellsl w vs (CodeMath.ln [] b) ∧ Below w.heap.size w w' := by
  obtain ⟨m, hm⟩ : ∃ m, m = b.length := ⟨_, rfl⟩
  rw [← hm] at hc hl ⊢
  have HM := Lib.hid hm; have HR := Lib.hid hr
  clear hm hr
  go_enter Tryd.func26, Tryd.ntmps26
  go_wp2_with fail
  go_loopw [3, 4, 5] (fun vl vf vi wr => ∃ (i f : Nat) (vs : List Value) (ls : List (List UInt8)), vf = .int .i64 f ∧ vi = .int .i64 i ∧ f ≤ i ∧ i ≤ m ∧ wr.ownsRow w.heap.size 22 1 vl ls.length vs ∧ (ls.length = 0 → vl = .slice none 0 0) ∧ Cellsl w vs ls ∧ CodeMath.ln [] b = ls ++ CodeMath.ln ((b.drop f).take (i - f)) (b.drop i) ∧ ¬ (((b.drop f).take (i - f)).getLast? = some 13 ∧ (b.drop i).head? = some 10) ∧ Below w.heap.size w wr ∧ ls.length ≤ i) (fun _ _ vi _ => m - (intOf vi).toNat)
  case atStart => exact ⟨0, 0, [], [], rfl, rfl, Nat.le_refl _, Nat.zero_le _, ⟨rfl, .inl ⟨rfl, rfl⟩⟩, fun _ => rfl, trivial, by simp, by simp, Below.refl _ _, Nat.le_refl _⟩
  case round =>
    rename World => wr
    obtain ⟨i, f, vs, ls, rfl, rfl, hfi, him, hrow, hz, hcl, hln, hcn, hb, hlsi⟩ := hrel
    obtain ⟨n, hn⟩ : ∃ n, n = ls.length := ⟨_, rfl⟩
    rw [← hn] at hrow hz hlsi
    obtain ⟨A0, c0, rfl, hc0⟩ := shpn.of_row hrow
    have HN := Lib.hid hn; have HROW := Lib.hid hrow; have HZ := Lib.hid hz; have HCL := Lib.hid hcl; have HLN := Lib.hid hln; have HC := Lib.hid hcn; have HB := Lib.hid hb
    clear hn hrow hz hcl hln hcn hb
    have hwi : IntKind.i64.wrap ((i : Int) + 1) = (i : Int) + 1 := by rw [IntKind.wrap_i64]; omega
    have hwi2 : IntKind.i64.wrap ((i : Int) + 2) = (i : Int) + 2 := by rw [IntKind.wrap_i64]; omega
    have hwi3 : IntKind.i64.wrap ((i : Int) + 1 + 1) = (i : Int) + 1 + 1 := by rw [IntKind.wrap_i64]; omega
    by_cases hlt : i + 1 < m
    · have hlti : (i : Int) + 1 < m := by omega
      have hlt0 : (i : Int) < m := by omega
      have hib : i < b.length := by rw [← HM.out]; omega
      have hib1 : i + 1 < b.length := by rw [← HM.out]; omega
      obtain ⟨a, rfl, x0⟩ := (HR.out.below HB.out).at_ i hib
      obtain ⟨a', ea, x1⟩ := (HR.out.below HB.out).at_ (i + 1) hib1
      obtain rfl := Option.some.inj ea
      rw [show a.add (i + 1) = ⟨a.block, a.off + (i + 1), none⟩ by simp [Addr.add]] at x1
      have hd : b.drop i = b[i] :: b[i + 1] :: b.drop (i + 2) := by
        rw [List.drop_eq_getElem_cons hib, List.drop_eq_getElem_cons hib1]
      have hd1 : b.drop (i + 1) = b[i + 1] :: b.drop (i + 2) := by
        rw [List.drop_eq_getElem_cons hib1]
      have htk : (b.drop f).take (i + 1 - f) = (b.drop f).take (i - f) ++ [b[i]] := by
        rw [show i + 1 - f = (i - f) + 1 by omega, List.take_add_one, List.getElem?_drop, show f + (i - f) = i by omega, List.getElem?_eq_getElem hib]
        rfl
      have htk2 : (b.drop f).take (i + 2 - f) = (b.drop f).take (i - f) ++ [b[i], b[i + 1]] := by
        rw [show i + 2 - f = (i + 1 - f) + 1 by omega, List.take_add_one, List.getElem?_drop, show f + (i + 1 - f) = i + 1 by omega, List.getElem?_eq_getElem hib1, htk]
        simp
      generalize b[i] = x at *
      generalize b[i + 1] = y at *
      have HD := Lib.hid hd; have HD1 := Lib.hid hd1; have HTK := Lib.hid htk.symm; have HTK2 := Lib.hid htk2
      have hx8 := x.toNat_lt
      have hy8 := y.toNat_lt
      clear hd hd1 htk htk2 hib hib1 ea
      by_cases hx : x = 13
      · have hxb : ((x.toNat : Int) == 13) = true := by rw [hx]; rfl
        by_cases hy : y = 10
        · have hyb : ((y.toNat : Int) == 10) = true := by rw [hy]; rfl
          have hf2 : (f : Int) ≤ (i : Int) + 2 := by omega
          have hi2c : (i : Int) + 2 ≤ c := by omega
          have hfc : ¬ c = f := by omega
          have hf0 : (0 : Int) ≤ f := by omega
          have hfci : (f : Int) ≤ c := by omega
          have hfci2 : f ≤ c := by omega
          have hfi2n : f ≤ i + 2 := by omega
          have hi2cn : i + 2 ≤ c := by omega
          have HLE : Hid (CodeMath.ln [] b = (ls ++ [(b.drop f).take (i + 2 - f)]) ++ CodeMath.ln [] (b.drop (i + 2))) := Lib.hid (by
            rw [HLN.out, HD.out, hx, hy, CodeMath.ln_brk, HTK2.out, hx, hy]
            simp)
          have HEL : Hid (∃ A' c', Value.slice (some (a.add f)) (i + 2 - f) (c - f) = .slice A' ((b.drop f).take (i + 2 - f)).length c' ∧ ((b.drop f).take (i + 2 - f)).length ≤ c' ∧ Rd w A' ((b.drop f).take (i + 2 - f))) := Lib.hid (by
            have hlen : ((b.drop f).take (i + 2 - f)).length = i + 2 - f := by
              rw [List.length_take, List.length_drop, ← HM.out]; omega
            refine ⟨_, c - f, ?_, by omega, (HR.out.drop f).take _⟩
            rw [hlen]
            rfl)
          obtain ⟨v3, W3, hrun3, ho3, hb3⟩ := appl_run (Ax := some (a.add f)) (nx := i + 2 - f) (cx := c - f) HB.out.size (by omega) HROW.out HZ.out
          obtain ⟨W1, hW1⟩ : ∃ W1, W1 = wr.alloc (.cells #[.slice (some (a.add f)) (i + 2 - f) (c - f)] 22) := ⟨_, rfl⟩
          rw [← hW1] at hrun3
          have HRUN := Lib.hid hrun3; have HW1 := Lib.hid hW1; have HO3 := Lib.hid ho3
          have HB3 : Hid (Below w.heap.size w W3) := Lib.hid (HB.out.trans hb3)
          obtain ⟨A3, c3, rfl, hc3⟩ := shpn.of_row ho3
          clear hrun3 hW1 ho3 hb3 hx hy
          go_wp2_with (at_builtin; rw [← HW1.out]; refine Lib.wpList_append_run _ rfl _ _ _ _ rfl _ _ rfl rfl _ _ HRUN.out ?_)
          go_roundw
          case rel => exact ⟨i + 2, i + 2, vs ++ [.slice (some (a.add f)) (i + 2 - f) (c - f)], ls ++ [(b.drop f).take (i + 2 - f)], by go_num, by go_num, by omega, by omega, by rw [List.length_append, ← HN.out]; exact HO3.out, fun e => by simp at e, HCL.out.snoc HEL.out, by rw [HLE.out, Nat.sub_self, List.take_zero], by simp, HB3.out, by rw [List.length_append, ← HN.out]; show n + 1 ≤ _; omega⟩
          case measure => simp [intOf]; omega
        · have hyb : ((y.toNat : Int) == 10) = false := by
            rw [beq_eq_false_iff_ne]
            intro h
            exact hy (UInt8.toNat_inj.1 (by have : (10 : UInt8).toNat = 10 := rfl; omega))
          have HCN : Hid (¬ (((b.drop f).take (i + 1 - f)).getLast? = some 13 ∧ (b.drop (i + 1)).head? = some 10)) := Lib.hid (by
            rw [← HTK.out, HD1.out]; simp; intro _; exact hy)
          clear hx hy
          go_wp2
          go_roundw
          case rel => exact ⟨i + 1, f, vs, ls, rfl, by go_num, by omega, by omega, by rw [← HN.out]; exact HROW.out, fun e => HZ.out (by rw [HN.out]; exact e), HCL.out, by rw [HLN.out, HD.out, CodeMath.ln_go _ _ _ (by have := HC.out; rw [HD.out] at this; simpa using this), HTK.out, ← HD1.out], HCN.out, HB.out, by rw [← HN.out]; omega⟩
          case measure => simp [intOf]; omega
      · have hxb : ((x.toNat : Int) == 13) = false := by
          rw [beq_eq_false_iff_ne]
          intro h
          exact hx (UInt8.toNat_inj.1 (by have : (13 : UInt8).toNat = 13 := rfl; omega))
        have HCN : Hid (¬ (((b.drop f).take (i + 1 - f)).getLast? = some 13 ∧ (b.drop (i + 1)).head? = some 10)) := Lib.hid (by
          rw [← HTK.out, HD1.out]; simp; intro h; exact absurd h hx)
        clear hx
        go_wp2
        go_roundw
        case rel => exact ⟨i + 1, f, vs, ls, rfl, by go_num, by omega, by omega, by rw [← HN.out]; exact HROW.out, fun e => HZ.out (by rw [HN.out]; exact e), HCL.out, by rw [HLN.out, HD.out, CodeMath.ln_go _ _ _ (by have := HC.out; rw [HD.out] at this; simpa using this), HTK.out, ← HD1.out], HCN.out, HB.out, by rw [← HN.out]; omega⟩
        case measure => simp [intOf]; omega
    · have hlti : ¬ (i : Int) + 1 < m := by omega
      have hrl : (b.drop i).length ≤ 1 := by rw [List.length_drop, ← HM.out]; omega
      have hcat : (b.drop f).take (i - f) ++ b.drop i = b.drop f := by
        have h := List.take_append_drop (i - f) (b.drop f)
        rw [List.drop_drop, show f + (i - f) = i by omega] at h
        exact h
      have hle := CodeMath.ln_end _ _ hrl HC.out
      rw [hcat] at hle
      by_cases hfm : f < m
      · have hfmi : (f : Int) < m := by omega
        have hne : b.drop f ≠ [] := by
          intro e
          have := congrArg List.length e
          rw [List.length_drop, ← HM.out] at this
          simp at this
          omega
        rw [if_neg hne] at hle
        have HLE : Hid (CodeMath.ln [] b = ls ++ [b.drop f]) := Lib.hid (by rw [HLN.out, hle])
        have hfc : ¬ c = f := by omega
        have hf0 : (0 : Int) ≤ f := by omega
        have hfci : (f : Int) ≤ c := by omega
        have hfci2 : f ≤ c := by omega
        have hfmi2 : (f : Int) ≤ m := by omega
        have hfmn : f ≤ m := by omega
        obtain ⟨a, rfl, _⟩ := HR.out.at_ f (by rw [← HM.out]; exact hfm)
        have HEL : Hid (∃ A' c', Value.slice (some (a.add f)) (m - f) (c - f) = .slice A' (b.drop f).length c' ∧ (b.drop f).length ≤ c' ∧ Rd w A' (b.drop f)) := Lib.hid (by
          have hlen : (b.drop f).length = m - f := by rw [List.length_drop, ← HM.out]
          refine ⟨_, c - f, ?_, by omega, HR.out.drop f⟩
          rw [hlen]
          rfl)
        obtain ⟨v3, W3, hrun3, ho3, hb3⟩ := appl_run (Ax := some (a.add f)) (nx := m - f) (cx := c - f) HB.out.size (by omega) HROW.out HZ.out
        obtain ⟨W1, hW1⟩ : ∃ W1, W1 = wr.alloc (.cells #[.slice (some (a.add f)) (m - f) (c - f)] 22) := ⟨_, rfl⟩
        rw [← hW1] at hrun3
        have HRUN := Lib.hid hrun3; have HW1 := Lib.hid hW1; have HO3 := Lib.hid ho3
        have HB3 : Hid (Below w.heap.size w W3) := Lib.hid (HB.out.trans hb3)
        obtain ⟨A3, c3, rfl, hc3⟩ := shpn.of_row ho3
        clear hrun3 hW1 ho3 hb3 hle hcat hrl hne
        go_wp2_with (at_builtin; rw [← HW1.out]; refine Lib.wpList_append_run _ rfl _ _ _ _ rfl _ _ rfl rfl _ _ HRUN.out ?_)
        go_ret
        exact ⟨_, rfl, vs ++ [.slice (some (a.add f)) (m - f) (c - f)], by rw [HLE.out, List.length_append, ← HN.out]; exact HO3.out, by rw [HLE.out]; exact HCL.out.snoc HEL.out, HB3.out⟩
      · have hfmi : ¬ (f : Int) < m := by omega
        have he : b.drop f = [] := List.drop_eq_nil_of_le (by rw [← HM.out]; omega)
        rw [if_pos he] at hle
        have HLE : Hid (CodeMath.ln [] b = ls) := Lib.hid (by rw [HLN.out, hle, List.append_nil])
        clear hle he hcat hrl
        go_wp2
        go_ret
        exact ⟨_, rfl, vs, by rw [HLE.out, ← HN.out]; exact HROW.out, by rw [HLE.out]; exact HCL.out, HB.out⟩
end Go.Proofs.YtgaccogekmaijaaDoor
