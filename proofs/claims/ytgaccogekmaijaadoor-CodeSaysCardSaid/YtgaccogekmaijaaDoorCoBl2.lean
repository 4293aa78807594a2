/- Blanks that end a line: the walk. -/
import Derived.Test.YtgaccogekmaijaaDoorCoBlk
namespace Go.Proofs.YtgaccogekmaijaaDoor
open Go.RowKit Go.Maps
set_option linter.unusedVariables false
set_option linter.unusedSimpArgs false
set_option maxRecDepth 20000 in
set_option maxHeartbeats 4000000 in
theorem blank_any (w : World) (A : Option Addr) (n c : Nat) (b : List UInt8) (hr : Rd w A b) (hn : b.length = n) (hc : n ≤ c) (hcap : c ≤ 9223372036854775807) :
    Calls Tryd.prog 23 #[.slice A n c] w fun e w' => e = .returned (.int .i64 (CodeMath.blankN b)) ∧ Below w.heap.size w w' := by
  have htr := trim_any w A n c b hr hn hc hcap
  have hll := CodeMath.lead_le b
  have hbn : CodeMath.blankN b = if CodeMath.lead b < b.length ∧ CodeMath.crlfAt (b.drop (CodeMath.lead b)) = false then 0 else CodeMath.lead b := rfl
  rw [hn] at hbn hll
  have kc := conv_const Tryd.underlying22 Tryd.underlying5
  have hws : IntKind.i64.wrap (n : Int) = (n : Int) := by rw [IntKind.wrap_i64]; omega
  obtain ⟨k, hk⟩ : ∃ k, k = CodeMath.lead b := ⟨_, rfl⟩
  rw [← hk] at hbn htr hll
  by_cases hkn : k = n
  · subst hkn
    rw [if_neg (by omega)] at hbn
    rw [Lib.leftV, if_pos rfl] at htr
    have HTR := Lib.hid htr; have HBN := Lib.hid hbn
    clear htr hbn hr hk hn hll
    go_enter Tryd.func23, Tryd.ntmps23
    go_wp2_with fail
    refine HTR.out.mono ?_
    rintro e w1 ⟨rfl, hb⟩
    have HB := Lib.hid hb
    clear hb HTR
    go_wp2
    go_ret
    exact ⟨by rw [HBN.out]; rfl, HB.out⟩
  · have hck : ¬ c = k := by omega
    rw [Lib.leftV, if_neg hkn, Lib.fromV, if_neg hck] at htr
    obtain ⟨m, rfl⟩ : ∃ m, n = k + m := ⟨n - k, by omega⟩
    have hm0 : 0 < m := by omega
    have hm0i : (0 : Int) < m := by omega
    rw [Nat.add_sub_cancel_left] at htr
    have hlti : (k : Int) < (k : Int) + m := by omega
    have hlti2 : (k : Int) < ((k + m : Nat) : Int) := by omega
    obtain ⟨a, rfl, _⟩ := hr.2 (by omega)
    have hd : Rd w (some (a.add k)) (b.drop k) := hr.drop k
    have hdl : (b.drop k).length = m := by rw [List.length_drop, hn]; omega
    have HP2 : Hid _ := Lib.hid (fun w0 (hb0 : Below w.heap.size w w0) => pfx2 w0 (some (a.add k)) m (c - k) (b.drop k) (hd.below hb0) hdl (by omega))
    generalize CodeMath.crlfAt (b.drop k) = bc at *
    have HTR := Lib.hid htr; have HBN := Lib.hid hbn
    have hkc : k ≤ c := by omega
    have hkci : (k : Int) ≤ c := by omega
    have hkni : (k : Int) ≤ (k : Int) + m := by omega
    have hnci : ((k + m : Nat) : Int) ≤ c := by omega
    have hnci2 : (k : Int) + m ≤ c := by omega
    clear htr hbn hr hk hn hd hdl hkn
    cases bc with
    | true =>
      have HBN2 : Hid (CodeMath.blankN b = k) := Lib.hid (by rw [HBN.out]; simp)
      clear HBN
      go_enter Tryd.func23, Tryd.ntmps23
      go_wp2_with fail
      refine HTR.out.mono ?_
      rintro e w1 ⟨rfl, hb⟩
      have HP := Lib.hid (HP2.out w1 hb)
      have HB := Lib.hid hb
      clear hb HTR
      go_wp2_with fail
      refine HP.out.mono ?_
      rintro e w2 ⟨rfl, hb2⟩
      have HBF := Lib.hid (below_then HB.out HB.out.size hb2)
      clear hb2 HP HP2
      go_wp2
      go_ret
      exact ⟨by rw [HBN2.out]; rfl, HBF.out⟩
    | false =>
      have HBN2 : Hid (CodeMath.blankN b = 0) := Lib.hid (by rw [HBN.out]; simp; omega)
      clear HBN
      go_enter Tryd.func23, Tryd.ntmps23
      go_wp2_with fail
      refine HTR.out.mono ?_
      rintro e w1 ⟨rfl, hb⟩
      have HP := Lib.hid (HP2.out w1 hb)
      have HB := Lib.hid hb
      clear hb HTR
      go_wp2_with fail
      refine HP.out.mono ?_
      rintro e w2 ⟨rfl, hb2⟩
      have HBF := Lib.hid (below_then HB.out HB.out.size hb2)
      clear hb2 HP HP2
      go_wp2
      go_ret
      exact ⟨by rw [HBN2.out]; rfl, HBF.out⟩
end Go.Proofs.YtgaccogekmaijaaDoor
