/- Library functions over slices of numbers: Index, Contains. -/
import Derived.Test.YtbpecfbliglboaaDev2
namespace Go.Proofs.Ytbpecfbliglboaa
open Go.RowKit
set_option linter.unusedVariables false
set_option linter.unusedSimpArgs false
/-- where x stands first, from number k on; -1 where it stands nowhere -/
def idxFrom (x : Int) : Nat → List Int → Int
  | _, [] => -1
  | k, y :: ys => if x = y then (k : Int) else idxFrom x (k + 1) ys
theorem idxFrom_nn (x : Int) (k : Nat) (ys : List Int) : 0 ≤ idxFrom x k ys ↔ x ∈ ys := by
  induction ys generalizing k with
  | nil => simp [idxFrom]
  | cons y ys ih =>
    rw [idxFrom]
    split
    · rename_i h; simp [h]
    · rename_i h; rw [ih]; simp [h]
theorem idxFrom_lb (x : Int) (k : Nat) (ys : List Int) : -1 ≤ idxFrom x k ys := by
  induction ys generalizing k with
  | nil => simp [idxFrom]
  | cons y ys ih =>
    rw [idxFrom]
    split
    · omega
    · exact ih _
theorem index_any (w : World) (v : Value) (ks : List Int) (h : IntR w v ks) (hn : ks.length ≤ 1000000000) (x : Int) :
    Calls Try.prog 60 #[v, .int .i64 x] w fun e w' => e = .returned (.int .i64 (idxFrom x 0 ks)) ∧ w' = w := by
  obtain ⟨A, c, rfl, hc, hr⟩ := h
  obtain ⟨n, hnn⟩ : ∃ n, n = ks.length := ⟨_, rfl⟩
  rw [← hnn] at hc hn ⊢
  have HN := Lib.hid hnn
  clear hnn
  obtain ⟨R, hR⟩ : ∃ R, R = idxFrom x 0 ks := ⟨_, rfl⟩
  rw [← hR]
  have HR0 : Hid (idxFrom x 0 (ks.drop 0) = R) := Lib.hid (by rw [List.drop_zero, hR])
  clear hR
  go_enter Try.func60, Try.ntmps60
  go_wp2
  go_loopw [8] (fun i wr => ∃ k : Nat, k ≤ n ∧ i = .int .i64 k ∧ wr = w ∧ idxFrom x k (ks.drop k) = R) (fun i _ => n - (intOf i).toNat)
  case atStart => exact ⟨0, by omega, rfl, rfl, HR0.out⟩
  case round =>
    obtain ⟨k, hk, rfl, rfl, hrel⟩ := hrel
    by_cases hlt : k < n
    · obtain ⟨a, rfl, hcell⟩ := hr (by rw [← HN.out]; omega)
      have hck := hcell k (by rw [← HN.out]; exact hlt)
      have hd : ks.drop k = ks[k]'(by rw [← HN.out]; exact hlt) :: ks.drop (k + 1) := List.drop_eq_getElem_cons (by rw [← HN.out]; exact hlt)
      rw [hd, idxFrom] at hrel
      generalize ks[k]'(by rw [← HN.out]; exact hlt) = y at hck hrel
      by_cases he : x = y
      · rw [if_pos he] at hrel
        have hb : (x == y) = true := by rw [beq_iff_eq]; exact he
        have hb2 : decide (x = y) = true := decide_eq_true he
        have HRel := Lib.hid hrel
        clear hrel hcell hd he
        go_wp2
        go_ret
        exact ⟨ret_int HRel.out, rfl⟩
      · rw [if_neg he] at hrel
        have hb : (x == y) = false := by rw [beq_eq_false_iff_ne]; exact he
        have HRel := Lib.hid hrel
        clear hrel hcell hd
        go_wp2
        go_roundw
        case rel => exact ⟨k + 1, by omega, by go_num, trivial, HRel.out⟩
        case measure => simp [intOf]; omega
    · obtain rfl : k = n := by omega
      rw [show ks.drop k = [] from List.drop_eq_nil_of_le (by rw [← HN.out]; exact Nat.le_refl _), idxFrom] at hrel
      have HRel := Lib.hid hrel
      clear hrel hr
      go_wp2
      go_ret
      exact ⟨ret_int HRel.out, rfl⟩
theorem contains_any (w : World) (v : Value) (ks : List Int) (h : IntR w v ks) (hn : ks.length ≤ 1000000000) (x : Int) :
    Calls Try.prog 47 #[v, .int .i64 x] w fun e w' => e = .returned (.bool (ks.contains x)) ∧ w' = w := by
  have hi := index_any w v ks h hn x
  have hc : decide (0 ≤ idxFrom x 0 ks) = ks.contains x := by
    rw [Bool.eq_iff_iff]
    simp [idxFrom_nn]
  clear h
  obtain ⟨R, hR⟩ : ∃ R, R = idxFrom x 0 ks := ⟨_, rfl⟩
  rw [← hR] at hi hc
  have HC := Lib.hid hc
  clear hR hc
  go_enter Try.func47, Try.ntmps47
  go_wp2_with fail
  refine hi.mono ?_
  rintro e w1 ⟨rfl, rfl⟩
  go_wp2
  go_ret
  exact ⟨by rw [← HC.out]; rfl, rfl⟩
end Go.Proofs.Ytbpecfbliglboaa
