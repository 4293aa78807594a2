/- The reference reads letters, plain, and words for the walk. -/
import Derived.Test.YtgaccogekmaijaaDoorCoRb
import Derived.Test.YtgaccogekmaijaaDoorCoDec
namespace CodeMath
theorem decS_rgrp (s : List UInt8) (h4 : 4 ≤ s.length) : decS s = match rgrp (s.take 4) (decide (s.length = 4)) with | none => none | some x => (decS (s.drop 4)).map (x ++ ·) := by
  have hne : s ≠ [] := fun e => by rw [e] at h4; simp at h4
  obtain ⟨p0, p1, p2, p3, hq⟩ : ∃ p0 p1 p2 p3, s.take 4 = [p0, p1, p2, p3] := by
    match s, h4 with
    | p0 :: p1 :: p2 :: p3 :: t, _ => exact ⟨p0, p1, p2, p3, rfl⟩
  rw [decS_step s hne, hq, rgrp_eq]
  have e : (4 < s.length) = (decide (s.length = 4) = false) := by rw [eq_iff_iff, decide_eq_false_iff_not]; omega
  simp only [e]
  split <;> rfl
/-- the number found among the first z letters -/
def cF (y : UInt8) : Nat → Nat
  | 0 => 64
  | z + 1 => if letter z = y then z else cF y z
theorem cF_rc (y : UInt8) : cF y 64 = rc y := by
  have key : ∀ n : Fin 256, cF (UInt8.ofNat n.val) 64 = rc (UInt8.ofNat n.val) := by decide +kernel
  have h := key ⟨y.toNat, y.toNat_lt⟩
  rw [show UInt8.ofNat (⟨y.toNat, y.toNat_lt⟩ : Fin 256).val = y from by simp] at h
  exact h
theorem rc_le (y : UInt8) : rc y ≤ 64 := by
  unfold rc
  cases h : valOf y with
  | none => simp
  | some n => have := (valOf_some h).1; simp; omega
theorem rc_61 : rc 61 = 64 := by decide
theorem rst_step (q : List UInt8) (last : Bool) (j v p : Nat) (h : rst q last j = some (v, p)) : rst q last (j + 1) = if q.getD j 0 = 61 ∧ last = true ∧ 2 ≤ j then some (v * 64, p + 1)
      else if rc (q.getD j 0) = 64 ∨ 0 < p then none else some (v * 64 + rc (q.getD j 0), p) := by
  simp only [rst, h]
theorem rst_none (q : List UInt8) (last : Bool) (j : Nat) (h : rst q last j = none) : ∀ k, j ≤ k → rst q last k = none := by
  intro k hk
  induction k with
  | zero => rw [show j = 0 by omega] at h; exact h
  | succ k ih =>
    by_cases e : j = k + 1
    · rw [← e]; exact h
    · simp only [rst, ih (by omega)]
theorem rst_bnd (q : List UInt8) (last : Bool) : ∀ j v p, rst q last j = some (v, p) → v < 64 ^ j ∧ p ≤ j - 2 := by
  intro j
  induction j with
  | zero => intro v p h; simp [rst] at h; obtain ⟨rfl, rfl⟩ := h; simp
  | succ j ih =>
    intro v p h
    cases hr : rst q last j with
    | none => rw [rst_none q last j hr (j + 1) (by omega)] at h; cases h
    | some vp =>
      obtain ⟨v0, p0⟩ := vp
      obtain ⟨i1, i2⟩ := ih v0 p0 hr
      rw [rst_step q last j v0 p0 hr] at h
      split at h
      · rename_i hc
        injection h with h
        injection h with e1 e2
        subst e1; subst e2
        refine ⟨by rw [Nat.pow_succ]; omega, by omega⟩
      · split at h
        · cases h
        · rename_i h64
          injection h with h
          injection h with e1 e2
          subst e1; subst e2
          have := rc_le (q.getD j 0)
          refine ⟨by rw [Nat.pow_succ]; omega, by omega⟩
end CodeMath
namespace Go.Proofs.YtgaccogekmaijaaDoor
open Go.RowKit Go.Maps
set_option linter.unusedVariables false
set_option linter.unusedSimpArgs false
theorem and255u (n : Int) : bits .and .u32 n 255 = n % 256 := by
  have h7 : (BitVec.ofInt 32 255).toNat = 2 ^ 8 - 1 := by decide
  have key : (BitVec.ofInt 32 n &&& BitVec.ofInt 32 255).toNat = (n % ((2 ^ 32 : Nat) : Int)).toNat % 2 ^ 8 := by
    rw [BitVec.toNat_and, BitVec.toNat_ofInt, h7, Nat.and_two_pow_sub_one_eq_mod]
  show IntKind.u32.wrap ((BitVec.ofInt 32 n &&& BitVec.ofInt 32 255).toNat : Nat) = n % 256
  rw [key, IntKind.wrap_u32]
  omega
theorem and65535u (n : Int) : bits .and .u32 n 65535 = n % 65536 := by
  have h7 : (BitVec.ofInt 32 65535).toNat = 2 ^ 16 - 1 := by decide
  have key : (BitVec.ofInt 32 n &&& BitVec.ofInt 32 65535).toNat = (n % ((2 ^ 32 : Nat) : Int)).toNat % 2 ^ 16 := by
    rw [BitVec.toNat_and, BitVec.toNat_ofInt, h7, Nat.and_two_pow_sub_one_eq_mod]
  show IntKind.u32.wrap ((BitVec.ofInt 32 n &&& BitVec.ofInt 32 65535).toNat : Nat) = n % 65536
  rw [key, IntKind.wrap_u32]
  omega
theorem or_sixu (n m : Nat) (h : n < 262144) (hm : m < 64) : bits .or .u32 ((n : Int) * 64) (m : Int) = ((n * 64 + m : Nat) : Int) := by
  rw [bits_join .u32 32 (by decide) (fun n h0 h1 => by rw [IntKind.wrap_u32]; omega) 6 _ _ (by omega) (by omega) (by omega) (by omega) (by omega) (by omega)]
  simp
theorem u8_of (n : Nat) : IntKind.u8.wrap (n : Int) = ((UInt8.ofNat n).toNat : Int) := by
  rw [IntKind.wrap_u8, UInt8.toNat_ofNat']; omega
end Go.Proofs.YtgaccogekmaijaaDoor
