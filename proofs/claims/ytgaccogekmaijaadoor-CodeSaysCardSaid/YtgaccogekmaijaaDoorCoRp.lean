/- The reference's letters, plain. -/
import Derived.Test.YtgaccogekmaijaaDoorCoMath
set_option linter.unusedVariables false
set_option linter.unusedSimpArgs false
namespace CodeMath
theorem enc76 (b : List UInt8) : enc 76 b = [13, 10] ++ enc 0 b := by
  by_cases hb : b = []
  · subst hb; rw [enc_nil, enc_nil]; rfl
  · rw [enc_step 76 b hb, enc_step 0 b hb]
    simp
theorem l4 {a b c d a' b' c' d' : UInt8} (h1 : a = a') (h2 : b = b') (h3 : c = c') (h4 : d = d') : [a, b, c, d] = [a', b', c', d'] := by rw [h1, h2, h3, h4]
def rc (c : UInt8) : Nat := (valOf c).getD 64
def rst (q : List UInt8) (last : Bool) : Nat → Option (Nat × Nat)
  | 0 => some (0, 0)
  | j + 1 => match rst q last j with
    | none => none
    | some (v, p) => if q.getD j 0 = 61 ∧ last = true ∧ 2 ≤ j then some (v * 64, p + 1)
      else if rc (q.getD j 0) = 64 ∨ 0 < p then none else some (v * 64 + rc (q.getD j 0), p)
def rgrp (q : List UInt8) (last : Bool) : Option (List UInt8) := match rst q last 4 with
  | none => none
  | some (v, p) => if (p = 1 ∧ v % 256 ≠ 0) ∨ (p = 2 ∧ v % 65536 ≠ 0) then none else some ((b3 v).take (3 - p))
theorem valOf_some {c : UInt8} {n : Nat} (h : valOf c = some n) : n < 64 ∧ letter n = c := by
  unfold valOf at h
  have h1 := List.find?_some h
  have h2 := List.mem_of_find?_eq_some h
  rw [List.mem_range] at h2
  exact ⟨h2, by simpa using h1⟩
theorem valOf_none {c : UInt8} (h : valOf c = none) (n : Nat) (hn : n < 64) : letter n ≠ c := by
  unfold valOf at h
  rw [List.find?_eq_none] at h
  have := h n (List.mem_range.2 hn)
  simpa using this
theorem valOf_letter (n : Nat) : n < 64 → valOf (letter n) = some n := by
  revert n; decide
theorem letter_inj {a b : Nat} (ha : a < 64) (hb : b < 64) (h : letter a = letter b) : a = b := by
  have h1 := valOf_letter a ha
  rw [h, valOf_letter b hb] at h1
  injection h1 with h1
  exact h1.symm
theorem val61 : valOf 61 = none := by decide
theorem grp_sh (x : List UInt8) : ∃ a b, a < 64 ∧ b < 64 ∧ grp x = [letter a, letter b, if 2 ≤ x.length then letter (N3 x / 64 % 64) else 61, if 3 ≤ x.length then letter (N3 x % 64) else 61] := by
  have := N3_lt x
  exact ⟨_, _, by omega, by omega, rfl⟩
theorem grp_ne0 {p0 p1 p2 p3 : UInt8} (x : List UInt8) (h : valOf p0 = none) : grp x ≠ [p0, p1, p2, p3] := by
  obtain ⟨a, b, ha, hb, e⟩ := grp_sh x
  rw [e]
  intro h2
  injection h2 with h2
  exact valOf_none h a ha h2
theorem grp_ne1 {p0 p1 p2 p3 : UInt8} (x : List UInt8) (h : valOf p1 = none) : grp x ≠ [p0, p1, p2, p3] := by
  obtain ⟨a, b, ha, hb, e⟩ := grp_sh x
  rw [e]
  intro h2
  injection h2 with h2 h3
  injection h3 with h3
  exact valOf_none h b hb h3
theorem grp_ne2 {p0 p1 p2 p3 : UInt8} (x : List UInt8) (h : valOf p2 = none) (h61 : p2 ≠ 61) : grp x ≠ [p0, p1, p2, p3] := by
  obtain ⟨a, b, ha, hb, e⟩ := grp_sh x
  rw [e]
  intro h2
  injection h2 with h2 h3
  injection h3 with h3 h4
  injection h4 with h4
  split at h4
  · exact valOf_none h _ (by omega) h4
  · exact h61 h4.symm
theorem grp_ne3 {p0 p1 p2 p3 : UInt8} (x : List UInt8) (h : valOf p3 = none) (h61 : p3 ≠ 61) : grp x ≠ [p0, p1, p2, p3] := by
  obtain ⟨a, b, ha, hb, e⟩ := grp_sh x
  rw [e]
  intro h2
  injection h2 with h2 h3
  injection h3 with h3 h4
  injection h4 with h4 h5
  injection h5 with h5
  split at h5
  · exact valOf_none h _ (by omega) h5
  · exact h61 h5.symm
theorem grp_ne23 {p0 p1 p3 : UInt8} (x : List UInt8) (h61 : p3 ≠ 61) : grp x ≠ [p0, p1, 61, p3] := by
  obtain ⟨a, b, ha, hb, e⟩ := grp_sh x
  rw [e]
  intro h2
  injection h2 with h2 h3
  injection h3 with h3 h4
  injection h4 with h4 h5
  injection h5 with h5
  by_cases hx : 2 ≤ x.length
  · rw [if_pos hx] at h4
    exact letter_ne _ (by omega) h4
  · rw [if_neg (by omega)] at h5
    exact h61 h5.symm
theorem ofN (n : Nat) : (UInt8.ofNat n).toNat = n % 256 := UInt8.toNat_ofNat'
theorem rgrp_eq (p0 p1 p2 p3 : UInt8) (last : Bool) : rgrp [p0, p1, p2, p3] last = if (kOf [p0, p1, p2, p3] < 3 ∧ last = false) ∨ grp ((b3 (quad [p0, p1, p2, p3])).take (kOf [p0, p1, p2, p3])) ≠ [p0, p1, p2, p3] then none else some ((b3 (quad [p0, p1, p2, p3])).take (kOf [p0, p1, p2, p3])) := by
  have g0 : [p0, p1, p2, p3].getD 0 0 = p0 := rfl
  have g1 : [p0, p1, p2, p3].getD 1 0 = p1 := rfl
  have g2 : [p0, p1, p2, p3].getD 2 0 = p2 := rfl
  have g3 : [p0, p1, p2, p3].getD 3 0 = p3 := rfl
  cases h0 : valOf p0 with
  | none =>
    rw [if_pos (.inr (grp_ne0 _ h0))]
    have e : rst [p0, p1, p2, p3] last 4 = none := by
      simp only [rst, g0, g1, g2, g3, rc, h0]
      simp
    simp only [rgrp, e]
  | some a =>
    obtain ⟨ha, e0⟩ := valOf_some h0
    cases h1 : valOf p1 with
    | none =>
      rw [if_pos (.inr (grp_ne1 _ h1))]
      have e : rst [p0, p1, p2, p3] last 4 = none := by
        simp only [rst, g0, g1, g2, g3, rc, h0, h1]
        simp
        have : a ≠ 64 := by omega
        simp [this]
      simp only [rgrp, e]
    | some b =>
      obtain ⟨hb, e1⟩ := valOf_some h1
      have a64 : a ≠ 64 := by omega
      have b64 : b ≠ 64 := by omega
      have s2 : rst [p0, p1, p2, p3] last 2 = some (a * 64 + b, 0) := by
        simp only [rst, g0, g1, rc, h0, h1]
        simp [a64, b64]
      have s3 : rst [p0, p1, p2, p3] last 3 = if p2 = 61 ∧ last = true then some ((a * 64 + b) * 64, 1) else if rc p2 = 64 then none else some ((a * 64 + b) * 64 + rc p2, 0) := by
        show (match rst [p0, p1, p2, p3] last 2 with | none => none | some (v, p) => _) = _
        rw [s2]
        simp [g2]
      cases h2 : valOf p2 with
      | none =>
        by_cases h61 : p2 = 61
        · subst h61
          by_cases h62 : p3 = 61
          · subst h62
            have n0 : p0 ≠ 61 := fun e => by rw [e, val61] at h0; cases h0
            have n1 : p1 ≠ 61 := fun e => by rw [e, val61] at h1; cases h1
            have hk : kOf [p0, p1, 61, 61] = 1 := by simp [kOf, nPad, n0, n1]
            have hq : quad [p0, p1, 61, 61] = (a * 64 + b) * 4096 := by
              rw [quad4, val_pad]; simp [val0, h0, h1]; omega
            rw [hk, hq]
            have hN : grp ((b3 ((a * 64 + b) * 4096)).take 1) = [letter a, letter (b / 16 * 16), 61, 61] := by
              show grp [UInt8.ofNat ((a * 64 + b) * 4096 / 65536)] = _
              rw [grp1, ofN]
              refine l4 (congrArg letter ?_) (congrArg letter ?_) rfl rfl <;> omega
            rw [hN]
            cases last with
            | false =>
              rw [if_pos (.inl ⟨by omega, rfl⟩)]
              have e : rst [p0, p1, 61, 61] false 4 = none := by
                show (match rst [p0, p1, 61, 61] false 3 with | none => none | some (v, p) => _) = _
                rw [s3]
                simp [rc, val61]
              simp only [rgrp, e]
            | true =>
              have e : rst [p0, p1, 61, 61] true 4 = some ((a * 64 + b) * 4096, 2) := by
                show (match rst [p0, p1, 61, 61] true 3 with | none => none | some (v, p) => _) = _
                rw [s3]
                simp [g3]; omega
              simp only [rgrp, e]
              by_cases hz : b % 16 = 0
              · rw [if_neg (by omega), if_neg (by
                  rintro (⟨_, h⟩ | h)
                  · cases h
                  · apply h; rw [e0, show b / 16 * 16 = b by omega, e1])]
              · rw [if_pos (by right; exact ⟨by trivial, by omega⟩), if_pos (by
                  right
                  intro h
                  injection h with _ h
                  injection h with h
                  rw [← e1] at h
                  have := letter_inj (by omega) hb h
                  omega)]
          · rw [if_pos (.inr (grp_ne23 _ h62))]
            have e : rst [p0, p1, 61, p3] last 4 = none := by
              show (match rst [p0, p1, 61, p3] last 3 with | none => none | some (v, p) => _) = _
              rw [s3]
              cases last <;> simp [rc, val61, g3, h62]
            simp only [rgrp, e]
        · rw [if_pos (.inr (grp_ne2 _ h2 h61))]
          have e : rst [p0, p1, p2, p3] last 4 = none := by
            show (match rst [p0, p1, p2, p3] last 3 with | none => none | some (v, p) => _) = _
            rw [s3]
            simp [h61, rc, h2]
          simp only [rgrp, e]
      | some c =>
        obtain ⟨hc, e2⟩ := valOf_some h2
        have n2 : p2 ≠ 61 := fun e => by rw [e, val61] at h2; cases h2
        have c64 : c ≠ 64 := by omega
        have s3' : rst [p0, p1, p2, p3] last 3 = some ((a * 64 + b) * 64 + c, 0) := by
          rw [s3]; simp [n2, rc, h2, c64]
        have n0 : p0 ≠ 61 := fun e => by rw [e, val61] at h0; cases h0
        have n1 : p1 ≠ 61 := fun e => by rw [e, val61] at h1; cases h1
        cases h3 : valOf p3 with
        | none =>
          by_cases h62 : p3 = 61
          · subst h62
            have hk : kOf [p0, p1, p2, 61] = 2 := by simp [kOf, nPad, n0, n1, n2]
            have hq : quad [p0, p1, p2, 61] = ((a * 64 + b) * 64 + c) * 64 := by
              rw [quad4, val_pad]; simp [val0, h0, h1, h2]
            rw [hk, hq]
            have hN : grp ((b3 (((a * 64 + b) * 64 + c) * 64)).take 2) = [letter a, letter b, letter (c / 4 * 4), 61] := by
              show grp [UInt8.ofNat (((a * 64 + b) * 64 + c) * 64 / 65536), UInt8.ofNat (((a * 64 + b) * 64 + c) * 64 / 256)] = _
              rw [grp2, ofN, ofN]
              refine l4 (congrArg letter ?_) (congrArg letter ?_) (congrArg letter ?_) rfl <;> omega
            rw [hN]
            cases last with
            | false =>
              rw [if_pos (.inl ⟨by omega, rfl⟩)]
              have e : rst [p0, p1, p2, 61] false 4 = none := by
                show (match rst [p0, p1, p2, 61] false 3 with | none => none | some (v, p) => _) = _
                rw [s3']
                simp [rc, val61, g3]
              simp only [rgrp, e]
            | true =>
              have e : rst [p0, p1, p2, 61] true 4 = some (((a * 64 + b) * 64 + c) * 64, 1) := by
                show (match rst [p0, p1, p2, 61] true 3 with | none => none | some (v, p) => _) = _
                rw [s3']
                simp [g3]
              simp only [rgrp, e]
              by_cases hz : c % 4 = 0
              · rw [if_neg (by omega), if_neg (by
                  rintro (⟨_, h⟩ | h)
                  · cases h
                  · apply h; rw [e0, e1, show c / 4 * 4 = c by omega, e2])]
              · rw [if_pos (by left; exact ⟨by trivial, by omega⟩), if_pos (by
                  right
                  intro h
                  injection h with _ h
                  injection h with _ h
                  injection h with h
                  rw [← e2] at h
                  have := letter_inj (by omega) hc h
                  omega)]
          · rw [if_pos (.inr (grp_ne3 _ h3 h62))]
            have e : rst [p0, p1, p2, p3] last 4 = none := by
              show (match rst [p0, p1, p2, p3] last 3 with | none => none | some (v, p) => _) = _
              rw [s3']
              simp [g3, h62, rc, h3]
            simp only [rgrp, e]
        | some d =>
          obtain ⟨hd, e3⟩ := valOf_some h3
          have n3 : p3 ≠ 61 := fun e => by rw [e, val61] at h3; cases h3
          have d64 : d ≠ 64 := by omega
          have hk : kOf [p0, p1, p2, p3] = 3 := by simp [kOf, nPad, n0, n1, n2, n3]
          have hq : quad [p0, p1, p2, p3] = ((a * 64 + b) * 64 + c) * 64 + d := by
            rw [quad4]; simp [val0, h0, h1, h2, h3]
          have e : rst [p0, p1, p2, p3] last 4 = some (((a * 64 + b) * 64 + c) * 64 + d, 0) := by
            show (match rst [p0, p1, p2, p3] last 3 with | none => none | some (v, p) => _) = _
            rw [s3']
            simp [g3, n3, rc, h3, d64]
          rw [hk, hq]
          have hN : grp ((b3 (((a * 64 + b) * 64 + c) * 64 + d)).take 3) = [p0, p1, p2, p3] := by
            show grp [UInt8.ofNat ((((a * 64 + b) * 64 + c) * 64 + d) / 65536), UInt8.ofNat ((((a * 64 + b) * 64 + c) * 64 + d) / 256), UInt8.ofNat (((a * 64 + b) * 64 + c) * 64 + d)] = _
            rw [grp3, ofN, ofN, ofN, ← e0, ← e1, ← e2, ← e3]
            refine l4 (congrArg letter ?_) (congrArg letter ?_) (congrArg letter ?_) (congrArg letter ?_) <;> omega
          rw [hN]
          simp only [rgrp, e]
          rw [if_neg (by omega), if_neg (by
            rintro (⟨h, _⟩ | h)
            · omega
            · exact h rfl)]
end CodeMath
