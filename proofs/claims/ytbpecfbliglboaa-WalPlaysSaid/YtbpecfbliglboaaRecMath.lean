/- The plain reckoning of records: numbers in bytes, a record's bytes, what bytes read as. Nothing of Go stands here. -/
import Derived.Test.YtbpecfbliglboaaCrcMath
namespace RecMath
set_option linter.unusedVariables false
set_option linter.unusedSimpArgs false
/-- the first k bytes of a number in n bytes, the highest first -/
def bePart (n x k : Nat) : List UInt8 := (List.range k).map fun j => UInt8.ofNat (x / 256 ^ (n - 1 - j))
def be (n x : Nat) : List UInt8 := bePart n x n
theorem bePart_length (n x k : Nat) : (bePart n x k).length = k := by simp [bePart]
theorem be_length (n x : Nat) : (be n x).length = n := bePart_length n x n
theorem bePart_succ (n x k : Nat) : bePart n x (k + 1) = bePart n x k ++ [UInt8.ofNat (x / 256 ^ (n - 1 - k))] := by simp [bePart, List.range_succ]
def rd (l : List UInt8) : Nat := l.foldl (fun n c => n * 256 + c.toNat) 0
theorem rd_snoc (l : List UInt8) (c : UInt8) : rd (l ++ [c]) = rd l * 256 + c.toNat := by simp [rd]
theorem snocInd {P : List UInt8 → Prop} (h0 : P []) (hs : ∀ l a, P l → P (l ++ [a])) (l : List UInt8) : P l := by
  have h : ∀ m : List UInt8, P m.reverse := by
    intro m
    induction m with
    | nil => exact h0
    | cons a t ih => rw [List.reverse_cons]; exact hs _ _ ih
  have := h l.reverse
  rwa [List.reverse_reverse] at this
theorem rd_lt (l : List UInt8) : rd l < 256 ^ l.length := by
  induction l using snocInd with
  | h0 => simp [rd]
  | hs l c ih =>
    rw [rd_snoc, List.length_append, List.length_singleton, Nat.pow_succ]
    have := c.toNat_lt
    omega
theorem rd_inj (l m : List UInt8) (h : l.length = m.length) (he : rd l = rd m) : l = m := by
  induction l using snocInd generalizing m with
  | h0 => exact (List.eq_nil_of_length_eq_zero (by simpa using h.symm)).symm
  | hs l c ih =>
    rcases List.eq_nil_or_concat m with rfl | ⟨m', d, rfl⟩
    · simp at h
    · rw [List.concat_eq_append] at h he ⊢
      rw [rd_snoc, rd_snoc] at he
      have h1 := c.toNat_lt
      have h2 := d.toNat_lt
      have h3 : rd l = rd m' := by omega
      have h4 : c = d := UInt8.toNat_inj.1 (by omega)
      rw [ih m' (by simpa using h) h3, h4]
theorem rd_bePart (n x k : Nat) (hk : k ≤ n) (hx : x < 256 ^ n) : rd (bePart n x k) = x / 256 ^ (n - k) := by
  induction k with
  | zero => simp [bePart, rd]; exact (Nat.div_eq_of_lt hx).symm
  | succ k ih =>
    rw [bePart_succ, rd_snoc, ih (by omega)]
    have h1 : (UInt8.ofNat (x / 256 ^ (n - 1 - k))).toNat = x / 256 ^ (n - 1 - k) % 256 := rfl
    rw [h1, show n - k = (n - 1 - k) + 1 by omega, Nat.pow_succ, ← Nat.div_div_eq_div_mul, show n - (k + 1) = n - 1 - k by omega]
    omega
theorem rd_be (n x : Nat) (hx : x < 256 ^ n) : rd (be n x) = x := by
  unfold be
  rw [rd_bePart n x n (Nat.le_refl _) hx]; simp
/-- a record's bytes -/
def headB (num : Nat) (body : List UInt8) : List UInt8 := be 4 body.length ++ be 8 num ++ body
def recB (num : Nat) (body : List UInt8) : List UInt8 := headB num body ++ be 4 (CrcMath.add 0 (headB num body)).toNat
theorem headB_length (num : Nat) (body : List UInt8) : (headB num body).length = 12 + body.length := by simp [headB, be_length]; omega
theorem recB_length (num : Nat) (body : List UInt8) : (recB num body).length = 16 + body.length := by simp [recB, headB_length, be_length]; omega
/-- a uint64 as an int64 -/
def i64 (v : Nat) : Int := if v < 9223372036854775808 then (v : Int) else (v : Int) - 18446744073709551616
/-- a record that was read: its number, its body, how many bytes, the error -/
structure Got where
  num : Int
  body : List UInt8
  n : Nat
  err : Nat
def get (b : List UInt8) : Got :=
  if b.length < 4 then ⟨0, [], 0, 8⟩
  else if 200000 < rd (b.take 4) then ⟨0, [], 0, 3⟩
  else if b.length < 16 + rd (b.take 4) then ⟨0, [], 0, 8⟩
  else if i64 (rd ((b.drop 4).take 8)) < 1 ∨ rd ((b.drop (12 + rd (b.take 4))).take 4) ≠ (CrcMath.add 0 (b.take (12 + rd (b.take 4)))).toNat then ⟨0, [], 0, 3⟩
  else ⟨i64 (rd ((b.drop 4).take 8)), (b.drop 12).take (rd (b.take 4)), 16 + rd (b.take 4), 0⟩
theorem get_ok (b : List UInt8) (h : (get b).err = 0) : 16 ≤ (get b).n ∧ (get b).n ≤ b.length ∧ 1 ≤ (get b).num ∧ (get b).num < 9223372036854775808 ∧ (get b).n = 16 + (get b).body.length := by
  unfold get at *
  split at h
  · cases h
  · rename_i h1
    split at h
    · cases h
    · rename_i h2
      split at h
      · cases h
      · rename_i h3
        split at h
        · cases h
        · rename_i h4
          rw [if_neg h1, if_neg h2, if_neg h3, if_neg h4]
          have h5 : ¬ i64 (rd ((b.drop 4).take 8)) < 1 := fun h => h4 (.inl h)
          refine ⟨by simp, by show 16 + rd (b.take 4) ≤ b.length; omega, by show 1 ≤ i64 _; omega, ?_, ?_⟩
          · show i64 _ < _
            unfold i64 at h5 ⊢
            have := rd_lt ((b.drop 4).take 8)
            have h6 : ((b.drop 4).take 8).length = 8 := by rw [List.length_take, List.length_drop]; omega
            rw [h6] at this
            have h7 : (256 : Nat) ^ 8 = 18446744073709551616 := by decide
            split <;> split at h5 <;> omega
          · show 16 + _ = 16 + (List.take _ _).length
            rw [List.length_take, List.length_drop]; omega
/-- the records that follow one another, and how far they go -/
def scan : Nat → List UInt8 → Int → List (Int × List UInt8) × Nat
  | 0, _, _ => ([], 0)
  | f + 1, b, first => if (get b).err ≠ 0 ∨ (get b).num ≠ first then ([], 0) else
      (((get b).num, (get b).body) :: (scan f (b.drop (get b).n) (first + 1)).1, (get b).n + (scan f (b.drop (get b).n) (first + 1)).2)
theorem get_nil_err (b : List UInt8) (h : b.length < 4) : (get b).err ≠ 0 := by unfold get; rw [if_pos h]; decide
theorem scan_fuel (f g : Nat) (b : List UInt8) (first : Int) (hf : b.length ≤ f) (hg : b.length ≤ g) : scan f b first = scan g b first := by
  induction f generalizing g b first with
  | zero =>
    cases g with
    | zero => rfl
    | succ g => rw [scan, scan, if_pos (.inl (get_nil_err b (by omega)))]
  | succ f ih =>
    cases g with
    | zero => rw [scan, scan, if_pos (.inl (get_nil_err b (by omega)))]
    | succ g =>
      rw [scan, scan]
      split
      · rfl
      · rename_i h
        have h1 : (get b).err = 0 := by
          rcases Nat.decEq (get b).err 0 with h2 | h2
          · exact absurd (.inl h2) h
          · exact h2
        obtain ⟨h2, h3, _⟩ := get_ok b h1
        rw [ih g (b.drop (get b).n) (first + 1) (by rw [List.length_drop]; omega) (by rw [List.length_drop]; omega)]
theorem scan_stop (f : Nat) (b : List UInt8) (first : Int) (h : (get b).err ≠ 0 ∨ (get b).num ≠ first) : scan f b first = ([], 0) := by
  cases f with
  | zero => rfl
  | succ f => rw [scan, if_pos h]
theorem scan_go (f : Nat) (b : List UInt8) (first : Int) (h : ¬ ((get b).err ≠ 0 ∨ (get b).num ≠ first)) (hf : b.length ≤ f) :
    scan f b first = (((get b).num, (get b).body) :: (scan f (b.drop (get b).n) (first + 1)).1, (get b).n + (scan f (b.drop (get b).n) (first + 1)).2) := by
  have h1 : (get b).err = 0 := by
    rcases Nat.decEq (get b).err 0 with h2 | h2
    · exact absurd (.inl h2) h
    · exact h2
  obtain ⟨h2, h3, _⟩ := get_ok b h1
  cases f with
  | zero => omega
  | succ f =>
    rw [scan, if_neg h, scan_fuel f (f + 1) (b.drop (get b).n) (first + 1) (by rw [List.length_drop]; omega) (by rw [List.length_drop]; omega)]
def scanAll (b : List UInt8) (first : Int) : List (Int × List UInt8) × Nat := scan b.length b first
end RecMath
