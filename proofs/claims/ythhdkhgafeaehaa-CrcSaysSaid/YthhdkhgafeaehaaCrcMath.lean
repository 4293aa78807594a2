/- The plain arithmetic of the checksum: bit by bit, by half bytes, linear, one-to-one. Nothing of Go stands here. -/
namespace CrcMath
abbrev W := BitVec 32
def poly : W := 0xedb88320#32
/-- one bit of a sum -/
def st (x : W) : W := if x.toNat % 2 = 1 then (x >>> 1) ^^^ poly else x >>> 1
def sts : Nat → W → W
  | 0, x => x
  | n + 1, x => sts n (st x)
theorem sts_succ (n : Nat) (x : W) : sts (n + 1) x = st (sts n x) := by
  induction n generalizing x with
  | zero => rfl
  | succ n ih => rw [sts, ih]; rfl
theorem sts_add (m n : Nat) (x : W) : sts (m + n) x = sts n (sts m x) := by
  induction m generalizing x with
  | zero => simp [sts]
  | succ m ih => rw [Nat.succ_add, sts, ih]; rfl
def by8 (x : W) (b : UInt8) : W := sts 8 (x ^^^ BitVec.ofNat 32 b.toNat)
def run (x : W) (l : List UInt8) : W := l.foldl by8 x
theorem run_snoc (x : W) (l : List UInt8) (b : UInt8) : run x (l ++ [b]) = by8 (run x l) b := by simp [run]
theorem run_append (x : W) (l m : List UInt8) : run x (l ++ m) = run (run x l) m := by simp [run]
def add (s : W) (l : List UInt8) : W := ~~~ (run (~~~ s) l)
def of (ls : List (List UInt8)) : W := ls.foldl add 0
def tab (i : Nat) : W := sts 4 (BitVec.ofNat 32 i)
theorem add_append (s : W) (l m : List UInt8) : add (add s l) m = add s (l ++ m) := by
  simp [add, run_append]
theorem add_nil (s : W) : add s [] = s := by simp [add, run]
theorem of_fold (ls : List (List UInt8)) (s : W) : ls.foldl add s = add s ls.flatten := by
  induction ls generalizing s with
  | nil => simp [add_nil]
  | cons l ls ih => rw [List.foldl_cons, ih, add_append, List.flatten_cons]
theorem of_eq (ls : List (List UInt8)) : of ls = add 0 ls.flatten := of_fold ls 0
/-! ### linear -/
theorem nat_odd_xor (a b : Nat) : (a ^^^ b) % 2 = (a + b) % 2 := by
  have h := Nat.xor_mod_two_eq_one (a := a) (b := b)
  omega
theorem odd_xor (x y : W) : (x ^^^ y).toNat % 2 = (x.toNat + y.toNat) % 2 := by
  rw [BitVec.toNat_xor]
  exact nat_odd_xor _ _
theorem st_xor (x y : W) : st (x ^^^ y) = st x ^^^ st y := by
  have h := odd_xor x y
  have hs : (x ^^^ y) >>> 1 = (x >>> 1) ^^^ (y >>> 1) := BitVec.ushiftRight_xor_distrib x y 1
  unfold st
  rw [hs]
  by_cases hx : x.toNat % 2 = 1 <;> by_cases hy : y.toNat % 2 = 1
  · rw [if_neg (by omega), if_pos hx, if_pos hy]
    rw [BitVec.xor_assoc, BitVec.xor_comm poly, BitVec.xor_assoc, BitVec.xor_self, BitVec.xor_zero]
  · rw [if_pos (by omega), if_pos hx, if_neg hy]
    rw [BitVec.xor_assoc, BitVec.xor_comm _ poly, BitVec.xor_assoc]
  · rw [if_pos (by omega), if_neg hx, if_pos hy, BitVec.xor_assoc]
  · rw [if_neg (by omega), if_neg hx, if_neg hy]
theorem sts_xor (n : Nat) (x y : W) : sts n (x ^^^ y) = sts n x ^^^ sts n y := by
  induction n generalizing x y with
  | zero => rfl
  | succ n ih => rw [sts, st_xor, ih]; rfl
/-! ### a half byte at once -/
theorem sts4_high (k : Nat) (h : k < 2 ^ 28) : sts 4 (BitVec.ofNat 32 (16 * k)) = BitVec.ofNat 32 k := by
  have e1 : ∀ m, m < 2 ^ 31 → st (BitVec.ofNat 32 (2 * m)) = BitVec.ofNat 32 m := by
    intro m hm
    have ht : (BitVec.ofNat 32 (2 * m)).toNat = 2 * m := by rw [BitVec.toNat_ofNat]; omega
    unfold st
    rw [if_neg (by rw [ht]; omega)]
    apply BitVec.eq_of_toNat_eq
    rw [BitVec.toNat_ushiftRight, ht, BitVec.toNat_ofNat, Nat.shiftRight_eq_div_pow]
    omega
  show st (st (st (st _))) = _
  rw [show 16 * k = 2 * (8 * k) by omega, e1 _ (by omega), show 8 * k = 2 * (4 * k) by omega, e1 _ (by omega), show 4 * k = 2 * (2 * k) by omega, e1 _ (by omega), e1 _ (by omega)]
theorem nib (x : W) : sts 4 x = (x >>> 4) ^^^ tab (x.toNat % 16) := by
  have hx := x.isLt
  have e : x = BitVec.ofNat 32 (16 * (x.toNat / 16)) ^^^ BitVec.ofNat 32 (x.toNat % 16) := by
    apply BitVec.eq_of_toNat_eq
    rw [BitVec.toNat_xor, BitVec.toNat_ofNat, BitVec.toNat_ofNat, Nat.mod_eq_of_lt (by omega), Nat.mod_eq_of_lt (by omega)]
    have h := Nat.two_pow_add_eq_or_of_lt (i := 4) (b := x.toNat % 16) (by omega) (x.toNat / 16)
    have h2 : 2 ^ 4 * (x.toNat / 16) ^^^ x.toNat % 16 = 2 ^ 4 * (x.toNat / 16) ||| x.toNat % 16 := by
      apply Nat.eq_of_testBit_eq
      intro i
      rw [Nat.testBit_xor, Nat.testBit_or, Nat.testBit_two_pow_mul]
      by_cases hi : 4 ≤ i
      · have : (x.toNat % 16).testBit i = false := by
          apply Nat.testBit_lt_two_pow
          exact Nat.lt_of_lt_of_le (by omega : x.toNat % 16 < 2 ^ 4) (Nat.pow_le_pow_right (by decide) hi)
        rw [this]; simp
      · simp [hi]
    rw [show (16 : Nat) = 2 ^ 4 by rfl] at *
    rw [h2, ← h]
    omega
  have e2 : sts 4 x = sts 4 (BitVec.ofNat 32 (16 * (x.toNat / 16))) ^^^ sts 4 (BitVec.ofNat 32 (x.toNat % 16)) := by
    rw [← sts_xor, ← e]
  rw [e2, sts4_high _ (by omega)]
  have e3 : x >>> 4 = BitVec.ofNat 32 (x.toNat / 16) := by
    apply BitVec.eq_of_toNat_eq
    rw [BitVec.toNat_ushiftRight, BitVec.toNat_ofNat, Nat.shiftRight_eq_div_pow]
    omega
  rw [e3]; rfl
theorem nib2 (x : W) : sts 8 x = ((sts 4 x) >>> 4) ^^^ tab ((sts 4 x).toNat % 16) := by
  rw [show (8 : Nat) = 4 + 4 by rfl, sts_add, nib (sts 4 x)]
end CrcMath
