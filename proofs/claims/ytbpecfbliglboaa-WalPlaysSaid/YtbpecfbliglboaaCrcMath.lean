/- The plain arithmetic of the checksum: bit by bit, by half bytes, linear, one-to-one. Nothing of Go stands here. -/
namespace CrcMath
set_option linter.unusedVariables false
set_option linter.unusedSimpArgs false
abbrev W := BitVec 32
def poly : W := 0xedb88320#32
/-- one bit of a sum -/
def st (x : W) : W := if x.toNat % 2 = 1 then (x >>> 1) ^^^ poly else x >>> 1
def sts : Nat → W → W
  | 0, x => x
  | n + 1, x => sts n (st x)
theorem sts_succ (n : Nat) (x : W) : sts (n + 1) x = st (sts n x) := by
  induction n generalizing x with
  | zero => rfl
  | succ n ih => rw [sts, ih]; rfl
theorem sts_add (m n : Nat) (x : W) : sts (m + n) x = sts n (sts m x) := by
  induction m generalizing x with
  | zero => simp [sts]
  | succ m ih => rw [Nat.succ_add, sts, ih]; rfl
def by8 (x : W) (b : UInt8) : W := sts 8 (x ^^^ BitVec.ofNat 32 b.toNat)
def run (x : W) (l : List UInt8) : W := l.foldl by8 x
theorem run_snoc (x : W) (l : List UInt8) (b : UInt8) : run x (l ++ [b]) = by8 (run x l) b := by simp [run]
theorem run_append (x : W) (l m : List UInt8) : run x (l ++ m) = run (run x l) m := by simp [run]
def add (s : W) (l : List UInt8) : W := ~~~ (run (~~~ s) l)
def of (ls : List (List UInt8)) : W := ls.foldl add 0
def tab (i : Nat) : W := sts 4 (BitVec.ofNat 32 i)
theorem add_append (s : W) (l m : List UInt8) : add (add s l) m = add s (l ++ m) := by
  simp [add, run_append]
theorem add_nil (s : W) : add s [] = s := by simp [add, run]
theorem of_fold (ls : List (List UInt8)) (s : W) : ls.foldl add s = add s ls.flatten := by
  induction ls generalizing s with
  | nil => simp [add_nil]
  | cons l ls ih => rw [List.foldl_cons, ih, add_append, List.flatten_cons]
theorem of_eq (ls : List (List UInt8)) : of ls = add 0 ls.flatten := of_fold ls 0
/-! ### linear -/
theorem nat_odd_xor (a b : Nat) : (a ^^^ b) % 2 = (a + b) % 2 := by
  have h := Nat.xor_mod_two_eq_one (a := a) (b := b)
  omega
theorem odd_xor (x y : W) : (x ^^^ y).toNat % 2 = (x.toNat + y.toNat) % 2 := by
  rw [BitVec.toNat_xor]
  exact nat_odd_xor _ _
theorem st_xor (x y : W) : st (x ^^^ y) = st x ^^^ st y := by
  have h := odd_xor x y
  have hs : (x ^^^ y) >>> 1 = (x >>> 1) ^^^ (y >>> 1) := BitVec.ushiftRight_xor_distrib x y 1
  unfold st
  rw [hs]
  by_cases hx : x.toNat % 2 = 1 <;> by_cases hy : y.toNat % 2 = 1
  · rw [if_neg (by omega), if_pos hx, if_pos hy]
    rw [BitVec.xor_assoc, BitVec.xor_comm poly, BitVec.xor_assoc, BitVec.xor_self, BitVec.xor_zero]
  · rw [if_pos (by omega), if_pos hx, if_neg hy]
    rw [BitVec.xor_assoc, BitVec.xor_comm _ poly, BitVec.xor_assoc]
  · rw [if_pos (by omega), if_neg hx, if_pos hy, BitVec.xor_assoc]
  · rw [if_neg (by omega), if_neg hx, if_neg hy]
theorem sts_xor (n : Nat) (x y : W) : sts n (x ^^^ y) = sts n x ^^^ sts n y := by
  induction n generalizing x y with
  | zero => rfl
  | succ n ih => rw [sts, st_xor, ih]; rfl
/-! ### a half byte at once -/
theorem sts4_high (k : Nat) (h : k < 2 ^ 28) : sts 4 (BitVec.ofNat 32 (16 * k)) = BitVec.ofNat 32 k := by
  have e1 : ∀ m, m < 2 ^ 31 → st (BitVec.ofNat 32 (2 * m)) = BitVec.ofNat 32 m := by
    intro m hm
    have ht : (BitVec.ofNat 32 (2 * m)).toNat = 2 * m := by rw [BitVec.toNat_ofNat]; omega
    unfold st
    rw [if_neg (by rw [ht]; omega)]
    apply BitVec.eq_of_toNat_eq
    rw [BitVec.toNat_ushiftRight, ht, BitVec.toNat_ofNat, Nat.shiftRight_eq_div_pow]
    omega
  show st (st (st (st _))) = _
  rw [show 16 * k = 2 * (8 * k) by omega, e1 _ (by omega), show 8 * k = 2 * (4 * k) by omega, e1 _ (by omega), show 4 * k = 2 * (2 * k) by omega, e1 _ (by omega), e1 _ (by omega)]
theorem nib (x : W) : sts 4 x = (x >>> 4) ^^^ tab (x.toNat % 16) := by
  have hx := x.isLt
  have e : x = BitVec.ofNat 32 (16 * (x.toNat / 16)) ^^^ BitVec.ofNat 32 (x.toNat % 16) := by
    apply BitVec.eq_of_toNat_eq
    rw [BitVec.toNat_xor, BitVec.toNat_ofNat, BitVec.toNat_ofNat, Nat.mod_eq_of_lt (by omega), Nat.mod_eq_of_lt (by omega)]
    have h := Nat.two_pow_add_eq_or_of_lt (i := 4) (b := x.toNat % 16) (by omega) (x.toNat / 16)
    have h2 : 2 ^ 4 * (x.toNat / 16) ^^^ x.toNat % 16 = 2 ^ 4 * (x.toNat / 16) ||| x.toNat % 16 := by
      apply Nat.eq_of_testBit_eq
      intro i
      rw [Nat.testBit_xor, Nat.testBit_or, Nat.testBit_two_pow_mul]
      by_cases hi : 4 ≤ i
      · have : (x.toNat % 16).testBit i = false := by
          apply Nat.testBit_lt_two_pow
          exact Nat.lt_of_lt_of_le (by omega : x.toNat % 16 < 2 ^ 4) (Nat.pow_le_pow_right (by decide) hi)
        rw [this]; simp
      · simp [hi]
    rw [show (16 : Nat) = 2 ^ 4 by rfl] at *
    rw [h2, ← h]
    omega
  have e2 : sts 4 x = sts 4 (BitVec.ofNat 32 (16 * (x.toNat / 16))) ^^^ sts 4 (BitVec.ofNat 32 (x.toNat % 16)) := by
    rw [← sts_xor, ← e]
  rw [e2, sts4_high _ (by omega)]
  have e3 : x >>> 4 = BitVec.ofNat 32 (x.toNat / 16) := by
    apply BitVec.eq_of_toNat_eq
    rw [BitVec.toNat_ushiftRight, BitVec.toNat_ofNat, Nat.shiftRight_eq_div_pow]
    omega
  rw [e3]; rfl
theorem nib2 (x : W) : sts 8 x = ((sts 4 x) >>> 4) ^^^ tab ((sts 4 x).toNat % 16) := by
  rw [show (8 : Nat) = 4 + 4 by rfl, sts_add, nib (sts 4 x)]
/-! ### texts put over one another -/
def xor3 (a b c : List UInt8) : List UInt8 := List.zipWith (· ^^^ ·) (List.zipWith (· ^^^ ·) a b) c
theorem ofNat_xor (a b : UInt8) : (BitVec.ofNat 32 (a ^^^ b).toNat : W) = BitVec.ofNat 32 a.toNat ^^^ BitVec.ofNat 32 b.toNat := by
  apply BitVec.eq_of_toNat_eq
  have ha := a.toNat_lt
  have hb := b.toNat_lt
  rw [BitVec.toNat_xor, BitVec.toNat_ofNat, BitVec.toNat_ofNat, BitVec.toNat_ofNat, UInt8.toNat_xor, Nat.mod_eq_of_lt (by omega : a.toNat < 2 ^ 32), Nat.mod_eq_of_lt (by omega : b.toNat < 2 ^ 32)]
  exact Nat.mod_eq_of_lt (Nat.lt_of_lt_of_le (Nat.xor_lt_two_pow (n := 8) (by omega) (by omega)) (by decide))
theorem by8_xor (x y : W) (a b : UInt8) : by8 (x ^^^ y) (a ^^^ b) = by8 x a ^^^ by8 y b := by
  unfold by8
  rw [← sts_xor, ofNat_xor]
  congr 1
  ac_rfl
theorem run_xor (a b : List UInt8) (h : a.length = b.length) (x y : W) : run (x ^^^ y) (List.zipWith (· ^^^ ·) a b) = run x a ^^^ run y b := by
  induction a generalizing b x y with
  | nil => cases b with
    | nil => rfl
    | cons b bs => simp at h
  | cons a as ih => cases b with
    | nil => simp at h
    | cons b bs =>
      simp only [run, List.zipWith_cons_cons, List.foldl_cons] at *
      rw [by8_xor]
      exact ih bs (by simpa using h) _ _
theorem add_xor3 (a b c : List UInt8) (h1 : b.length = a.length) (h2 : c.length = a.length) : add 0 (xor3 a b c) = add 0 a ^^^ add 0 b ^^^ add 0 c := by
  unfold add xor3
  have e : (~~~ (0 : W)) = (~~~ (0 : W)) ^^^ (~~~ (0 : W)) ^^^ (~~~ (0 : W)) := by decide
  rw [e, run_xor _ _ (by simp [h1, h2]), run_xor _ _ (by simp [h1]), ← e]
  generalize run (~~~ 0) a = x
  generalize run (~~~ 0) b = y
  generalize run (~~~ 0) c = z
  have hn : ∀ x : W, ~~~ x = x ^^^ BitVec.allOnes 32 := fun x => by rw [BitVec.xor_allOnes]
  rw [hn, hn x, hn y, hn z]
  have h3 : ∀ o : W, x ^^^ y ^^^ z ^^^ o = x ^^^ y ^^^ z ^^^ o ^^^ (o ^^^ o) := fun o => by rw [BitVec.xor_self, BitVec.xor_zero]
  rw [h3]
  ac_rfl
/-! ### one-to-one -/
theorem st_zero (x : W) (h : st x = 0) : x = 0 := by
  have hx := x.isLt
  unfold st at h
  split at h
  · have h1 := congrArg BitVec.msb h
    rw [BitVec.msb_xor, BitVec.msb_ushiftRight] at h1
    simp [poly] at h1
    exact absurd h1 (by decide)
  · rename_i h0
    have h1 := congrArg BitVec.toNat h
    rw [BitVec.toNat_ushiftRight, Nat.shiftRight_eq_div_pow] at h1
    apply BitVec.eq_of_toNat_eq
    simp at h1 ⊢
    omega
theorem sts_zero (n : Nat) (x : W) (h : sts n x = 0) : x = 0 := by
  induction n generalizing x with
  | zero => exact h
  | succ n ih => exact st_zero x (ih _ h)
theorem run_zero_zero (k : Nat) : ∀ x : W, run x (List.replicate k 0) = sts (8 * k) x := by
  induction k with
  | zero => intro x; rfl
  | succ k ih =>
    intro x
    rw [List.replicate_succ]
    show run (by8 x 0) _ = _
    rw [ih]
    have : by8 x 0 = sts 8 x := by
      unfold by8
      congr 1
      show x ^^^ 0#32 = x
      exact BitVec.xor_zero
    rw [this, ← sts_add]
    congr 1
    omega
/-- Two texts of one length have one sum just where what parts them has none. -/
theorem add_eq_iff (a b : List UInt8) (h : a.length = b.length) : (add 0 a = add 0 b) → run 0 (List.zipWith (· ^^^ ·) a b) = 0 := by
  intro he
  have e : (0 : W) = (~~~ (0 : W)) ^^^ (~~~ (0 : W)) := by decide
  rw [e, run_xor _ _ h]
  unfold add at he
  have h2 : run (~~~ 0) a = run (~~~ 0) b := by
    have := congrArg (fun x : W => ~~~ x) he
    simpa using this
  rw [h2, BitVec.xor_self]; decide
/-- Bits that stand below are shifted out by and by: a word that is put in at once, or byte by byte. -/
theorem sts_shift (n : Nat) (x : Nat) (h : x < 2 ^ 32) : x % 2 ^ n = 0 → n ≤ 32 → sts n (BitVec.ofNat 32 x) = BitVec.ofNat 32 (x / 2 ^ n) := by
  induction n generalizing x with
  | zero => intro _ _; simp [sts]
  | succ n ih =>
    intro hm hn
    rw [sts]
    have hodd : ¬ (BitVec.ofNat 32 x).toNat % 2 = 1 := by
      rw [BitVec.toNat_ofNat, Nat.mod_eq_of_lt h]
      have : x % 2 = 0 := by
        have := Nat.mod_mod_of_dvd x (show 2 ∣ 2 ^ (n + 1) from ⟨2 ^ n, by rw [Nat.pow_succ, Nat.mul_comm]⟩)
        omega
      omega
    have hst : st (BitVec.ofNat 32 x) = BitVec.ofNat 32 (x / 2) := by
      unfold st
      rw [if_neg hodd]
      apply BitVec.eq_of_toNat_eq
      rw [BitVec.toNat_ushiftRight, Nat.shiftRight_eq_div_pow, BitVec.toNat_ofNat, BitVec.toNat_ofNat, Nat.mod_eq_of_lt h]
      omega
    rw [hst, ih (x / 2) (by omega) ?_ (by omega)]
    · rw [Nat.div_div_eq_div_mul, Nat.pow_succ, Nat.mul_comm]
    · have h1 : x = 2 ^ (n + 1) * (x / 2 ^ (n + 1)) := by
        have := Nat.div_add_mod x (2 ^ (n + 1))
        omega
      rw [h1, Nat.pow_succ, Nat.mul_comm (2 ^ n) 2, Nat.mul_assoc, Nat.mul_div_cancel_left _ (by decide)]
      exact Nat.mul_mod_right _ _
theorem ofNat_xor' (a b : Nat) (ha : a < 2 ^ 32) (hb : b < 2 ^ 32) : (BitVec.ofNat 32 (a ^^^ b) : W) = BitVec.ofNat 32 a ^^^ BitVec.ofNat 32 b := by
  apply BitVec.eq_of_toNat_eq
  rw [BitVec.toNat_xor, BitVec.toNat_ofNat, BitVec.toNat_ofNat, BitVec.toNat_ofNat, Nat.mod_eq_of_lt ha, Nat.mod_eq_of_lt hb]
  exact Nat.mod_eq_of_lt (Nat.xor_lt_two_pow ha hb)
theorem ofNat_join (a b n : Nat) (ha : a < 2 ^ n) (hb : b * 2 ^ n < 2 ^ 32) (hn : n ≤ 32) : (BitVec.ofNat 32 (a + b * 2 ^ n) : W) = BitVec.ofNat 32 a ^^^ BitVec.ofNat 32 (b * 2 ^ n) := by
  rw [← ofNat_xor' a (b * 2 ^ n) (Nat.lt_of_lt_of_le ha (Nat.pow_le_pow_right (by decide) hn)) hb]
  congr 1
  have h := Nat.two_pow_add_eq_or_of_lt ha b
  apply Nat.eq_of_testBit_eq
  intro i
  rw [show a + b * 2 ^ n = 2 ^ n * b + a by rw [Nat.mul_comm, Nat.add_comm], h, Nat.testBit_or, Nat.testBit_xor, Nat.mul_comm b, Nat.testBit_two_pow_mul]
  by_cases hi : n ≤ i
  · have : a.testBit i = false := Nat.testBit_lt_two_pow (Nat.lt_of_lt_of_le ha (Nat.pow_le_pow_right (by decide) hi))
    rw [this]; simp
  · simp [hi]
/-- A byte behind a sum: as if it had stood above. -/
theorem sts_above (n : Nat) (y : W) (b : Nat) (hb : b * 2 ^ n < 2 ^ 32) (hn : n ≤ 32) : sts n y ^^^ BitVec.ofNat 32 b = sts n (y ^^^ BitVec.ofNat 32 (b * 2 ^ n)) := by
  rw [sts_xor, sts_shift n (b * 2 ^ n) hb (Nat.mul_mod_left _ _) hn, Nat.mul_div_cancel _ (Nat.two_pow_pos n)]
def byteOf (N t : Nat) : UInt8 := UInt8.ofNat (N / 256 ^ t)
theorem byteOf_toNat (N t : Nat) : (byteOf N t).toNat = N / 256 ^ t % 256 := rfl
theorem run_four (N : Nat) (hN : N < 2 ^ 32) : run 0 [byteOf N 0, byteOf N 1, byteOf N 2, byteOf N 3] = sts 32 (BitVec.ofNat 32 N) := by
  simp only [run, List.foldl_cons, List.foldl_nil, by8, byteOf_toNat]
  have h0 : (0 : W) ^^^ BitVec.ofNat 32 (N / 256 ^ 0 % 256) = BitVec.ofNat 32 (N % 256) := by
    rw [Nat.pow_zero, Nat.div_one]; exact BitVec.zero_xor
  rw [h0]
  have e1 : sts 8 (BitVec.ofNat 32 (N % 256)) ^^^ BitVec.ofNat 32 (N / 256 ^ 1 % 256) = sts 8 (BitVec.ofNat 32 (N % 65536)) := by
    rw [sts_above 8 _ _ (by omega) (by omega), ← ofNat_join _ _ 8 (by omega) (by omega) (by omega)]
    congr 2; omega
  rw [e1]
  have e2 : sts 8 (sts 8 (BitVec.ofNat 32 (N % 65536))) ^^^ BitVec.ofNat 32 (N / 256 ^ 2 % 256) = sts 16 (BitVec.ofNat 32 (N % 16777216)) := by
    rw [← sts_add 8 8, sts_above (8 + 8) _ _ (by omega) (by omega), ← ofNat_join _ _ (8 + 8) (by omega) (by omega) (by omega)]
    congr 2; omega
  rw [e2]
  have e3 : sts 8 (sts 16 (BitVec.ofNat 32 (N % 16777216))) ^^^ BitVec.ofNat 32 (N / 256 ^ 3 % 256) = sts 24 (BitVec.ofNat 32 N) := by
    rw [← sts_add 16 8, sts_above (16 + 8) _ _ (by omega) (by omega), ← ofNat_join _ _ (16 + 8) (by omega) (by omega) (by omega)]
    congr 2; omega
  rw [e3, ← sts_add 24 8]
theorem run_five (x r : Nat) (hx : x < 2 ^ 32) (hr : r ≤ 7) : run 0 [byteOf (x * 2 ^ r) 0, byteOf (x * 2 ^ r) 1, byteOf (x * 2 ^ r) 2, byteOf (x * 2 ^ r) 3, byteOf (x * 2 ^ r) 4] = sts (40 - r) (BitVec.ofNat 32 x) := by
  obtain ⟨N, hN⟩ : ∃ N, N = x * 2 ^ r := ⟨_, rfl⟩
  rw [← hN]
  have hp : (2 : Nat) ^ r * 2 ^ (32 - r) = 2 ^ 32 := by rw [← Nat.pow_add]; congr 1; omega
  have hb : ∀ t, t < 4 → byteOf N t = byteOf (N % 2 ^ 32) t := by
    intro t ht
    apply UInt8.toNat_inj.1
    rw [byteOf_toNat, byteOf_toNat]
    have : t = 0 ∨ t = 1 ∨ t = 2 ∨ t = 3 := by omega
    rcases this with rfl | rfl | rfl | rfl <;> omega
  rw [show [byteOf N 0, byteOf N 1, byteOf N 2, byteOf N 3, byteOf N 4] = [byteOf N 0, byteOf N 1, byteOf N 2, byteOf N 3] ++ [byteOf N 4] from rfl, run_append, hb 0 (by decide), hb 1 (by decide), hb 2 (by decide), hb 3 (by decide), run_four _ (Nat.mod_lt _ (by decide))]
  show by8 _ _ = _
  unfold by8
  rw [byteOf_toNat]
  -- the low word, and what stands above it
  have hlo : N % 2 ^ 32 = (x % 2 ^ (32 - r)) * 2 ^ r := by
    rw [hN, ← hp, Nat.mul_comm (2 ^ r), Nat.mul_mod_mul_right]
  have hhi : N / 256 ^ 4 % 256 = x / 2 ^ (32 - r) := by
    have h1 : N / 256 ^ 4 = x / 2 ^ (32 - r) := by
      rw [hN, show (256 : Nat) ^ 4 = 2 ^ (32 - r) * 2 ^ r by rw [← Nat.pow_add, show (256 : Nat) ^ 4 = 2 ^ 32 by decide]; congr 1; omega, Nat.mul_div_mul_right _ _ (Nat.two_pow_pos r)]
    rw [h1]
    apply Nat.mod_eq_of_lt
    rw [Nat.div_lt_iff_lt_mul (Nat.two_pow_pos _)]
    have : (2 : Nat) ^ 25 ≤ 2 ^ (32 - r) := Nat.pow_le_pow_right (by decide) (by omega)
    omega
  rw [hhi, hlo]
  have hlt : x % 2 ^ (32 - r) < 2 ^ (32 - r) := Nat.mod_lt _ (Nat.two_pow_pos _)
  have hl2 : (x % 2 ^ (32 - r)) * 2 ^ r < 2 ^ 32 := by
    rw [← hp, Nat.mul_comm (2 ^ r)]
    exact Nat.mul_lt_mul_of_pos_right hlt (Nat.two_pow_pos _)
  have e1 : sts 32 (BitVec.ofNat 32 ((x % 2 ^ (32 - r)) * 2 ^ r)) = sts (32 - r) (BitVec.ofNat 32 (x % 2 ^ (32 - r))) := by
    rw [show sts 32 = sts (r + (32 - r)) by congr 1; omega, sts_add, sts_shift r _ hl2 (Nat.mul_mod_left _ _) (by omega), Nat.mul_div_cancel _ (Nat.two_pow_pos r)]
  have h2 : x / 2 ^ (32 - r) * 2 ^ (32 - r) < 2 ^ 32 := Nat.lt_of_le_of_lt (Nat.div_mul_le_self _ _) hx
  generalize hm : 32 - r = m at *
  have hmr : 40 - r = m + 8 := by omega
  have hm32 : m ≤ 32 := by omega
  have e2 : sts m (BitVec.ofNat 32 (x % 2 ^ m)) ^^^ BitVec.ofNat 32 (x / 2 ^ m) = sts m (BitVec.ofNat 32 x) := by
    have e3 := sts_above m (BitVec.ofNat 32 (x % 2 ^ m)) (x / 2 ^ m) h2 hm32
    have e4 := ofNat_join (x % 2 ^ m) (x / 2 ^ m) m hlt h2 hm32
    rw [Nat.mod_add_div'] at e4
    rw [e3, ← e4]
  rw [e1, e2, hmr, sts_add]
/-- What parts the two texts. -/
def dbyte (N q j : Nat) : UInt8 := if q ≤ j ∧ j < q + 5 then byteOf N (j - q) else 0
def turned (b : List UInt8) (N q : Nat) : List UInt8 := b.mapIdx fun j x => x ^^^ dbyte N q j
theorem turned_length (b : List UInt8) (N q : Nat) : (turned b N q).length = b.length := by simp [turned]
theorem turned_at (b : List UInt8) (N q j : Nat) (h : j < b.length) : (turned b N q)[j]'(by rw [turned_length]; exact h) = b[j] ^^^ dbyte N q j := by simp [turned]
theorem turned_zero (b : List UInt8) (q : Nat) : turned b 0 q = b := by
  apply List.ext_getElem
  · exact turned_length _ _ _
  · intro j h1 h2
    rw [turned_at b 0 q j h2]
    have : dbyte 0 q j = 0 := by unfold dbyte byteOf; split <;> simp
    rw [this]; simp
theorem turned_diff (b : List UInt8) (N q : Nat) (h : q + 5 ≤ b.length) : List.zipWith (· ^^^ ·) (turned b N q) b = List.replicate q 0 ++ ([byteOf N 0, byteOf N 1, byteOf N 2, byteOf N 3, byteOf N 4] ++ List.replicate (b.length - 5 - q) 0) := by
  apply List.ext_getElem
  · simp [turned_length]; omega
  · intro j h1 h2
    have hj : j < b.length := by simp [turned_length] at h1; exact h1
    rw [List.getElem_zipWith, turned_at b N q j hj]
    have e : b[j] ^^^ dbyte N q j ^^^ b[j] = dbyte N q j := by
      rw [UInt8.xor_comm (b[j]) (dbyte N q j), UInt8.xor_assoc, UInt8.xor_self, UInt8.xor_zero]
    rw [e]
    unfold dbyte
    by_cases h3 : q ≤ j
    · rw [List.getElem_append_right (by simp; exact h3)]
      by_cases h4 : j < q + 5
      · rw [if_pos ⟨h3, h4⟩]
        obtain ⟨t, rfl⟩ : ∃ t, j = q + t := ⟨j - q, by omega⟩
        have : t = 0 ∨ t = 1 ∨ t = 2 ∨ t = 3 ∨ t = 4 := by omega
        rcases this with rfl | rfl | rfl | rfl | rfl <;> simp
      · rw [if_neg (by omega), List.getElem_append_right (by simp; omega)]
        simp
    · rw [if_neg (by omega), List.getElem_append_left (by simp; omega)]
      simp
theorem burst (b : List UInt8) (x f : Nat) (hx : x < 2 ^ 32) (h0 : x ≠ 0) (hf : f < (b.length - 4) * 8) : add 0 (turned b (x * 2 ^ (f % 8)) (f / 8)) ≠ add 0 b := by
  intro he
  have h1 := add_eq_iff _ _ (turned_length _ _ _) he
  rw [turned_diff b _ _ (by omega), run_append, run_append, run_zero_zero, run_zero_zero] at h1
  have hz : ∀ k, sts k (0 : W) = 0 := by
    intro k
    induction k with
    | zero => rfl
    | succ k ih => rw [sts]; exact ih
  have h2 := sts_zero _ _ h1
  rw [hz, run_five x (f % 8) hx (by omega)] at h2
  have h3 := congrArg BitVec.toNat (sts_zero _ _ h2)
  rw [BitVec.toNat_ofNat, Nat.mod_eq_of_lt hx] at h3
  exact h0 h3
/-- One bit more is turned. -/
theorem part_succ (x i : Nat) : x % 2 ^ (i + 1) = x % 2 ^ i ^^^ (if x.testBit i then 2 ^ i else 0) := by
  apply Nat.eq_of_testBit_eq
  intro j
  rw [Nat.testBit_xor, Nat.testBit_mod_two_pow, Nat.testBit_mod_two_pow]
  by_cases hb : x.testBit i = true
  · rw [if_pos hb, Nat.testBit_two_pow]
    by_cases h1 : j = i
    · subst h1; simp [hb]
    · by_cases h2 : j < i
      · have : j < i + 1 := by omega
        simp [h2, this, Ne.symm h1]
      · have : ¬ j < i + 1 := by omega
        simp [h2, this, Ne.symm h1]
  · rw [if_neg hb]
    by_cases h1 : j = i
    · subst h1; simp [hb]
    · have : (j < i + 1) ↔ (j < i) := by omega
      simp [this]
theorem byteOf_xor (N M t : Nat) : byteOf (N ^^^ M) t = byteOf N t ^^^ byteOf M t := by
  apply UInt8.toNat_inj.1
  rw [UInt8.toNat_xor, byteOf_toNat, byteOf_toNat, byteOf_toNat]
  rw [show (256 : Nat) ^ t = 2 ^ (8 * t) by rw [show (256 : Nat) = 2 ^ 8 by decide, ← Nat.pow_mul], ← Nat.shiftRight_eq_div_pow, ← Nat.shiftRight_eq_div_pow, ← Nat.shiftRight_eq_div_pow, Nat.shiftRight_xor_distrib, show (256 : Nat) = 2 ^ 8 by decide, Nat.xor_mod_two_pow]
theorem byteOf_pow (m t : Nat) : byteOf (2 ^ m) t = if m / 8 = t then UInt8.ofNat (2 ^ (m % 8)) else 0 := by
  apply UInt8.toNat_inj.1
  rw [byteOf_toNat, show (256 : Nat) ^ t = 2 ^ (8 * t) by rw [show (256 : Nat) = 2 ^ 8 by decide, ← Nat.pow_mul]]
  by_cases h1 : 8 * t ≤ m
  · rw [Nat.pow_div h1 (by decide)]
    by_cases h2 : m / 8 = t
    · rw [if_pos h2, show m - 8 * t = m % 8 by omega]; rfl
    · rw [if_neg h2]
      obtain ⟨d, hd⟩ : ∃ d, m - 8 * t = 8 + d := ⟨m - 8 * t - 8, by omega⟩
      rw [hd, Nat.pow_add]
      show 2 ^ 8 * 2 ^ d % 256 = 0
      omega
  · rw [if_neg (by omega), Nat.div_eq_of_lt (Nat.pow_lt_pow_right (by decide) (by omega))]; rfl
theorem turned_succ (b : List UInt8) (x f i : Nat) (hi : i < 32) : turned b ((x % 2 ^ (i + 1)) * 2 ^ (f % 8)) (f / 8) =
    if x.testBit i then (turned b ((x % 2 ^ i) * 2 ^ (f % 8)) (f / 8)).set ((f + i) / 8) ((turned b ((x % 2 ^ i) * 2 ^ (f % 8)) (f / 8))[(f + i) / 8]! ^^^ UInt8.ofNat (2 ^ ((f + i) % 8))) else turned b ((x % 2 ^ i) * 2 ^ (f % 8)) (f / 8) := by
  have hm : ∀ a b : Nat, (a ^^^ b) * 2 ^ (f % 8) = (a * 2 ^ (f % 8)) ^^^ (b * 2 ^ (f % 8)) := by
    intro a b
    rw [← Nat.shiftLeft_eq, ← Nat.shiftLeft_eq, ← Nat.shiftLeft_eq, Nat.shiftLeft_xor_distrib]
  rw [part_succ, hm]
  by_cases hb : x.testBit i = true
  · rw [if_pos hb, if_pos hb, ← Nat.pow_add]
    apply List.ext_getElem
    · simp [turned_length]
    · intro j h1 h2
      have hj : j < b.length := by rw [turned_length] at h1; exact h1
      rw [turned_at b _ _ j hj, List.getElem_set]
      have hd : dbyte ((x % 2 ^ i * 2 ^ (f % 8)) ^^^ 2 ^ (i + f % 8)) (f / 8) j = dbyte (x % 2 ^ i * 2 ^ (f % 8)) (f / 8) j ^^^ (if (f + i) / 8 = j then UInt8.ofNat (2 ^ ((f + i) % 8)) else 0) := by
        unfold dbyte
        by_cases h3 : f / 8 ≤ j ∧ j < f / 8 + 5
        · rw [if_pos h3, if_pos h3, byteOf_xor, byteOf_pow]
          congr 1
          have h4 : (i + f % 8) / 8 = j - f / 8 ↔ (f + i) / 8 = j := by omega
          have h5 : (i + f % 8) % 8 = (f + i) % 8 := by omega
          simp only [h4, h5]
        · rw [if_neg h3, if_neg h3, if_neg (by omega)]; simp
      rw [hd]
      by_cases h3 : (f + i) / 8 = j
      · subst h3
        rw [if_pos rfl, if_pos rfl, List.getElem!_eq_getElem?_getD, List.getElem?_eq_getElem (by rw [turned_length]; exact hj), Option.getD_some, turned_at b _ _ _ hj, UInt8.xor_assoc]
      · rw [if_neg h3, if_neg h3, turned_at b _ _ j hj]
        simp
  · rw [if_neg hb, if_neg hb]; simp
end CrcMath
