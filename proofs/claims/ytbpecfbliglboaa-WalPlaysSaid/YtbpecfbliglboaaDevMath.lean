/- Devices, as plain data. -/
namespace DevMath
structure Dev where
  sectors : Nat
  safe : Int → Option (List UInt8)
  cache : List (Int × List UInt8)
  off : Bool
  fuse : Int
  keep : List Int
  torn : Int
def zeros : List UInt8 := List.replicate 512 0
def Dev.new (n : Nat) : Dev := ⟨n, fun _ => none, [], false, 0, [], 0⟩
def Dev.has (d : Dev) (at_ : Int) : Bool := decide (0 ≤ at_) && decide (at_ < d.sectors)
def Dev.sector (d : Dev) (at_ : Int) : List UInt8 := (d.safe at_).getD zeros
def put (f : Int → Option (List UInt8)) (k : Int) (l : List UInt8) : Int → Option (List UInt8) := fun j => if j = k then some l else f j
def flushed (f : Int → Option (List UInt8)) : List (Int × List UInt8) → Int → Option (List UInt8)
  | [] => f
  | r :: rs => flushed (put f r.1 r.2) rs
/-- what is safe behind a crash, the writes from the i-th on -/
def crashed (keep : List Int) (torn : Int) : Nat → (Int → Option (List UInt8)) → List (Int × List UInt8) → Int → Option (List UInt8)
  | _, f, [] => f
  | i, f, r :: rs => crashed keep torn (i + 1) (if keep.contains (i : Int) then put f r.1 r.2 else if (i : Int) = torn then put f r.1 (r.2.take 256 ++ ((f r.1).getD zeros).drop 256) else f) rs
def Dev.crash (d : Dev) (keep : List Int) (torn : Int) : Dev :=
  if d.off then d else { d with safe := crashed keep torn 0 d.safe d.cache, cache := [], off := true, fuse := 0 }
/-- a call is counted -/
def Dev.burn (d : Dev) : Dev :=
  if 0 < d.fuse ∧ d.off = false then (if d.fuse - 1 = 0 then { d with fuse := d.fuse - 1 }.crash d.keep d.torn else { d with fuse := d.fuse - 1 }) else d
def Dev.write (d : Dev) (at_ : Int) (b : List UInt8) : Dev × Int :=
  if d.off then (d, 7) else if d.has at_ = false ∨ b.length ≠ 512 then (d, 1) else if d.burn.off then (d.burn, 7) else ({ d.burn with cache := d.burn.cache ++ [(at_, b)] }, 0)
def Dev.flush (d : Dev) : Dev × Int := if d.burn.off then (d.burn, 7) else ({ d.burn with safe := flushed d.burn.safe d.burn.cache, cache := [] }, 0)
/-- what is read: the last write of the cache, or what is safe -/
def lastOf (at_ : Int) : List (Int × List UInt8) → Option (List UInt8)
  | [] => none
  | r :: rs => match lastOf at_ rs with | some l => some l | none => if r.1 = at_ then some r.2 else none
def Dev.read (d : Dev) (at_ : Int) : Option (List UInt8) × Int :=
  if d.off then (none, 7) else if d.has at_ = false then (none, 1) else (some ((lastOf at_ d.cache).getD (d.sector at_)), 0)
/-- how many numbers below n have p -/
def cnt (n : Nat) (p : Nat → Bool) : Nat := (List.range n).countP p
theorem cnt_le (n : Nat) (p : Nat → Bool) : cnt n p ≤ n := by
  have := List.countP_le_length (p := p) (l := List.range n)
  simpa [cnt] using this
theorem cnt_succ (n : Nat) (p : Nat → Bool) : cnt (n + 1) p = cnt n p + if p n then 1 else 0 := by
  simp [cnt, List.range_succ, List.countP_append, List.countP_cons]
theorem cnt_same (n k : Nat) (p q : Nat → Bool) (h : ∀ j, j ≠ k → q j = p j) (hk : n ≤ k) : cnt n q = cnt n p := by
  induction n with
  | zero => rfl
  | succ n ih => rw [cnt_succ, cnt_succ, ih (by omega), h n (by omega)]
theorem cnt_set (n k : Nat) (p q : Nat → Bool) (h : ∀ j, j ≠ k → q j = p j) (hk : k < n) (hq : q k = true) : cnt n q = if p k then cnt n p else cnt n p + 1 := by
  induction n with
  | zero => omega
  | succ n ih =>
    rw [cnt_succ, cnt_succ]
    by_cases e : k = n
    · subst e
      rw [cnt_same k k p q h (Nat.le_refl _), hq]
      cases p k <;> simp
    · rw [ih (by omega), h n (by omega)]
      cases p k <;> cases p n <;> simp <;> omega
theorem lastOf_none (at_ : Int) (rs : List (Int × List UInt8)) (h : ∀ j, (hj : j < rs.length) → rs[j].1 ≠ at_) : lastOf at_ rs = none := by
  induction rs with
  | nil => rfl
  | cons r rs ih =>
    have h0 := h 0 (by simp)
    simp only [List.getElem_cons_zero] at h0
    rw [lastOf, ih (fun j hj => h (j + 1) (by simp only [List.length_cons]; omega))]
    simp [h0]
theorem lastOf_some (at_ : Int) (rs : List (Int × List UInt8)) (j : Nat) (hj : j < rs.length) (e : rs[j].1 = at_) (h : ∀ i, j < i → (hi : i < rs.length) → rs[i].1 ≠ at_) : lastOf at_ rs = some rs[j].2 := by
  induction rs generalizing j with
  | nil => simp at hj
  | cons r rs ih =>
    cases j with
    | zero =>
      simp only [List.getElem_cons_zero] at e ⊢
      rw [lastOf, lastOf_none at_ rs (fun i hi => h (i + 1) (by omega) (by simp only [List.length_cons]; omega))]
      simp [e]
    | succ j =>
      rw [lastOf, ih j (by simpa using hj) (by simpa using e) (fun i hi hi2 => h (i + 1) (by omega) (by simp only [List.length_cons]; omega))]
      rfl
end DevMath
