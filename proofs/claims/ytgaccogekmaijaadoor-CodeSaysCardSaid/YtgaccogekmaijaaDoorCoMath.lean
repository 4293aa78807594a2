/- Bytes in letters, plain. -/
set_option linter.unusedVariables false
set_option linter.unusedSimpArgs false
namespace CodeMath
def letterN (n : Nat) : Nat := [65,66,67,68,69,70,71,72,73,74,75,76,77,78,79,80,81,82,83,84,85,86,87,88,89,90,97,98,99,100,101,102,103,104,105,106,107,108,109,110,111,112,113,114,115,116,117,118,119,120,121,122,48,49,50,51,52,53,54,55,56,57,43,47].getD n 0
def letter (n : Nat) : UInt8 := UInt8.ofNat (letterN n)
def at3 (b : List UInt8) (i : Nat) : Nat := (b.getD i 0).toNat
def N3 (b : List UInt8) : Nat := at3 b 0 * 65536 + at3 b 1 * 256 + at3 b 2
def grp (b : List UInt8) : List UInt8 := [letter (N3 b / 262144), letter (N3 b / 4096 % 64), if 2 ≤ b.length then letter (N3 b / 64 % 64) else 61, if 3 ≤ b.length then letter (N3 b % 64) else 61]
theorem at3_lt (b : List UInt8) (i : Nat) : at3 b i < 256 := UInt8.toNat_lt _
theorem N3_lt (b : List UInt8) : N3 b < 16777216 := by
  have h0 := at3_lt b 0; have h1 := at3_lt b 1; have h2 := at3_lt b 2
  unfold N3; omega
theorem grp_len (b : List UInt8) : (grp b).length = 4 := rfl
/-- what is written: behind n letters of the line -/
def encF : Nat → Nat → List UInt8 → List UInt8
  | 0, _, _ => []
  | f + 1, n, b => if b = [] then (if 0 < n then [13, 10] else []) else (if n = 76 then [13, 10] else []) ++ grp (b.take 3) ++ encF f ((if n = 76 then 0 else n) + 4) (b.drop 3)
def enc (n : Nat) (b : List UInt8) : List UInt8 := encF (b.length + 1) n b
theorem encF_mono : ∀ f g n b, b.length < f → b.length < g → encF f n b = encF g n b := by
  intro f
  induction f with
  | zero => intro g n b h; omega
  | succ f ih =>
    intro g n b h1 h2
    cases g with
    | zero => omega
    | succ g =>
      simp only [encF]
      by_cases hb : b = []
      · rw [if_pos hb, if_pos hb]
      · have : 0 < b.length := List.length_pos_iff.2 hb
        rw [if_neg hb, if_neg hb, ih g _ (b.drop 3) (by rw [List.length_drop]; omega) (by rw [List.length_drop]; omega)]
theorem enc_nil (n : Nat) : enc n [] = if 0 < n then [13, 10] else [] := by simp [enc, encF]
theorem enc_step (n : Nat) (b : List UInt8) (hb : b ≠ []) : enc n b = (if n = 76 then [13, 10] else []) ++ grp (b.take 3) ++ enc ((if n = 76 then 0 else n) + 4) (b.drop 3) := by
  have : 0 < b.length := List.length_pos_iff.2 hb
  unfold enc
  rw [show b.length + 1 = b.length + 1 from rfl]
  simp only [encF]
  rw [if_neg hb]
  congr 1
  exact encF_mono b.length ((b.drop 3).length + 1) _ _ (by rw [List.length_drop]; omega) (by omega)
def blank (c : UInt8) : Bool := c == 9 || c == 10 || c == 13 || c == 32
/-- a letter's number; none: it is none -/
def valOf (c : UInt8) : Option Nat := (List.range 64).find? fun n => letter n == c
def val0 (c : UInt8) : Nat := (valOf c).getD 0
def quad (q : List UInt8) : Nat := ((val0 (q.getD 0 0) * 64 + val0 (q.getD 1 0)) * 64 + val0 (q.getD 2 0)) * 64 + val0 (q.getD 3 0)
def nPad (q : List UInt8) : Nat := (q.filter fun c => !(c == 61)).length
def kOf (q : List UInt8) : Nat := max (nPad q - 1) 1
def b3 (n : Nat) : List UInt8 := [UInt8.ofNat (n / 65536), UInt8.ofNat (n / 256), UInt8.ofNat n]
def decF : Nat → List UInt8 → Option (List UInt8)
  | 0, _ => some []
  | f + 1, s => if s = [] then some [] else
    if (kOf (s.take 4) < 3 ∧ 4 < s.length) ∨ grp ((b3 (quad (s.take 4))).take (kOf (s.take 4))) ≠ s.take 4 then none
    else (decF f (s.drop 4)).map ((b3 (quad (s.take 4))).take (kOf (s.take 4)) ++ ·)
def dec (b : List UInt8) : Option (List UInt8) :=
  if (b.filter fun c => !blank c).length % 4 ≠ 0 then none else decF (b.length + 1) (b.filter fun c => !blank c)
theorem letter_blank (n : Nat) : n < 64 → blank (letter n) = false := by
  revert n; decide
theorem letter_ne (n : Nat) : n < 64 → letter n ≠ 61 := by
  revert n; decide
theorem val_letter (n : Nat) : n < 64 → val0 (letter n) = n := by
  revert n; decide
theorem val_pad : val0 61 = 0 := by decide
theorem grp1 (a : UInt8) : grp [a] = [letter (a.toNat * 65536 / 262144), letter (a.toNat * 65536 / 4096 % 64), 61, 61] := by simp [grp, N3, at3]
theorem grp2 (a b : UInt8) : grp [a, b] = [letter ((a.toNat * 65536 + b.toNat * 256) / 262144), letter ((a.toNat * 65536 + b.toNat * 256) / 4096 % 64), letter ((a.toNat * 65536 + b.toNat * 256) / 64 % 64), 61] := by simp [grp, N3, at3]
theorem grp3 (a b c : UInt8) : grp [a, b, c] = [letter ((a.toNat * 65536 + b.toNat * 256 + c.toNat) / 262144), letter ((a.toNat * 65536 + b.toNat * 256 + c.toNat) / 4096 % 64), letter ((a.toNat * 65536 + b.toNat * 256 + c.toNat) / 64 % 64), letter ((a.toNat * 65536 + b.toNat * 256 + c.toNat) % 64)] := by simp [grp, N3, at3]
theorem quad4 (p q r s : UInt8) : quad [p, q, r, s] = ((val0 p * 64 + val0 q) * 64 + val0 r) * 64 + val0 s := rfl
theorem ofNat_toNat (a : UInt8) (n : Nat) (h : n % 256 = a.toNat) : UInt8.ofNat n = a := by
  apply UInt8.toNat_inj.1
  rw [UInt8.toNat_ofNat']
  have := a.toNat_lt
  omega
/-- a group's letters are read again -/
theorem grp_back (x : List UInt8) (h1 : 1 ≤ x.length) (h3 : x.length ≤ 3) : kOf (grp x) = x.length ∧ (b3 (quad (grp x))).take x.length = x := by
  match x, h1, h3 with
  | [a], _, _ =>
    have ha := a.toNat_lt
    rw [grp1]
    have l1 := letter_ne (a.toNat * 65536 / 262144) (by omega)
    have l2 := letter_ne (a.toNat * 65536 / 4096 % 64) (by omega)
    refine ⟨?_, ?_⟩
    · simp [kOf, nPad, l1, l2]
    · rw [quad4, val_letter _ (by omega), val_letter _ (by omega), val_pad]
      simp only [b3, List.length_cons, List.length_nil, List.take_succ_cons, List.take_zero]
      rw [ofNat_toNat a _ (by omega)]
  | [a, b], _, _ =>
    have ha := a.toNat_lt; have hb := b.toNat_lt
    rw [grp2]
    have l1 := letter_ne ((a.toNat * 65536 + b.toNat * 256) / 262144) (by omega)
    have l2 := letter_ne ((a.toNat * 65536 + b.toNat * 256) / 4096 % 64) (by omega)
    have l3 := letter_ne ((a.toNat * 65536 + b.toNat * 256) / 64 % 64) (by omega)
    refine ⟨?_, ?_⟩
    · simp [kOf, nPad, l1, l2, l3]
    · rw [quad4, val_letter _ (by omega), val_letter _ (by omega), val_letter _ (by omega), val_pad]
      simp only [b3, List.length_cons, List.length_nil, List.take_succ_cons, List.take_zero]
      rw [ofNat_toNat a _ (by omega), ofNat_toNat b _ (by omega)]
  | [a, b, c], _, _ =>
    have ha := a.toNat_lt; have hb := b.toNat_lt; have hc := c.toNat_lt
    rw [grp3]
    have l1 := letter_ne ((a.toNat * 65536 + b.toNat * 256 + c.toNat) / 262144) (by omega)
    have l2 := letter_ne ((a.toNat * 65536 + b.toNat * 256 + c.toNat) / 4096 % 64) (by omega)
    have l3 := letter_ne ((a.toNat * 65536 + b.toNat * 256 + c.toNat) / 64 % 64) (by omega)
    have l4 := letter_ne ((a.toNat * 65536 + b.toNat * 256 + c.toNat) % 64) (by omega)
    refine ⟨?_, ?_⟩
    · simp [kOf, nPad, l1, l2, l3, l4]
    · rw [quad4, val_letter _ (by omega), val_letter _ (by omega), val_letter _ (by omega), val_letter _ (by omega)]
      simp only [b3, List.length_cons, List.length_nil, List.take_succ_cons, List.take_zero]
      rw [ofNat_toNat a _ (by omega), ofNat_toNat b _ (by omega), ofNat_toNat c _ (by omega)]
theorem grp_plain (x : List UInt8) : ∀ c ∈ grp x, blank c = false := by
  have hn := N3_lt x
  intro c hc
  simp only [grp, List.mem_cons, List.not_mem_nil, or_false] at hc
  rcases hc with rfl | rfl | rfl | rfl
  · exact letter_blank _ (by omega)
  · exact letter_blank _ (by omega)
  · split
    · exact letter_blank _ (by omega)
    · decide
  · split
    · exact letter_blank _ (by omega)
    · decide
/-- the letters alone -/
def encsF : Nat → List UInt8 → List UInt8
  | 0, _ => []
  | f + 1, b => if b = [] then [] else grp (b.take 3) ++ encsF f (b.drop 3)
theorem filter_enc : ∀ f n b, b.length < f → (encF f n b).filter (fun c => !blank c) = encsF f b := by
  intro f
  induction f with
  | zero => intro n b h; omega
  | succ f ih =>
    intro n b h
    simp only [encF, encsF]
    by_cases hb : b = []
    · rw [if_pos hb, if_pos hb]
      split <;> rfl
    · have : 0 < b.length := List.length_pos_iff.2 hb
      rw [if_neg hb, if_neg hb, List.filter_append, List.filter_append, ih _ _ (by rw [List.length_drop]; omega)]
      have e1 : (if n = 76 then [13, 10] else ([] : List UInt8)).filter (fun c => !blank c) = [] := by split <;> rfl
      have e2 : (grp (b.take 3)).filter (fun c => !blank c) = grp (b.take 3) := List.filter_eq_self.2 (fun c hc => by rw [grp_plain _ c hc]; rfl)
      rw [e1, e2]
      rfl
theorem encs_len : ∀ f b, b.length < f → (encsF f b).length % 4 = 0 ∧ (b ≠ [] → 0 < (encsF f b).length) ∧ (encsF f b).length ≤ 4 * b.length := by
  intro f
  induction f with
  | zero => intro b h; omega
  | succ f ih =>
    intro b h
    simp only [encsF]
    by_cases hb : b = []
    · rw [if_pos hb]; simp [hb]
    · have h0 : 0 < b.length := List.length_pos_iff.2 hb
      obtain ⟨h1, h2, h3⟩ := ih (b.drop 3) (by rw [List.length_drop]; omega)
      rw [List.length_drop] at h3
      rw [if_neg hb, List.length_append, grp_len]
      refine ⟨by omega, fun _ => by omega, ?_⟩
      by_cases h4 : b.length ≤ 3
      · have e : b.drop 3 = [] := List.drop_eq_nil_of_le h4
        rw [e]
        have : (encsF f []).length = 0 := by cases f <;> simp [encsF]
        omega
      · omega
theorem dec_encs : ∀ f g b, b.length < f → b.length < g → decF g (encsF f b) = some b := by
  intro f
  induction f with
  | zero => intro g b h; omega
  | succ f ih =>
    intro g b h hg
    cases g with
    | zero => omega
    | succ g =>
      simp only [encsF]
      by_cases hb : b = []
      · rw [if_pos hb, hb]; simp [decF]
      · have h0 : 0 < b.length := List.length_pos_iff.2 hb
        rw [if_neg hb]
        have hx1 : 1 ≤ (b.take 3).length := by rw [List.length_take]; omega
        have hx3 : (b.take 3).length ≤ 3 := by rw [List.length_take]; omega
        obtain ⟨k1, k2⟩ := grp_back (b.take 3) hx1 hx3
        have hne : grp (b.take 3) ++ encsF f (b.drop 3) ≠ [] := by simp [grp]
        have ht : (grp (b.take 3) ++ encsF f (b.drop 3)).take 4 = grp (b.take 3) := List.take_left' (grp_len _)
        have hd : (grp (b.take 3) ++ encsF f (b.drop 3)).drop 4 = encsF f (b.drop 3) := List.drop_left' (grp_len _)
        simp only [decF]
        rw [if_neg hne, ht, hd, k1, k2, ih g (b.drop 3) (by rw [List.length_drop]; omega) (by rw [List.length_drop]; omega)]
        rw [if_neg]
        · show some (b.take 3 ++ b.drop 3) = some b
          rw [List.take_append_drop]
        · rintro (⟨h1, h2⟩ | h1)
          · rw [List.length_take] at h1
            have e : b.drop 3 = [] := List.drop_eq_nil_of_le (by omega)
            rw [e, List.length_append, grp_len] at h2
            have : (encsF f []).length = 0 := by cases f <;> simp [encsF]
            omega
          · exact h1 rfl
theorem decF_mono : ∀ f g s, s.length < f → s.length < g → decF f s = decF g s := by
  intro f
  induction f with
  | zero => intro g s h; omega
  | succ f ih =>
    intro g s h1 h2
    cases g with
    | zero => omega
    | succ g =>
      simp only [decF]
      by_cases hs : s = []
      · rw [if_pos hs, if_pos hs]
      · have h0 : 0 < s.length := List.length_pos_iff.2 hs
        rw [if_neg hs, if_neg hs, ih g (s.drop 4) (by rw [List.length_drop]; omega) (by rw [List.length_drop]; omega)]
/-- what is written is read again, wherever blanks are put -/
theorem dec_blanks (b p : List UInt8) (h : p.filter (fun c => !blank c) = (enc 0 b).filter fun c => !blank c) : dec p = some b := by
  have e1 : p.filter (fun c => !blank c) = encsF (b.length + 1) b := by rw [h]; exact filter_enc _ _ _ (by omega)
  obtain ⟨h1, h2, h3⟩ := encs_len (b.length + 1) b (by omega)
  have h4 : (p.filter fun c => !blank c).length ≤ p.length := List.length_filter_le _ _
  unfold dec
  rw [e1] at h4 ⊢
  rw [if_neg (by omega)]
  rw [decF_mono (p.length + 1) (max (p.length + 1) (b.length + 1)) _ (by omega) (by omega)]
  exact dec_encs _ _ _ (by omega) (by omega)
theorem dec_enc (b : List UInt8) : dec (enc 0 b) = some b := dec_blanks b _ rfl
end CodeMath
