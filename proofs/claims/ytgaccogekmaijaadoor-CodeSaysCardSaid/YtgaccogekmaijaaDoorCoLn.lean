/- Lines, plain. -/
import Derived.Test.YtgaccogekmaijaaDoorCoMath
import Derived.Test.YtgaccogekmaijaaDoorCoQ
set_option linter.unusedVariables false
set_option linter.unusedSimpArgs false
namespace CodeMath
def ln : List UInt8 → List UInt8 → List (List UInt8)
  | cur, [] => if cur = [] then [] else [cur]
  | cur, c :: t => if c = 10 ∧ cur.getLast? = some 13 then (cur ++ [10]) :: ln [] t else ln (cur ++ [c]) t
def shortL (l : List UInt8) : Bool := decide ((if 2 ≤ l.length ∧ l.getLast? = some 10 then l.length - 2 else l.length) ≤ 76)
def okS : Nat → Bool → List UInt8 → Bool
  | cur, _, [] => decide (cur ≤ 76)
  | cur, cr, c :: t => if c = 10 ∧ cr = true then decide (cur ≤ 77) && okS 0 false t else okS (cur + 1) (c == 13) t
theorem ln_short : ∀ b cur, okS cur.length (cur.getLast? == some 13) b = true → ∀ l ∈ ln cur b, shortL l = true := by
  intro b
  induction b with
  | nil =>
    intro cur h l hl
    simp only [okS, decide_eq_true_eq] at h
    simp only [ln] at hl
    split at hl
    · simp at hl
    · simp at hl
      subst hl
      unfold shortL
      rw [decide_eq_true_eq]
      split <;> omega
  | cons c t ih =>
    intro cur h l hl
    simp only [okS] at h
    simp only [ln] at hl
    by_cases hc : c = 10 ∧ cur.getLast? = some 13
    · rw [if_pos ⟨hc.1, by rw [hc.2]; rfl⟩, Bool.and_eq_true, decide_eq_true_eq] at h
      rw [if_pos hc] at hl
      rcases List.mem_cons.1 hl with rfl | hl
      · have hne : cur ≠ [] := fun e => by rw [e] at hc; simp at hc
        have : 0 < cur.length := List.length_pos_iff.2 hne
        unfold shortL
        rw [decide_eq_true_eq, if_pos ⟨by simp; omega, by simp⟩]
        simp
        omega
      · exact ih [] h.2 l hl
    · rw [if_neg (by rintro ⟨h1, h2⟩; exact hc ⟨h1, by simpa using h2⟩)] at h
      rw [if_neg hc] at hl
      refine ih (cur ++ [c]) ?_ l hl
      rw [List.length_append]
      simpa using h
theorem okS_app (x rest : List UInt8) : ∀ cur cr, (∀ c ∈ x, c ≠ 10 ∧ c ≠ 13) → (x = [] → cr = false) → okS cur cr (x ++ rest) = okS (cur + x.length) false rest := by
  induction x with
  | nil => intro cur cr h h2; rw [h2 rfl]; rfl
  | cons c t ih =>
    intro cur cr h h2
    obtain ⟨h10, h13⟩ := h c (List.mem_cons_self ..)
    show okS cur cr (c :: (t ++ rest)) = _
    simp only [okS]
    rw [if_neg (fun e => h10 e.1), show (c == 13) = false from by rw [beq_eq_false_iff_ne]; exact h13]
    rw [ih (cur + 1) false (fun d hd => h d (List.mem_cons_of_mem _ hd)) (fun _ => rfl)]
    congr 1
    simp
    omega
theorem okS_crlf (cur : Nat) (rest : List UInt8) (cr : Bool) : okS cur cr (13 :: 10 :: rest) = (decide (cur ≤ 76) && okS 0 false rest) := by
  simp only [okS]
  rw [if_neg (by rintro ⟨h, _⟩; exact absurd h (by decide)), if_pos (by decide)]
  congr 1
  simp
theorem enc_ok : ∀ f n b, b.length < f → n ≤ 76 → n % 4 = 0 → okS n false (encF f n b) = true := by
  intro f
  induction f with
  | zero => intro n b h; omega
  | succ f ih =>
    intro n b h hn h4
    simp only [encF]
    by_cases hb : b = []
    · rw [if_pos hb]
      split
      · rw [okS_crlf]; simp [okS]; exact hn
      · simp [okS]; exact hn
    · have h0 : 0 < b.length := List.length_pos_iff.2 hb
      rw [if_neg hb]
      have hg : ∀ c ∈ grp (b.take 3), c ≠ 10 ∧ c ≠ 13 := fun c hc => by
        have := grp_plain _ c hc
        constructor
        · rintro rfl; exact absurd this (by decide)
        · rintro rfl; exact absurd this (by decide)
      have hd : (b.drop 3).length < f := by rw [List.length_drop]; omega
      by_cases hn76 : n = 76
      · rw [if_pos hn76, if_pos hn76]
        show okS n false (13 :: 10 :: (grp (b.take 3) ++ encF f (0 + 4) (b.drop 3))) = true
        rw [okS_crlf, okS_app _ _ _ _ hg (by intro e; simp [grp] at e), grp_len, ih _ _ hd (by omega) (by omega)]
        simp; exact hn
      · rw [if_neg hn76, if_neg hn76]
        show okS n false (grp (b.take 3) ++ encF f (n + 4) (b.drop 3)) = true
        rw [okS_app _ _ _ _ hg (by intro e; simp [grp] at e), grp_len]
        exact ih _ _ hd (by omega) (by omega)
theorem hex_ne2 : ∀ n : Fin 16, hexN n.val ≠ 13 ∧ hexN n.val ≠ 10 := by decide
theorem tok_plain (c : UInt8) (t : List UInt8) : (∀ x ∈ tok c t, x ≠ 10 ∧ x ≠ 13) ∧ tok c t ≠ [] ∧ (tok c t).length ≤ 3 := by
  have hc256 := c.toNat_lt
  unfold tok
  split
  · rename_i hr
    refine ⟨fun x hx => ?_, by simp, by simp⟩
    simp at hx
    subst hx
    constructor
    · intro e; rw [e] at hr; simp [raw, isBl] at hr
    · intro e; rw [e] at hr; simp [raw, isBl] at hr
  · refine ⟨fun x hx => ?_, by simp [hexed], by simp [hexed]⟩
    simp [hexed] at hx
    rcases hx with rfl | rfl | rfl
    · decide
    · have := hex_ne2 ⟨c.toNat / 16, by omega⟩; exact ⟨this.2, this.1⟩
    · have := hex_ne2 ⟨c.toNat % 16, by omega⟩; exact ⟨this.2, this.1⟩
theorem qp_ok : ∀ f n b, b.length < f → n ≤ 75 → okS n false (qpF f n b) = true := by
  intro f
  induction f with
  | zero => intro n b h; omega
  | succ f ih =>
    intro n b h hn
    cases b with
    | nil => simp [qpF, okS]; omega
    | cons c t =>
      simp only [List.length_cons] at h
      obtain ⟨t1, t2, t3⟩ := tok_plain c t
      simp only [qpF]
      split
      · show okS n false (13 :: 10 :: qpF f 0 (t.drop 1)) = true
        rw [okS_crlf, ih 0 _ (by rw [List.length_drop]; omega) (by omega)]
        simp; omega
      · split
        · show okS n false ([61] ++ (13 :: 10 :: (tok c t ++ qpF f (tok c t).length t))) = true
          rw [okS_app [61] _ _ _ (by intro x hx; simp at hx; subst hx; decide) (by simp), okS_crlf, okS_app _ _ _ _ t1 (fun e => absurd e t2), Nat.zero_add, ih _ t (by omega) (by omega)]
          simp; omega
        · rw [okS_app _ _ _ _ t1 (fun e => absurd e t2), ih _ t (by omega) (by omega)]
theorem enc_short (b : List UInt8) : ∀ l ∈ ln [] (enc 0 b), shortL l = true := ln_short _ [] (show okS 0 false (enc 0 b) = true from enc_ok _ 0 b (by omega) (by omega) (by omega))
theorem qp_short (b : List UInt8) : ∀ l ∈ ln [] (qpF (b.length + 1) 0 b), shortL l = true := ln_short _ [] (show okS 0 false _ = true from qp_ok _ 0 b (by omega) (by omega))
end CodeMath
