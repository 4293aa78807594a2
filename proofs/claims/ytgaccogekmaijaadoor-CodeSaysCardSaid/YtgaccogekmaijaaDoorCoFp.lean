/- Bytes quoted are read, plain: steps. -/
import Derived.Test.YtgaccogekmaijaaDoorCoQ
set_option linter.unusedVariables false
set_option linter.unusedSimpArgs false
namespace CodeMath
def digV (c : UInt8) : Int := match digit c with | some n => (n : Int) | none => -1
def fqS (b : List UInt8) : List UInt8 := fqF (b.length + 1) b
theorem fqS_nil : fqS [] = [] := rfl
theorem fqS_cons (c : UInt8) (t : List UInt8) : fqS (c :: t) = if 0 < blankN (c :: t) then fqS ((c :: t).drop (blankN (c :: t)))
    else if soft (c :: t) then fqS ((c :: t).drop 3)
    else match hexAt (c :: t) with
      | some x => x :: fqS ((c :: t).drop 3)
      | none => c :: fqS t := by
  unfold fqS
  show fqF ((t.length + 1) + 1) (c :: t) = _
  simp only [fqF]
  have hb := lead_le (c :: t)
  have e3 : fqF (t.length + 1) ((c :: t).drop 3) = fqF (((c :: t).drop 3).length + 1) ((c :: t).drop 3) := fqF_mono _ _ _ (by rw [List.length_drop]; simp; omega) (by omega)
  split
  · rename_i h0
    exact fqF_mono _ _ _ (by rw [List.length_drop]; simp; omega) (by omega)
  · rw [e3]
    rfl
theorem fqF_len : ∀ f b, b.length < f → (fqF f b).length ≤ b.length := by
  intro f
  induction f with
  | zero => intro b h; omega
  | succ f ih =>
    intro b h
    cases b with
    | nil => simp [fqF]
    | cons c t =>
      simp only [List.length_cons] at h
      have hb := lead_le (c :: t)
      simp only [fqF]
      have i3 := ih ((c :: t).drop 3) (by rw [List.length_drop]; simp; omega)
      have it := ih t (by omega)
      rw [List.length_drop] at i3
      simp only [List.length_cons] at i3 ⊢
      split
      · have := ih ((c :: t).drop (blankN (c :: t))) (by rw [List.length_drop]; simp; omega)
        rw [List.length_drop] at this
        simp only [List.length_cons] at this
        omega
      · split
        · omega
        · split
          · rename_i x hx
            simp only [List.length_cons]
            have : 3 ≤ t.length + 1 := by
              cases t with
              | nil => simp [hexAt] at hx
              | cons d t => cases t with
                | nil => simp [hexAt] at hx
                | cons e t => simp
            omega
          · simp only [List.length_cons]; omega
theorem fqS_len (b : List UInt8) : (fqS b).length ≤ b.length := fqF_len _ b (by omega)
theorem fqS_qp (b : List UInt8) : fqS (qpF (b.length + 1) 0 b) = b := fq_qp _ 0 b (by omega) _ (by omega)
theorem digV_nonneg (c : UInt8) : 0 ≤ digV c ↔ (digit c).isSome = true := by
  unfold digV
  cases h : digit c with
  | none => simp
  | some n => simp
theorem digit_lt {c : UInt8} {n : Nat} (h : digit c = some n) : n < 16 := by
  unfold digit at h
  have := List.mem_of_find?_eq_some h
  rw [List.mem_range] at this
  exact this
theorem lead_eq (b : List UInt8) : (b.dropWhile (fun c => [32, 9].contains c)).length = b.length - lead b := by
  induction b with
  | nil => rfl
  | cons c t ih =>
    have hl := lead_le t
    cases hb : isBl c with
    | true =>
      have h1 : ([32, 9] : List UInt8).contains c = true := by
        simp [isBl] at hb
        rcases hb with rfl | rfl <;> decide
      simp only [List.dropWhile_cons, h1, lead, hb, if_true]
      rw [ih]; simp
    | false =>
      have h1 : ([32, 9] : List UInt8).contains c = false := by
        simp [isBl] at hb
        simp [hb]
      simp only [List.dropWhile_cons, h1, lead, hb]
      simp
end CodeMath
