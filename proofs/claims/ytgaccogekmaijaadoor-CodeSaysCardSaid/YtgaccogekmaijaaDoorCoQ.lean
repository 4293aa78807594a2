/- Bytes quoted, plain. -/
set_option linter.unusedVariables false
set_option linter.unusedSimpArgs false
namespace CodeMath
def crlfAt : List UInt8 → Bool
  | c :: d :: _ => c == 13 && d == 10
  | _ => false
def hexN (n : Nat) : UInt8 := [48,49,50,51,52,53,54,55,56,57,65,66,67,68,69,70].getD n 0
def isBl (c : UInt8) : Bool := c == 32 || c == 9
/-- is a byte written as it is? what stands behind it is t -/
def raw (c : UInt8) (t : List UInt8) : Bool := (decide (32 < c.toNat ∧ c.toNat ≤ 126) && !(c == 61)) || (isBl c && !(t.isEmpty || crlfAt t))
def hexed (c : UInt8) : List UInt8 := [61, hexN (c.toNat / 16), hexN (c.toNat % 16)]
def tok (c : UInt8) (t : List UInt8) : List UInt8 := if raw c t then [c] else hexed c
def qpF : Nat → Nat → List UInt8 → List UInt8
  | 0, _, _ => []
  | _, _, [] => []
  | f + 1, n, c :: t => if crlfAt (c :: t) then [13, 10] ++ qpF f 0 (t.drop 1)
    else if 75 < n + (tok c t).length then [61, 13, 10] ++ (tok c t ++ qpF f (tok c t).length t)
    else tok c t ++ qpF f (n + (tok c t).length) t
def lead : List UInt8 → Nat
  | [] => 0
  | c :: t => if isBl c then lead t + 1 else 0
def blankN (b : List UInt8) : Nat := if lead b < b.length ∧ crlfAt (b.drop (lead b)) = false then 0 else lead b
def digit (c : UInt8) : Option Nat := (List.range 16).find? fun n => hexN n == (if 97 ≤ c.toNat ∧ c.toNat ≤ 102 then UInt8.ofNat (c.toNat - 32) else c)
def soft (b : List UInt8) : Bool := match b with | c :: d :: e :: _ => c == 61 && d == 13 && e == 10 | _ => false
def hexAt (b : List UInt8) : Option UInt8 := match b with
  | c :: d :: e :: _ => if c = 61 then (match digit d, digit e with | some x, some y => some (UInt8.ofNat (x * 16 + y)) | _, _ => none) else none
  | _ => none
def fqF : Nat → List UInt8 → List UInt8
  | 0, _ => []
  | _, [] => []
  | f + 1, c :: t => if 0 < blankN (c :: t) then fqF f ((c :: t).drop (blankN (c :: t)))
    else if soft (c :: t) then fqF f ((c :: t).drop 3)
    else match hexAt (c :: t) with
      | some x => x :: fqF f ((c :: t).drop 3)
      | none => c :: fqF f t
theorem lead_le (b : List UInt8) : lead b ≤ b.length := by
  induction b with
  | nil => exact Nat.le_refl _
  | cons c t ih => simp only [lead]; split <;> simp; omega
theorem blankN_nb (c : UInt8) (t : List UInt8) (h : isBl c = false) : blankN (c :: t) = 0 := by
  unfold blankN
  have e : lead (c :: t) = 0 := by simp [lead, h]
  rw [e]
  split <;> rfl
/-- the blanks ahead are followed by something that is no end of a line -/
def okB (b : List UInt8) : Prop := lead b < b.length ∧ crlfAt (b.drop (lead b)) = false
theorem okB_nb (c : UInt8) (t : List UInt8) (h : isBl c = false) (h2 : c ≠ 13) : okB (c :: t) := by
  have e : lead (c :: t) = 0 := by simp [lead, h]
  refine ⟨by rw [e]; simp, ?_⟩
  rw [e, List.drop_zero]
  cases t with
  | nil => rfl
  | cons d t => simp [crlfAt, h2]
theorem okB_cons (c : UInt8) (t : List UInt8) (h : isBl c = true) (ht : okB t) : okB (c :: t) := by
  have e : lead (c :: t) = lead t + 1 := by simp [lead, h]
  obtain ⟨h1, h2⟩ := ht
  exact ⟨by rw [e]; simp; exact h1, by rw [e]; simpa using h2⟩
theorem blankN_ok (b : List UInt8) (h : okB b) : blankN b = 0 := by
  unfold blankN
  exact if_pos h
theorem hex_ne : ∀ n : Fin 16, hexN n.val ≠ 13 ∧ hexN n.val ≠ 61 := by decide
theorem hex_digit : ∀ n : Fin 16, digit (hexN n.val) = some n.val := by decide
theorem qp_okB : ∀ f n t, t.length < f → t ≠ [] → crlfAt t = false → okB (qpF f n t) := by
  intro f
  induction f with
  | zero => intro n t h; omega
  | succ f ih =>
    intro n t h hne hc
    cases t with
    | nil => exact absurd rfl hne
    | cons c t =>
      simp only [qpF]
      rw [if_neg (by rw [hc]; decide)]
      split
      · exact okB_nb 61 _ (by decide) (by decide)
      · unfold tok
        split
        · rename_i hr
          cases hb : isBl c with
          | false =>
            refine okB_nb c _ hb ?_
            intro e
            rw [e] at hr
            simp [raw, isBl] at hr
          | true =>
            simp only [raw, hb, Bool.true_and, Bool.or_eq_true, Bool.and_eq_true, Bool.not_eq_true', Bool.or_eq_false_iff] at hr
            rcases hr with ⟨h1, h2⟩ | ⟨h1, h2⟩
            · exfalso
              rw [decide_eq_true_eq] at h1
              simp [isBl] at hb
              rcases hb with rfl | rfl
              · exact absurd h1.1 (by decide)
              · exact absurd h1.1 (by decide)
            · refine okB_cons c _ hb (ih _ t (by simp at h; omega) ?_ h2)
              intro e
              rw [e] at h1
              simp at h1
        · exact okB_nb 61 _ (by decide) (by decide)
theorem soft_go (f : Nat) (x : List UInt8) (h : x.length + 3 < f + 1) : fqF (f + 1) ([61, 13, 10] ++ x) = fqF f x := by
  show fqF (f + 1) (61 :: 13 :: 10 :: x) = fqF f x
  simp only [fqF]
  rw [blankN_nb 61 _ (by decide), if_neg (by omega), if_pos (by rfl)]
  rfl
theorem fqF_mono : ∀ f g b, b.length < f → b.length < g → fqF f b = fqF g b := by
  intro f
  induction f with
  | zero => intro g b h; omega
  | succ f ih =>
    intro g b h1 h2
    cases g with
    | zero => omega
    | succ g =>
      cases b with
      | nil => rfl
      | cons c t =>
        simp only [List.length_cons] at h1 h2
        simp only [fqF]
        split
        · rename_i hb
          exact ih g _ (by rw [List.length_drop]; simp; omega) (by rw [List.length_drop]; simp; omega)
        · split
          · exact ih g _ (by rw [List.length_drop]; simp; omega) (by rw [List.length_drop]; simp; omega)
          · split
            · rw [ih g _ (by rw [List.length_drop]; simp; omega) (by rw [List.length_drop]; simp; omega)]
            · rw [ih g t (by omega) (by omega)]
theorem fq_qp : ∀ f n b, b.length < f → ∀ g, (qpF f n b).length < g → fqF g (qpF f n b) = b := by
  intro f
  induction f with
  | zero => intro n b h; omega
  | succ f ih =>
    intro n b h g hg
    cases b with
    | nil =>
      simp only [qpF] at hg ⊢
      cases g with
      | zero => simp at hg
      | succ g => rfl
    | cons c t =>
      simp only [List.length_cons] at h
      have key : ∀ m g, (tok c t ++ qpF f m t).length < g → crlfAt (c :: t) = false → fqF g (tok c t ++ qpF f m t) = c :: t := by
        intro m g hg hc
        cases g with
        | zero => omega
        | succ g =>
          unfold tok at hg ⊢
          cases hr : raw c t with
          | true =>
            rw [hr, if_pos rfl] at hg
            rw [if_pos rfl]
            show fqF (g + 1) (c :: qpF f m t) = c :: t
            have hlen : (qpF f m t).length < g := by simp at hg; omega
            have hbn : blankN (c :: qpF f m t) = 0 := by
              cases hb : isBl c with
              | false => exact blankN_nb c _ hb
              | true =>
                simp only [raw, hb, Bool.true_and, Bool.or_eq_true, Bool.and_eq_true, Bool.not_eq_true', Bool.or_eq_false_iff] at hr
                rcases hr with ⟨h1, h2⟩ | ⟨h1, h2⟩
                · exfalso
                  rw [decide_eq_true_eq] at h1
                  simp [isBl] at hb
                  rcases hb with rfl | rfl
                  · exact absurd h1.1 (by decide)
                  · exact absurd h1.1 (by decide)
                · exact blankN_ok _ (okB_cons c _ hb (qp_okB f m t (by omega) (by intro e; rw [e] at h1; simp at h1) h2))
            have hne : c ≠ 61 := by
              intro e
              rw [e] at hr
              simp [raw, isBl] at hr
            simp only [fqF]
            rw [hbn, if_neg (by omega)]
            have hs : soft (c :: qpF f m t) = false := by
              unfold soft
              split
              · rename_i e; injection e with e1 e2; subst e1; simp [hne]
              · rfl
            have hx : hexAt (c :: qpF f m t) = none := by
              unfold hexAt
              split
              · rename_i e; injection e with e1 e2; subst e1; rw [if_neg hne]
              · rfl
            rw [hs, hx, ih m t (by omega) g hlen]
            rfl
          | false =>
            rw [hr, if_neg (by decide)] at hg
            rw [if_neg (by decide)]
            have hlen : (qpF f m t).length < g := by simp [hexed] at hg; omega
            have hc256 := c.toNat_lt
            have d1 := hex_digit ⟨c.toNat / 16, by omega⟩
            have d2 := hex_digit ⟨c.toNat % 16, by omega⟩
            have n1 := hex_ne ⟨c.toNat / 16, by omega⟩
            simp only at d1 d2 n1
            show fqF (g + 1) (61 :: hexN (c.toNat / 16) :: hexN (c.toNat % 16) :: qpF f m t) = c :: t
            simp only [fqF]
            rw [blankN_nb 61 _ (by decide), if_neg (by omega)]
            have hs : soft (61 :: hexN (c.toNat / 16) :: hexN (c.toNat % 16) :: qpF f m t) = false := by
              simp [soft, n1.1]
            have hx : hexAt (61 :: hexN (c.toNat / 16) :: hexN (c.toNat % 16) :: qpF f m t) = some c := by
              simp only [hexAt, d1, d2, if_true]
              congr 1
              apply UInt8.toNat_inj.1
              rw [UInt8.toNat_ofNat']
              omega
            rw [hs, hx]
            show c :: fqF g (qpF f m t) = c :: t
            rw [ih m t (by omega) g hlen]
      simp only [qpF] at hg ⊢
      cases hc : crlfAt (c :: t) with
      | true =>
        rw [hc, if_pos rfl] at hg
        rw [if_pos rfl]
        cases t with
        | nil => simp [crlfAt] at hc
        | cons d t =>
          simp [crlfAt] at hc
          obtain ⟨rfl, rfl⟩ := hc
          simp only [List.drop_succ_cons, List.drop_zero, List.cons_append, List.nil_append, List.length_cons] at hg ⊢
          match g, hg with
          | g + 2, hg =>
            simp only [fqF]
            rw [blankN_nb 13 _ (by decide), if_neg (by omega), show soft (13 :: 10 :: qpF f 0 t) = false from by cases qpF f 0 t <;> rfl, show hexAt (13 :: 10 :: qpF f 0 t) = none from by cases qpF f 0 t <;> rfl]
            simp only [Bool.false_eq_true, if_false]
            rw [blankN_nb 10 _ (by decide), if_neg (by omega)]
            have hs : soft (10 :: qpF f 0 t) = false := by
              unfold soft
              split
              · rename_i e; injection e with e1 e2; subst e1; rfl
              · rfl
            have hx : hexAt (10 :: qpF f 0 t) = none := by
              unfold hexAt
              split
              · rename_i e; injection e with e1 e2; subst e1; rfl
              · rfl
            rw [hs, hx]
            simp only [Bool.false_eq_true, if_false]
            rw [ih 0 t (by simp at h; omega) g (by omega)]
      | false =>
        rw [hc, if_neg (by decide)] at hg
        rw [if_neg (by decide)]
        split
        · rename_i hs
          rw [if_pos hs] at hg
          cases g with
          | zero => omega
          | succ g =>
            rw [soft_go g _ (by simp only [List.length_append, List.length_cons, List.length_nil] at hg ⊢; omega)]
            exact key _ g (by simp only [List.length_append, List.length_cons, List.length_nil] at hg ⊢; omega) hc
        · rename_i hs
          rw [if_neg hs] at hg
          exact key _ g hg hc
end CodeMath
