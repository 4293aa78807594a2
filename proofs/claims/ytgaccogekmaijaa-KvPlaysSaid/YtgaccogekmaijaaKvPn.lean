/- kv beside the document's: plain. -/
import Derived.Test.YtgaccogekmaijaaKvRT
namespace KvMath
theorem takeL_ok (bs : List UInt8) (n : Nat) (h : n ≤ bs.length) : takeL bs n = bs.take n := by
  unfold takeL
  rw [if_neg (by omega)]
theorem restL_ok (bs : List UInt8) (n : Nat) (h : n ≤ bs.length) : restL bs n = bs.drop n := by
  unfold restL
  rw [if_neg (by omega)]
theorem takeL_short (bs : List UInt8) (n : Nat) (h : bs.length < n) : takeL bs n = [] := by
  unfold takeL
  rw [if_pos h]
theorem restL_short (bs : List UInt8) (n : Nat) (h : bs.length < n) : restL bs n = [] := by
  unfold restL
  rw [if_pos h]
theorem take_rest (bs : List UInt8) (n : Nat) (h : n ≤ bs.length) : takeL bs n ++ restL bs n = bs := by
  rw [takeL_ok _ _ h, restL_ok _ _ h, List.take_append_drop]
theorem num1_rd (l : List UInt8) (h : l.length = 1) : [UInt8.ofNat (rd l)] = l := by
  obtain ⟨a, rfl⟩ : ∃ a, l = [a] := by
    cases l with
    | nil => cases h
    | cons a l => cases l with
      | nil => exact ⟨a, rfl⟩
      | cons b l => simp at h
  simp [rd]
theorem num2_rd (l : List UInt8) (h : l.length = 2) : numB (rd l) 2 = l := by
  obtain ⟨a, b, rfl⟩ : ∃ a b, l = [a, b] := by
    match l, h with
    | [a, b], _ => exact ⟨a, b, rfl⟩
  rw [numB2]
  have ha := a.toNat_lt
  have hb := b.toNat_lt
  simp only [rd, List.foldl_cons, List.foldl_nil, Nat.zero_mul, Nat.zero_add]
  congr 1
  · apply UInt8.toNat.inj
    rw [UInt8.toNat_ofNat']
    omega
  · congr 1
    apply UInt8.toNat.inj
    rw [UInt8.toNat_ofNat']
    omega
theorem num4_rd (l : List UInt8) (h : l.length = 4) : numB (rd l) 4 = l := by
  obtain ⟨a, b, c, d, rfl⟩ : ∃ a b c d, l = [a, b, c, d] := by
    match l, h with
    | [a, b, c, d], _ => exact ⟨a, b, c, d, rfl⟩
  rw [numB4]
  have ha := a.toNat_lt
  have hb := b.toNat_lt
  have hc := c.toNat_lt
  have hd := d.toNat_lt
  simp only [rd, List.foldl_cons, List.foldl_nil, Nat.zero_mul, Nat.zero_add]
  congr 1
  · apply UInt8.toNat.inj
    rw [UInt8.toNat_ofNat']
    omega
  congr 1
  · apply UInt8.toNat.inj
    rw [UInt8.toNat_ofNat']
    omega
  congr 1
  · apply UInt8.toNat.inj
    rw [UInt8.toNat_ofNat']
    omega
  congr 1
  · apply UInt8.toNat.inj
    rw [UInt8.toNat_ofNat']
    omega
theorem rd1_lt (l : List UInt8) (h : l.length ≤ 1) : rd l < 256 := by
  have h1 := rd_lt l
  have h2 : (256 : Nat) ^ l.length ≤ 256 ^ 1 := Nat.pow_le_pow_right (by decide) h
  omega
end KvMath
namespace Go.Proofs.Ytgaccogekmaijaa
open Go.RowKit
/-- what the document reads of a change: none if it has not the form -/
def rput (bs : List UInt8) : Option (PutD × List UInt8) :=
  if 1 < KvMath.rd (bs.take 1) ∨ bs.length < 3 then none
  else if bs.length < KvMath.rd ((bs.drop 1).take 2) + 3 then none
  else if KvMath.rd (bs.take 1) = 0 then some (⟨⟨((bs.drop 3).take (KvMath.rd ((bs.drop 1).take 2))).toArray⟩, [], true⟩, bs.drop (KvMath.rd ((bs.drop 1).take 2) + 3))
  else if (bs.drop (KvMath.rd ((bs.drop 1).take 2) + 3)).length < 4 ∨ 200000 < KvMath.rd ((bs.drop (KvMath.rd ((bs.drop 1).take 2) + 3)).take 4) ∨ (bs.drop (KvMath.rd ((bs.drop 1).take 2) + 3)).length < 4 + KvMath.rd ((bs.drop (KvMath.rd ((bs.drop 1).take 2) + 3)).take 4) then none
  else some (⟨⟨((bs.drop 3).take (KvMath.rd ((bs.drop 1).take 2))).toArray⟩, ((bs.drop (KvMath.rd ((bs.drop 1).take 2) + 3)).drop 4).take (KvMath.rd ((bs.drop (KvMath.rd ((bs.drop 1).take 2) + 3)).take 4)), false⟩, (bs.drop (KvMath.rd ((bs.drop 1).take 2) + 3)).drop (KvMath.rd ((bs.drop (KvMath.rd ((bs.drop 1).take 2) + 3)).take 4) + 4))
/-- a change that is read well -/
theorem putM_form (bs : List UInt8) (hb : bs ≠ []) (h : (putM bs false).2.2 = false) : bs = KvMath.encP (putM bs false).1.ent ++ (putM bs false).2.1 := by
  have hg := putM_good bs false h
  have h0 := List.length_pos_iff.2 hb
  unfold putM at h hg ⊢
  dsimp only at h hg ⊢
  rw [Bool.false_or] at *
  have e1 : decide (bs.length < 1) = false := decide_eq_false (by omega)
  rw [e1, Bool.false_or] at *
  have t1 := KvMath.take_rest bs 1 (by omega)
  have l1 : (KvMath.takeL bs 1).length = 1 := by rw [KvMath.takeL_ok _ _ (by omega), List.length_take]; omega
  generalize KvMath.takeL bs 1 = p1 at *
  generalize KvMath.restL bs 1 = bs1 at *
  have key2 : ∀ {X : Bool}, (decide (bs1.length < 2) || X) = false → 2 ≤ bs1.length := fun hx => by
    have := (Bool.or_eq_false_iff.1 hx).1
    have := of_decide_eq_false this
    omega
  by_cases hk : KvMath.rd p1 = 0
  · rw [if_pos hk] at *
    dsimp only at *
    simp only [Bool.or_eq_false_iff, decide_eq_false_iff_not] at h
    obtain ⟨⟨⟨h2, h3⟩, h4⟩, h5⟩ := h
    have t2 := KvMath.take_rest bs1 2 (by omega)
    have l2 : (KvMath.takeL bs1 2).length = 2 := by rw [KvMath.takeL_ok _ _ (by omega), List.length_take]; omega
    have n2 := KvMath.num2_rd _ l2
    generalize KvMath.takeL bs1 2 = p2 at *
    generalize KvMath.restL bs1 2 = bs2 at *
    have t3 := KvMath.take_rest bs2 (KvMath.rd p2) (by omega)
    have l3 : (KvMath.takeL bs2 (KvMath.rd p2)).length = KvMath.rd p2 := by rw [KvMath.takeL_ok _ _ (by omega), List.length_take]; omega
    generalize KvMath.takeL bs2 (KvMath.rd p2) = p3 at *
    generalize KvMath.restL bs2 (KvMath.rd p2) = bs3 at *
    have e := KvMath.num1_rd p1 l1
    rw [hk] at e
    have hsz : (⟨p3.toArray⟩ : ByteArray).size = KvMath.rd p2 := by rw [← l3]; rfl
    have e2 : KvMath.encP (PutD.ent ⟨⟨p3.toArray⟩, [], true⟩) = p1 ++ p2 ++ p3 := by
      unfold KvMath.encP PutD.ent
      dsimp only
      rw [if_pos rfl, hsz, n2, ← e]
      simp
    rw [e2, ← t1, ← t2, ← t3]
    simp
  · rw [if_neg hk] at *
    dsimp only at *
    simp only [Bool.or_eq_false_iff, decide_eq_false_iff_not] at h
    obtain ⟨⟨⟨⟨⟨h2, h3⟩, h4⟩, h6⟩, h7⟩, h5⟩ := h
    have t2 := KvMath.take_rest bs1 2 (by omega)
    have l2 : (KvMath.takeL bs1 2).length = 2 := by rw [KvMath.takeL_ok _ _ (by omega), List.length_take]; omega
    have n2 := KvMath.num2_rd _ l2
    generalize KvMath.takeL bs1 2 = p2 at *
    generalize KvMath.restL bs1 2 = bs2 at *
    have t3 := KvMath.take_rest bs2 (KvMath.rd p2) (by omega)
    have l3 : (KvMath.takeL bs2 (KvMath.rd p2)).length = KvMath.rd p2 := by rw [KvMath.takeL_ok _ _ (by omega), List.length_take]; omega
    generalize KvMath.takeL bs2 (KvMath.rd p2) = p3 at *
    generalize KvMath.restL bs2 (KvMath.rd p2) = bs3 at *
    have t4 := KvMath.take_rest bs3 4 (by omega)
    have l4 : (KvMath.takeL bs3 4).length = 4 := by rw [KvMath.takeL_ok _ _ (by omega), List.length_take]; omega
    have n4 := KvMath.num4_rd _ l4
    generalize KvMath.takeL bs3 4 = p4 at *
    generalize KvMath.restL bs3 4 = bs4 at *
    have t5 := KvMath.take_rest bs4 (KvMath.rd p4) (by omega)
    have l5 : (KvMath.takeL bs4 (KvMath.rd p4)).length = KvMath.rd p4 := by rw [KvMath.takeL_ok _ _ (by omega), List.length_take]; omega
    generalize KvMath.takeL bs4 (KvMath.rd p4) = p5 at *
    generalize KvMath.restL bs4 (KvMath.rd p4) = bs5 at *
    have e := KvMath.num1_rd p1 l1
    have hk1 : KvMath.rd p1 = 1 := by omega
    rw [hk1] at e
    have hsz : (⟨p3.toArray⟩ : ByteArray).size = KvMath.rd p2 := by rw [← l3]; rfl
    have e2 : KvMath.encP (PutD.ent ⟨⟨p3.toArray⟩, p5, false⟩) = p1 ++ p2 ++ p3 ++ p4 ++ p5 := by
      unfold KvMath.encP PutD.ent
      dsimp only
      rw [if_neg (by decide), hsz, n2, l5, n4, ← e]
      simp
    rw [e2, ← t1, ← t2, ← t3, ← t4, ← t5]
    simp
theorem encB_dec : ∀ n (bs : List UInt8) xs, bs.length ≤ n → decB bs = some xs → KvMath.encB (xs.map PutD.ent) = bs := by
  intro n
  induction n with
  | zero =>
    intro bs xs h1 h2
    have : bs = [] := List.eq_nil_of_length_eq_zero (by omega)
    subst this
    rw [decB_nil] at h2
    injection h2 with h2
    subst h2
    rfl
  | succ n ih =>
    intro bs xs h1 h2
    by_cases hb : bs = []
    · subst hb
      rw [decB_nil] at h2
      injection h2 with h2
      subst h2
      rfl
    · have hlt := putM_lt bs false hb
      cases hbd : (putM bs false).2.2 with
      | true => rw [decB_bad bs hb hbd] at h2; cases h2
      | false =>
        rw [decB_step bs hb hbd] at h2
        obtain ⟨ys, hy, rfl⟩ := Option.map_eq_some_iff.1 h2
        have h3 := ih _ ys (by omega) hy
        have e : KvMath.encB (((putM bs false).1 :: ys).map PutD.ent) = KvMath.encP (putM bs false).1.ent ++ KvMath.encB (ys.map PutD.ent) := by simp [KvMath.encB]
        rw [e, h3, ← putM_form bs hb hbd]
/-- the document's own and the program's, change by change -/
theorem putM_rput (bs : List UInt8) (hb : bs ≠ []) : ((putM bs false).2.2 = false → rput bs = some ((putM bs false).1, (putM bs false).2.1)) ∧ ((putM bs false).2.2 = true → ∀ x r, rput bs = some (x, r) → x.good = false) := by
  have h0 := List.length_pos_iff.2 hb
  unfold putM rput
  dsimp only
  rw [KvMath.takeL_ok bs 1 (by omega), KvMath.restL_ok bs 1 (by omega), show decide (bs.length < 1) = false from decide_eq_false (by omega)]
  generalize KvMath.rd (bs.take 1) = k
  simp only [Bool.false_or]
  have hd1 : (bs.drop 1).length = bs.length - 1 := List.length_drop
  by_cases h3 : bs.length < 3
  · rw [if_pos (show 1 < k ∨ bs.length < 3 from .inr h3), show decide ((bs.drop 1).length < 2) = true from decide_eq_true (by omega)]
    simp only [Bool.true_or]
    constructor
    · intro h
      first | cases h | (split at h <;> cases h)
    · intro _ x r h
      cases h
  · rw [KvMath.takeL_ok _ 2 (by omega), KvMath.restL_ok _ 2 (by omega), show decide ((bs.drop 1).length < 2) = false from decide_eq_false (by omega)]
    generalize KvMath.rd ((bs.drop 1).take 2) = n
    simp only [Bool.false_or]
    have hd3 : (bs.drop 3).length = bs.length - 3 := List.length_drop
    rw [show (bs.drop 1).drop 2 = bs.drop 3 by rw [List.drop_drop]]
    by_cases hn : bs.length < n + 3
    · rw [show decide ((bs.drop 3).length < n) = true from decide_eq_true (by omega)]
      simp only [Bool.true_or]
      constructor
      · intro h
        first | cases h | (split at h <;> cases h)
      · intro _ x r h
        rw [if_pos hn] at h
        split at h <;> cases h
    · rw [KvMath.takeL_ok _ n (by omega), KvMath.restL_ok _ n (by omega), show decide ((bs.drop 3).length < n) = false from decide_eq_false (by omega)]
      simp only [Bool.false_or]
      rw [show (bs.drop 3).drop n = bs.drop (n + 3) by rw [List.drop_drop, Nat.add_comm]]
      generalize (bs.drop 3).take n = key
      by_cases hk : k = 0
      · rw [if_pos hk, if_neg (by omega), if_neg hn, if_pos hk]
        subst hk
        dsimp only
        simp only [show decide (1 < 0) = false from rfl, Bool.false_or]
        constructor
        · intro _
          first | rfl | trivial
        · intro h x r e
          injection e with e
          injection e with e1 e2
          subst e1
          simpa using h
      · rw [if_neg hk]
        dsimp only
        by_cases hk1 : 1 < k
        · rw [if_pos (.inl hk1)]
          constructor
          · intro h
            simp [hk1] at h
          · intro _ x r h
            cases h
        · rw [if_neg (by omega), if_neg hn, if_neg hk, show decide (1 < k) = false from decide_eq_false hk1]
          generalize bs.drop (n + 3) = bs3
          by_cases h4 : bs3.length < 4
          · rw [if_pos (.inl h4), show decide (bs3.length < 4) = true from decide_eq_true h4]
            simp only [Bool.true_or]
            constructor
            · intro h; cases h
            · intro _ x r h; cases h
          · rw [KvMath.takeL_ok _ 4 (by omega), KvMath.restL_ok _ 4 (by omega), show decide (bs3.length < 4) = false from decide_eq_false h4]
            generalize KvMath.rd (bs3.take 4) = m
            simp only [Bool.false_or]
            have hd4 : (bs3.drop 4).length = bs3.length - 4 := List.length_drop
            by_cases hm : bs3.length < 4 + m
            · rw [if_pos (.inr (.inr hm)), show decide ((bs3.drop 4).length < m) = true from decide_eq_true (by omega)]
              simp only [Bool.true_or]
              constructor
              · intro h; cases h
              · intro _ x r h; cases h
            · rw [KvMath.takeL_ok _ m (by omega), KvMath.restL_ok _ m (by omega), show decide ((bs3.drop 4).length < m) = false from decide_eq_false (by omega)]
              simp only [Bool.false_or, Bool.or_false]
              have hvl : ((bs3.drop 4).take m).length = m := by rw [List.length_take]; omega
              rw [show (bs3.drop 4).drop m = bs3.drop (m + 4) by rw [List.drop_drop, Nat.add_comm]]
              generalize (bs3.drop 4).take m = val at hvl ⊢
              by_cases hbig : 200000 < m
              · rw [if_pos (.inr (.inl hbig))]
                constructor
                · intro h
                  have h : PutD.good ⟨⟨key.toArray⟩, val, false⟩ = true := by simpa using h
                  have := ((PutD.good_iff _).1 h).2.2.1
                  dsimp only at this
                  omega
                · intro _ x r h; cases h
              · rw [if_neg (by omega)]
                constructor
                · intro _
                  rfl
                · intro h x r e
                  injection e with e
                  injection e with e1 e2
                  subst e1
                  simpa using h
theorem rput_lt (bs : List UInt8) (hb : bs ≠ []) : ∀ x r, rput bs = some (x, r) → r.length < bs.length := by
  have h0 := List.length_pos_iff.2 hb
  intro x r h
  unfold rput at h
  split at h
  · cases h
  · split at h
    · cases h
    · split at h
      · injection h with h
        injection h with h1 h2
        rw [← h2, List.length_drop]
        omega
      · split at h
        · cases h
        · injection h with h
          injection h with h1 h2
          rw [← h2, List.length_drop, List.length_drop]
          omega
def refM : Nat → List UInt8 → Option (List PutD)
  | 0, _ => some []
  | n + 1, bs => if bs = [] then some [] else match rput bs with
    | none => none
    | some (x, r) => (refM n r).map (x :: ·)
def refB (bs : List UInt8) : Option (List PutD) := refM bs.length bs
theorem refM_mono : ∀ n m bs, bs.length ≤ n → bs.length ≤ m → refM n bs = refM m bs := by
  intro n
  induction n with
  | zero =>
    intro m bs h1 h2
    have : bs = [] := List.eq_nil_of_length_eq_zero (by omega)
    subst this
    cases m <;> simp [refM]
  | succ n ih =>
    intro m bs h1 h2
    by_cases hb : bs = []
    · subst hb
      cases m <;> simp [refM]
    · cases m with
      | zero => exact absurd (List.eq_nil_of_length_eq_zero (by omega)) hb
      | succ m =>
        simp only [refM]
        rw [if_neg hb, if_neg hb]
        cases h : rput bs with
        | none => rfl
        | some p =>
          obtain ⟨x, r⟩ := p
          have hlt := rput_lt bs hb x r h
          dsimp only
          rw [ih m r (by omega) (by omega)]
theorem refB_nil : refB [] = some [] := rfl
theorem refB_none (bs : List UInt8) (hb : bs ≠ []) (h : rput bs = none) : refB bs = none := by
  unfold refB
  obtain ⟨n, hn⟩ : ∃ n, bs.length = n + 1 := ⟨bs.length - 1, by have := List.length_pos_iff.2 hb; omega⟩
  rw [hn]
  simp only [refM]
  rw [if_neg hb, h]
theorem refB_step (bs : List UInt8) (hb : bs ≠ []) (x : PutD) (r : List UInt8) (h : rput bs = some (x, r)) : refB bs = (refB r).map (x :: ·) := by
  have hlt := rput_lt bs hb x r h
  unfold refB
  obtain ⟨n, hn⟩ : ∃ n, bs.length = n + 1 := ⟨bs.length - 1, by have := List.length_pos_iff.2 hb; omega⟩
  rw [hn]
  simp only [refM]
  rw [if_neg hb, h]
  dsimp only
  rw [refM_mono n _ _ (by omega) (Nat.le_refl _)]
/-- the program reads just what the document reads and lets be -/
theorem dec_ref : ∀ n (bs : List UInt8) xs, bs.length ≤ n → (decB bs = some xs ↔ refB bs = some xs ∧ xs.all PutD.good = true) := by
  intro n
  induction n with
  | zero =>
    intro bs xs h1
    have : bs = [] := List.eq_nil_of_length_eq_zero (by omega)
    subst this
    rw [decB_nil, refB_nil]
    constructor
    · intro h; refine ⟨h, ?_⟩; injection h with h; subst h; rfl
    · intro h; exact h.1
  | succ n ih =>
    intro bs xs h1
    by_cases hb : bs = []
    · subst hb
      rw [decB_nil, refB_nil]
      constructor
      · intro h; refine ⟨h, ?_⟩; injection h with h; subst h; rfl
      · intro h; exact h.1
    · have hlt := putM_lt bs false hb
      obtain ⟨k1, k2⟩ := putM_rput bs hb
      cases hbd : (putM bs false).2.2 with
      | true =>
        rw [decB_bad bs hb hbd]
        constructor
        · intro h; cases h
        · rintro ⟨h2, h3⟩
          cases hp : rput bs with
          | none => rw [refB_none bs hb hp] at h2; cases h2
          | some p =>
            obtain ⟨x, r⟩ := p
            rw [refB_step bs hb x r hp] at h2
            obtain ⟨ys, hy, rfl⟩ := Option.map_eq_some_iff.1 h2
            rw [List.all_cons, k2 hbd x r hp] at h3
            cases h3
      | false =>
        rw [decB_step bs hb hbd, refB_step bs hb _ _ (k1 hbd)]
        have hg := putM_good bs false hbd
        constructor
        · intro h2
          obtain ⟨ys, hy, rfl⟩ := Option.map_eq_some_iff.1 h2
          have h3 := (ih _ ys (by omega)).1 hy
          refine ⟨by rw [h3.1]; rfl, by rw [List.all_cons, hg, h3.2]; rfl⟩
        · rintro ⟨h2, h3⟩
          obtain ⟨ys, hy, rfl⟩ := Option.map_eq_some_iff.1 h2
          rw [List.all_cons, Bool.and_eq_true] at h3
          rw [(ih _ ys (by omega)).2 ⟨hy, h3.2⟩]
          rfl
/-- when the document lets a table be -/
theorem load_ref (b : List UInt8) (xs : List PutD) (h : decB b = some xs) : okTo xs xs.length ↔ bytesB (KvMath.all [] (xs.map PutD.ent)) = b := by
  have hg := (decB_good _ b xs (Nat.le_refl _) h).1
  have he := encB_dec _ b xs (Nat.le_refl _) h
  have hk := all_keys xs hg [] (fun p hp => by cases hp)
  constructor
  · intro hok
    obtain ⟨L, hL⟩ : ∃ L : List KvMath.Ent, xs = L.map toPut := ⟨xs.map fun x => (x.key, x.val), by
      rw [List.map_map]
      have : ∀ (ys : List PutD), (∀ y ∈ ys, y.gone = false) → ys = ys.map (toPut ∘ fun x => (x.key, x.val)) := by
        intro ys
        induction ys with
        | nil => intro _; rfl
        | cons y ys ih =>
          intro hy
          rw [List.map_cons, ← ih fun z hz => hy z (List.mem_cons_of_mem _ hz)]
          have := hy y (List.mem_cons_self ..)
          obtain ⟨k, v, g⟩ := y
          dsimp only at this
          subst this
          rfl
      exact this xs fun y hy => by
        obtain ⟨j, hj, rfl⟩ := List.getElem_of_mem hy
        exact (hok j hj hj).1⟩
    have hr : KvMath.Rise L := by
      have key : ∀ (M : List KvMath.Ent), (∀ i j, (hi : i < M.length) → (hj : j < M.length) → i + 1 = j → KvMath.bl M[i].1 M[j].1 = true) → KvMath.Rise M := by
        intro M
        induction M with
        | nil => intro _; exact List.Pairwise.nil
        | cons p M ih =>
          intro h
          have hM := ih fun i j hi hj e => h (i + 1) (j + 1) (by simp; omega) (by simp; omega) (by omega)
          refine List.pairwise_cons.2 ⟨?_, hM⟩
          intro q hq
          cases M with
          | nil => cases hq
          | cons p2 M =>
            have h01 : KvMath.bl p.1 p2.1 = true := h 0 1 (by simp) (by simp) rfl
            rcases List.mem_cons.1 hq with rfl | hq
            · exact h01
            · exact KvMath.bl_trans h01 (KvMath.Rise.head hM q hq)
      refine key L fun i j hi hj e => ?_
      have hjx : j < xs.length := by rw [hL, List.length_map]; exact hj
      have hix : i < xs.length := by omega
      have h1 := (hok j hjx hjx).2 i hix e
      have e1 : xs[i].key = L[i].1 := by simp only [hL, List.getElem_map]; rfl
      have e2 : xs[j].key = L[j].1 := by simp only [hL, List.getElem_map]; rfl
      rw [e1, e2] at h1
      exact h1
    rw [hL, all_rise L hr, bytesB_good L ?_, ← hL, he]
    have h2 := hk
    rw [hL, all_rise L hr] at h2
    exact h2
  · intro hb
    have h1 := decB_bytes _ hk
    rw [hb, h] at h1
    injection h1 with h1
    rw [h1]
    exact okTo_rise _ (KvMath.Rise.all List.Pairwise.nil _)
end Go.Proofs.Ytgaccogekmaijaa
