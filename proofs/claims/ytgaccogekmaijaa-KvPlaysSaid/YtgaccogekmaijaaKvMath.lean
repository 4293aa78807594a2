/- Tables of keys that rise, as plain data. -/
import Derived.Lib.Strings
namespace KvMath
open Go
abbrev Ent := ByteArray × List UInt8
def bl (a b : ByteArray) : Bool := Op.bytesLess a.toList b.toList
theorem bytesLess_eq : ∀ (x y : List UInt8), Op.bytesLess x y = decide (x < y)
  | [], [] => by simp [Op.bytesLess]
  | _ :: _, [] => by simp [Op.bytesLess]
  | [], _ :: _ => by simp [Op.bytesLess]
  | a :: x, b :: y => by
    rw [Op.bytesLess, bytesLess_eq x y]
    simp only [List.cons_lt_cons_iff]
    by_cases h1 : a < b <;> by_cases h2 : a = b <;> by_cases h3 : x < y <;> simp [h1, h2, h3]
theorem bl_iff (a b : ByteArray) : bl a b = true ↔ a.toList < b.toList := by
  unfold bl
  rw [bytesLess_eq, decide_eq_true_iff]
theorem bl_irrefl (a : ByteArray) : bl a a = false := by
  cases h : bl a a with
  | false => rfl
  | true => exact absurd ((bl_iff a a).1 h) (List.lt_irrefl _)
theorem bl_trans {a b c : ByteArray} (h1 : bl a b = true) (h2 : bl b c = true) : bl a c = true :=
  (bl_iff a c).2 (List.lt_trans ((bl_iff a b).1 h1) ((bl_iff b c).1 h2))
theorem ba_ext {a b : ByteArray} (h : a.toList = b.toList) : a = b := by
  apply ByteArray.ext
  apply Array.ext'
  rw [← Lib.toList_data, ← Lib.toList_data, h]
theorem bl_tri (a b : ByteArray) : bl a b = true ∨ a = b ∨ bl b a = true := by
  by_cases h1 : a.toList < b.toList
  · exact .inl ((bl_iff a b).2 h1)
  · by_cases h2 : b.toList < a.toList
    · exact .inr (.inr ((bl_iff b a).2 h2))
    · exact .inr (.inl (ba_ext (List.le_antisymm (List.not_lt.1 h2) (List.not_lt.1 h1))))
theorem bl_asymm {a b : ByteArray} (h : bl a b = true) : bl b a = false := by
  cases h2 : bl b a with
  | false => rfl
  | true => have := bl_trans h h2; rw [bl_irrefl] at this; cases this
theorem bl_ne {a b : ByteArray} (h : bl a b = true) : a ≠ b := fun e => by rw [e, bl_irrefl] at h; cases h
/-- a table: keys rise -/
def Rise (L : List Ent) : Prop := L.Pairwise fun p q => bl p.1 q.1 = true
def low (L : List Ent) (k : ByteArray) : List Ent := L.filter fun p => bl p.1 k
def high (L : List Ent) (k : ByteArray) : List Ent := L.filter fun p => bl k p.1
def at_ (L : List Ent) (k : ByteArray) : List Ent := L.filter fun p => decide (p.1 = k)
def pos (L : List Ent) (k : ByteArray) : Nat := (low L k).length
def get (L : List Ent) (k : ByteArray) : Option (List UInt8) := (L.find? fun p => decide (p.1 = k)).map (·.2)
/-- one change -/
def one (L : List Ent) (k : ByteArray) (v : List UInt8) (gone : Bool) : List Ent := low L k ++ (if gone then [] else [(k, v)]) ++ high L k
theorem Rise.tail {p : Ent} {L : List Ent} (h : Rise (p :: L)) : Rise L := (List.pairwise_cons.1 h).2
theorem Rise.head {p : Ent} {L : List Ent} (h : Rise (p :: L)) : ∀ q ∈ L, bl p.1 q.1 = true := (List.pairwise_cons.1 h).1
theorem filter_all {α : Type} {l : List α} {f : α → Bool} (h : ∀ x ∈ l, f x = true) : l.filter f = l := List.filter_eq_self.2 h
theorem filter_none {α : Type} {l : List α} {f : α → Bool} (h : ∀ x ∈ l, f x = false) : l.filter f = [] := List.filter_eq_nil_iff.2 (fun x hx => by rw [h x hx]; simp)
/-- a table falls into what is below a key, at it, above it -/
theorem split3 (L : List Ent) (k : ByteArray) (h : Rise L) : L = low L k ++ at_ L k ++ high L k := by
  induction L with
  | nil => rfl
  | cons p L ih =>
    have ih := ih h.tail
    have hh := h.head
    rcases bl_tri p.1 k with h1 | h1 | h1
    · have e1 : low (p :: L) k = p :: low L k := by simp [low, h1]
      have e2 : at_ (p :: L) k = at_ L k := by simp [at_, bl_ne h1]
      have e3 : high (p :: L) k = high L k := by simp [high, bl_asymm h1]
      rw [e1, e2, e3, List.cons_append, List.cons_append, ← ih]
    · subst h1
      have e1 : low (p :: L) p.1 = [] := filter_none (fun x hx => by
        rcases List.mem_cons.1 hx with rfl | hx
        · exact bl_irrefl _
        · exact bl_asymm (hh x hx))
      have e2 : at_ (p :: L) p.1 = [p] := by
        simp only [at_, List.filter_cons, decide_true, if_true]
        rw [filter_none (fun x hx => by exact decide_eq_false <| fun e => bl_ne (hh x hx) e.symm)]
      have e3 : high (p :: L) p.1 = L := by
        simp only [high, List.filter_cons, bl_irrefl]
        exact filter_all hh
      rw [e1, e2, e3]
      rfl
    · have e1 : low (p :: L) k = [] := filter_none (fun x hx => by
        rcases List.mem_cons.1 hx with rfl | hx
        · exact bl_asymm h1
        · exact bl_asymm (bl_trans h1 (hh x hx)))
      have e2 : at_ (p :: L) k = [] := filter_none (fun x hx => by
        rcases List.mem_cons.1 hx with rfl | hx
        · exact decide_eq_false fun e => bl_ne h1 e.symm
        · exact decide_eq_false fun e => bl_ne (bl_trans h1 (hh x hx)) e.symm)
      have e3 : high (p :: L) k = p :: L := filter_all (fun x hx => by
        rcases List.mem_cons.1 hx with rfl | hx
        · exact h1
        · exact bl_trans h1 (hh x hx))
      rw [e1, e2, e3]
      rfl
theorem at_len (L : List Ent) (k : ByteArray) (h : Rise L) : (at_ L k).length ≤ 1 := by
  induction L with
  | nil => exact Nat.zero_le _
  | cons p L ih =>
    by_cases e : p.1 = k
    · subst e
      have : at_ (p :: L) p.1 = [p] := by
        simp only [at_, List.filter_cons, decide_true, if_true]
        rw [filter_none (fun x hx => by exact decide_eq_false <| fun e => bl_ne (h.head x hx) e.symm)]
      rw [this]
      exact Nat.le_refl _
    · have : at_ (p :: L) k = at_ L k := by simp [at_, e]
      rw [this]
      exact ih h.tail
theorem Rise.filter {L : List Ent} (h : Rise L) (f : Ent → Bool) : Rise (L.filter f) := List.Pairwise.filter f h
theorem mem_low {L : List Ent} {k : ByteArray} {p : Ent} : p ∈ low L k ↔ p ∈ L ∧ bl p.1 k = true := List.mem_filter
theorem mem_high {L : List Ent} {k : ByteArray} {p : Ent} : p ∈ high L k ↔ p ∈ L ∧ bl k p.1 = true := List.mem_filter
theorem Rise.one {L : List Ent} (h : Rise L) (k : ByteArray) (v : List UInt8) (gone : Bool) : Rise (one L k v gone) := by
  unfold KvMath.one
  refine List.pairwise_append.2 ⟨List.pairwise_append.2 ⟨h.filter _, ?_, ?_⟩, h.filter _, ?_⟩
  · cases gone <;> simp
  · intro p hp q hq
    cases gone
    · simp at hq
      subst hq
      exact (mem_low.1 hp).2
    · simp at hq
  · intro p hp q hq
    have hq := (mem_high.1 hq).2
    rcases List.mem_append.1 hp with hp | hp
    · exact bl_trans (mem_low.1 hp).2 hq
    · cases gone
      · simp at hp
        subst hp
        exact hq
      · simp at hp
/-- at a place below the keys' number, less holds just ahead of pos -/
theorem less_pos (L : List Ent) (k : ByteArray) (h : Rise L) (t : Nat) (ht : t < L.length) : bl L[t].1 k = decide (t < pos L k) := by
  have hs := split3 L k h
  by_cases hp : t < pos L k
  · have : L[t] = (low L k)[t]'hp := by
      have e : L[t]? = (low L k)[t]? := by
        conv => lhs; rw [hs]
        rw [List.append_assoc, List.getElem?_append_left hp]
      rw [List.getElem?_eq_getElem ht, List.getElem?_eq_getElem hp] at e
      exact Option.some.inj e
    rw [this, decide_eq_true hp]
    exact (mem_low.1 (List.getElem_mem hp)).2
  · have hm : L[t] ∈ at_ L k ++ high L k := by
      have e : L[t]? = (at_ L k ++ high L k)[t - pos L k]? := by
        conv => lhs; rw [hs]
        rw [List.append_assoc, List.getElem?_append_right (by unfold pos at hp; omega)]
        rfl
      rw [List.getElem?_eq_getElem ht] at e
      exact List.mem_of_getElem? e.symm
    rw [decide_eq_false hp]
    rcases List.mem_append.1 hm with hm | hm
    · have := (List.mem_filter.1 hm).2
      rw [decide_eq_true_iff] at this
      rw [this]
      exact bl_irrefl _
    · exact bl_asymm (mem_high.1 hm).2
theorem take_pos (L : List Ent) (k : ByteArray) (h : Rise L) : L.take (pos L k) = low L k := by
  have hs := split3 L k h
  have := List.take_left' (l₁ := low L k) (l₂ := at_ L k ++ high L k) (i := pos L k) rfl
  rwa [← List.append_assoc, ← hs] at this
theorem drop_pos (L : List Ent) (k : ByteArray) (h : Rise L) : L.drop (pos L k) = at_ L k ++ high L k := by
  have hs := split3 L k h
  have := List.drop_left' (l₁ := low L k) (l₂ := at_ L k ++ high L k) (i := pos L k) rfl
  rwa [← List.append_assoc, ← hs] at this
theorem pos_le (L : List Ent) (k : ByteArray) : pos L k ≤ L.length := List.length_filter_le _ _
/-- is a key there? -/
def has (L : List Ent) (k : ByteArray) : Bool := !(at_ L k).isEmpty
theorem has_at (L : List Ent) (k : ByteArray) (h : Rise L) : has L k = true ↔ ∃ hp : pos L k < L.length, L[pos L k].1 = k := by
  have hs := split3 L k h
  constructor
  · intro hh
    have hne : at_ L k ≠ [] := fun e => by simp [has, e] at hh
    obtain ⟨x, r, hx⟩ := List.exists_cons_of_ne_nil hne
    have hl : pos L k < L.length := by
      have := congrArg List.length hs
      rw [hx] at this
      simp only [List.length_append, List.length_cons] at this
      unfold pos
      omega
    refine ⟨hl, ?_⟩
    have e : L[pos L k]? = some x := by
      have := drop_pos L k h
      rw [hx] at this
      have h2 := congrArg (fun l => l[0]?) this
      simpa using h2
    rw [List.getElem?_eq_getElem hl] at e
    have e := Option.some.inj e
    rw [e]
    have : x ∈ at_ L k := by rw [hx]; exact List.mem_cons_self ..
    have := (List.mem_filter.1 this).2
    exact of_decide_eq_true this
  · rintro ⟨hp, e⟩
    have hm : L[pos L k] ∈ at_ L k := List.mem_filter.2 ⟨List.getElem_mem hp, by exact decide_eq_true e⟩
    unfold has
    cases hx : at_ L k with
    | nil => rw [hx] at hm; cases hm
    | cons x r => rfl
theorem get_of_mem {L : List Ent} {p : Ent} (h : Rise L) (hp : p ∈ L) : get L p.1 = some p.2 := by
  induction L with
  | nil => cases hp
  | cons q L ih =>
    unfold get
    rw [List.find?_cons]
    rcases List.mem_cons.1 hp with rfl | hp
    · simp
    · have : decide (q.1 = p.1) = false := decide_eq_false <| bl_ne (h.head p hp)
      rw [this]
      exact ih h.tail hp
theorem mem_of_get {L : List Ent} {k : ByteArray} {v : List UInt8} (h : get L k = some v) : (k, v) ∈ L := by
  unfold get at h
  obtain ⟨p, hp, rfl⟩ := Option.map_eq_some_iff.1 h
  have h1 := List.find?_some hp
  have h2 := List.mem_of_find?_eq_some hp
  have h1 := of_decide_eq_true h1
  subst h1
  exact h2
theorem get_iff {L : List Ent} (h : Rise L) (k : ByteArray) (v : List UInt8) : get L k = some v ↔ (k, v) ∈ L := ⟨mem_of_get, fun hp => get_of_mem h hp⟩
theorem has_get (L : List Ent) (k : ByteArray) (h : Rise L) : has L k = (get L k).isSome := by
  cases hg : get L k with
  | none =>
    unfold has
    have : at_ L k = [] := filter_none (fun x hx => decide_eq_false <| by
      intro e
      have := get_of_mem h hx
      rw [e, hg] at this
      cases this)
    rw [this]; rfl
  | some v =>
    have hm : (k, v) ∈ at_ L k := List.mem_filter.2 ⟨mem_of_get hg, by exact decide_eq_true rfl⟩
    unfold has
    cases hx : at_ L k with
    | nil => rw [hx] at hm; cases hm
    | cons x r => rfl
theorem get_one (L : List Ent) (h : Rise L) (k : ByteArray) (v : List UInt8) (gone : Bool) (j : ByteArray) : get (one L k v gone) j = if j = k then (if gone then none else some v) else get L j := by
  have hr := h.one k v gone
  by_cases e : j = k
  · subst e
    rw [if_pos rfl]
    cases gone with
    | false => exact (get_iff hr j v).2 (by simp [one])
    | true =>
      cases hg : get (one L j v true) j with
      | none => rfl
      | some u =>
        exfalso
        have := mem_of_get hg
        simp only [one, if_true, List.append_nil, List.mem_append, mem_low, mem_high, bl_irrefl] at this
        simp at this
  · rw [if_neg e]
    have key : ∀ u, get (one L k v gone) j = some u ↔ get L j = some u := by
      intro u
      rw [get_iff hr, get_iff h]
      have h3 := bl_tri j k
      unfold one
      rw [List.mem_append, List.mem_append, mem_low, mem_high]
      constructor
      · rintro ((h1 | h1) | h1)
        · exact h1.1
        · cases gone
          · simp at h1
            exact absurd h1.1 e
          · simp at h1
        · exact h1.1
      · intro h1
        rcases h3 with h3 | h3 | h3
        · exact .inl (.inl ⟨h1, h3⟩)
        · exact absurd h3 e
        · exact .inr ⟨h1, h3⟩
    cases h1 : get (one L k v gone) j with
    | some u => exact ((key u).1 h1).symm
    | none =>
      cases h2 : get L j with
      | none => rfl
      | some u => rw [(key u).2 h2] at h1; cases h1
/-- several changes -/
def all (L : List Ent) : List (ByteArray × List UInt8 × Bool) → List Ent
  | [] => L
  | p :: ps => all (one L p.1 p.2.1 p.2.2) ps
theorem Rise.all {L : List Ent} (h : Rise L) (ps : List (ByteArray × List UInt8 × Bool)) : Rise (KvMath.all L ps) := by
  induction ps generalizing L with
  | nil => exact h
  | cons p ps ih => exact ih (h.one _ _ _)
theorem all_snoc (L : List Ent) (ps : List (ByteArray × List UInt8 × Bool)) (p : ByteArray × List UInt8 × Bool) : all L (ps ++ [p]) = one (all L ps) p.1 p.2.1 p.2.2 := by
  induction ps generalizing L with
  | nil => rfl
  | cons q ps ih => exact ih _
theorem all_app (L : List Ent) (ps qs : List (ByteArray × List UInt8 × Bool)) : all L (ps ++ qs) = all (all L ps) qs := by
  induction ps generalizing L with
  | nil => rfl
  | cons q ps ih => exact ih _
theorem one_len (L : List Ent) (h : Rise L) (k : ByteArray) (v : List UInt8) (gone : Bool) : (one L k v gone).length ≤ L.length + 1 := by
  have hs := congrArg List.length (split3 L k h)
  simp only [List.length_append] at hs
  unfold one
  simp only [List.length_append]
  cases gone <;> simp <;> omega
theorem all_len (L : List Ent) (h : Rise L) (ps : List (ByteArray × List UInt8 × Bool)) : (all L ps).length ≤ L.length + ps.length := by
  induction ps generalizing L with
  | nil => exact Nat.le_refl _
  | cons p ps ih =>
    have h1 := ih _ (h.one p.1 p.2.1 p.2.2)
    have h2 := one_len L h p.1 p.2.1 p.2.2
    simp only [all, List.length_cons]
    omega
/-- keys' own lists -/
theorem keys_one (L : List Ent) (h : Rise L) (k : ByteArray) (v : List UInt8) :
    (one L k v false).map (·.1) = if has L k then L.map (·.1) else (L.map (·.1)).take (pos L k) ++ [k] ++ (L.map (·.1)).drop (pos L k) := by
  have hs := split3 L k h
  by_cases hh : has L k = true
  · rw [if_pos hh]
    have hne : at_ L k ≠ [] := fun e => by simp [has, e] at hh
    obtain ⟨x, r, hx⟩ := List.exists_cons_of_ne_nil hne
    have hr : r = [] := by
      have := at_len L k h
      rw [hx] at this
      simpa using this
    subst hr
    have hxk : x.1 = k := by
      have : x ∈ at_ L k := by rw [hx]; exact List.mem_cons_self ..
      have := (List.mem_filter.1 this).2
      exact of_decide_eq_true this
    conv => rhs; rw [hs, hx]
    simp [one, hxk]
  · rw [if_neg hh]
    have hx : at_ L k = [] := by
      cases hx : at_ L k with
      | nil => rfl
      | cons x r => exact absurd (by simp [has, hx]) hh
    rw [hx, List.append_nil] at hs
    have h1 : L.take (pos L k) = low L k := take_pos L k h
    have h2 : L.drop (pos L k) = high L k := by rw [drop_pos L k h, hx]; rfl
    rw [← List.map_take, ← List.map_drop, h1, h2]
    simp [one]
theorem keys_gone (L : List Ent) (h : Rise L) (k : ByteArray) (v : List UInt8) :
    (one L k v true).map (·.1) = if has L k then (L.map (·.1)).take (pos L k) ++ (L.map (·.1)).drop (pos L k + 1) else L.map (·.1) := by
  have hs := split3 L k h
  by_cases hh : has L k = true
  · rw [if_pos hh]
    have hne : at_ L k ≠ [] := fun e => by simp [has, e] at hh
    obtain ⟨x, r, hx⟩ := List.exists_cons_of_ne_nil hne
    have hr : r = [] := by
      have := at_len L k h
      rw [hx] at this
      simpa using this
    subst hr
    rw [hx] at hs
    have h1 : L.take (pos L k) = low L k := take_pos L k h
    have h2 : L.drop (pos L k + 1) = high L k := by rw [← List.drop_drop, drop_pos L k h, hx]; rfl
    rw [← List.map_take, ← List.map_drop, h1, h2]
    simp [one]
  · rw [if_neg hh]
    have hx : at_ L k = [] := by
      cases hx : at_ L k with
      | nil => rfl
      | cons x r => exact absurd (by simp [has, hx]) hh
    rw [hx, List.append_nil] at hs
    conv => rhs; rw [hs]
    simp [one]
end KvMath
namespace KvMath
theorem one_none (L : List Ent) (h : Rise L) (k : ByteArray) (v : List UInt8) (hh : has L k = false) : one L k v true = L := by
  have hs := split3 L k h
  have hx : at_ L k = [] := by
    cases hx : at_ L k with
    | nil => rfl
    | cons x r => simp [has, hx] at hh
  rw [hx, List.append_nil] at hs
  conv => rhs; rw [hs]
  simp [one]
theorem mem_one {L : List Ent} {k : ByteArray} {v : List UInt8} {gone : Bool} {p : Ent} (hp : p ∈ one L k v gone) : p ∈ L ∨ p = (k, v) := by
  unfold one at hp
  rcases List.mem_append.1 hp with hp | hp
  · rcases List.mem_append.1 hp with hp | hp
    · exact .inl (mem_low.1 hp).1
    · cases gone
      · simp at hp; exact .inr hp
      · simp at hp
  · exact .inl (mem_high.1 hp).1
theorem keys_one_has (L : List Ent) (h : Rise L) (k : ByteArray) (v : List UInt8) (hh : has L k = true) : (one L k v false).map (·.1) = L.map (·.1) := by
  rw [keys_one L h, if_pos hh]
theorem keys_one_new (L : List Ent) (h : Rise L) (k : ByteArray) (v : List UInt8) (hh : has L k = false) : (one L k v false).map (·.1) = (L.map (·.1)).take (pos L k) ++ [k] ++ (L.map (·.1)).drop (pos L k) := by
  rw [keys_one L h, if_neg (by rw [hh]; decide)]
theorem keys_gone_has (L : List Ent) (h : Rise L) (k : ByteArray) (v : List UInt8) (hh : has L k = true) : (one L k v true).map (·.1) = (L.map (·.1)).take (pos L k) ++ (L.map (·.1)).drop (pos L k + 1) := by
  rw [keys_gone L h, if_pos hh]
theorem pos_lt (L : List Ent) (h : Rise L) (k : ByteArray) (hh : has L k = true) : pos L k < L.length := ((has_at L k h).1 hh).1
end KvMath
namespace KvMath
/-- the pairs from a key on, below another, at most so many -/
def inR (to : ByteArray) (p : Ent) : Bool := decide (to.size = 0) || bl p.1 to
def range (L : List Ent) (from_ to : ByteArray) (most : Int) : List Ent := ((L.drop (pos L from_)).takeWhile (inR to)).take most.toNat
theorem take_while_stop {α : Type} (D : List α) (c : α → Bool) (m q : Nat) (hq : q ≤ D.length) (hm : q ≤ m) (hc : ∀ j, (h : j < D.length) → j < q → c D[j] = true) (hs : q = D.length ∨ q = m ∨ ∃ h : q < D.length, c D[q] = false) : (D.takeWhile c).take m = D.take q := by
  induction D generalizing m q with
  | nil => simp
  | cons x D ih =>
    cases q with
    | zero =>
      rcases hs with h | h | ⟨h, h2⟩
      · simp at h
      · rw [← h]; simp
      · have h2 : c x = false := h2
        rw [List.takeWhile_cons, h2]
        simp
    | succ q =>
      have h0 : c x = true := hc 0 (by simp) (by omega)
      obtain ⟨m, rfl⟩ : ∃ m', m = m' + 1 := ⟨m - 1, by omega⟩
      rw [List.takeWhile_cons, h0, if_pos rfl, List.take_succ_cons, List.take_succ_cons]
      rw [ih m q (by simpa using hq) (by omega) (fun j hj hjq => hc (j + 1) (by simpa using hj) (by omega)) ?_]
      rcases hs with h | h | ⟨h, h2⟩
      · left; simpa using h
      · right; left; omega
      · right; right
        exact ⟨by simpa using h, h2⟩
end KvMath
namespace KvMath
def e0 : ByteArray := ⟨#[]⟩
theorem bl_e0 (k : ByteArray) : bl k e0 = false := by
  have h : e0.toList = [] := by rw [Go.Lib.toList_data]; rfl
  unfold bl
  rw [h]
  cases k.toList <;> rfl
theorem pos_e0 (L : List Ent) : pos L e0 = 0 := by
  unfold pos low
  rw [filter_none (fun x _ => bl_e0 x.1)]
  rfl
theorem inR_e0 (p : Ent) : inR e0 p = true := rfl
theorem tw_all {α : Type} (l : List α) (c : α → Bool) (h : ∀ x, c x = true) : l.takeWhile c = l := by
  induction l with
  | nil => rfl
  | cons x l ih => rw [List.takeWhile_cons, h, if_pos rfl, ih]
theorem range_all (L : List Ent) (h : L.length ≤ 1000) : range L e0 e0 1000 = L := by
  unfold range
  rw [pos_e0, List.drop_zero, tw_all _ _ inR_e0]
  exact List.take_of_length_le h
theorem range_low (L : List Ent) (hr : Rise L) (mid : ByteArray) (hm : mid.size ≠ 0) (h : L.length ≤ 1000) : range L e0 mid 1000 = low L mid := by
  unfold range
  rw [pos_e0, List.drop_zero]
  have hin : ∀ p, inR mid p = bl p.1 mid := fun p => by unfold inR; rw [decide_eq_false hm]; rfl
  have hpl := pos_le L mid
  rw [take_while_stop L (inR mid) (1000 : Int).toNat (pos L mid) hpl (Nat.le_trans hpl h) (fun j hj hjp => by rw [hin, less_pos L mid hr j hj, decide_eq_true hjp]) ?_, take_pos L mid hr]
  by_cases e : pos L mid = L.length
  · exact .inl e
  · exact .inr (.inr ⟨by omega, by rw [hin, less_pos L mid hr _ (by omega)]; exact decide_eq_false (Nat.lt_irrefl _)⟩)
theorem range_high (L : List Ent) (hr : Rise L) (mid : ByteArray) (h : L.length ≤ 1000) : range L mid e0 1000 = at_ L mid ++ high L mid := by
  unfold range
  rw [tw_all _ _ inR_e0, drop_pos L mid hr]
  apply List.take_of_length_le
  have := congrArg List.length (drop_pos L mid hr)
  rw [← this, List.length_drop]
  exact Nat.le_trans (Nat.sub_le _ _) h
theorem range_parts (L : List Ent) (hr : Rise L) (mid : ByteArray) (hm : mid.size ≠ 0) (h : L.length ≤ 1000) : range L e0 mid 1000 ++ range L mid e0 1000 = L := by
  rw [range_low L hr mid hm h, range_high L hr mid h, ← List.append_assoc]
  exact (split3 L mid hr).symm
theorem Rise.adj {L : List Ent} (h : Rise L) (i j : Nat) (hj : j < L.length) (hij : i < j) : bl (L[i]'(by omega)).1 L[j].1 = true := List.pairwise_iff_getElem.1 h i j (by omega) hj hij
end KvMath
