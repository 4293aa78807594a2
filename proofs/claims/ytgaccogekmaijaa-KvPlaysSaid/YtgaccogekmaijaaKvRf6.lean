/- Rows of the document's changes; the document's table in bytes; a row of changes as the document's own. -/
import Derived.Test.YtgaccogekmaijaaKvRf5
import Derived.Test.YtgaccogekmaijaaKvRf2
import Derived.Test.YtgaccogekmaijaaKvPn
namespace Go.Proofs.Ytgaccogekmaijaa
open Go.RowKit Go.Maps
set_option linter.unusedVariables false
set_option linter.unusedSimpArgs false
attribute [local irreducible] wpR relOp Stu.wpR Stu.relOp
theorem str_slice (w : World) (s : ByteArray) (hl : s.size ≤ 140737488351232) : ∃ c W, (convert 9 32 (.string s)).run Try.prog w = .ok (.slice (some ⟨w.heap.size, 0, none⟩) s.size c) W ∧ Sl W (.slice (some ⟨w.heap.size, 0, none⟩) s.size c) s.data.toList ∧ Below w.heap.size w W := by
  refine ⟨_, _, run_bytes_of_string w 9 32 5 s Try.underlying9 Try.underlying32 Try.underlying5, ?_, (Below.drew (Below.refl _ w)).alloc (Nat.le_refl _) _⟩
  have hnew : ∀ C fr, (w.drew.alloc (.cells C 5 fr)).heap[w.heap.size]? = some (.cells C 5 fr) := fun C fr => heap_new w.drew _ _ rfl
  refine ⟨some ⟨w.heap.size, 0, none⟩, _, rfl, ?_, ⟨by simpa using Nat.le_trans hl (by decide), fun hp => ⟨_, rfl, fun j hj => ?_⟩⟩, fun a e => ?_⟩
  · have := grownCap_ge w s.size 0 5
    simpa using this
  · have ha : (⟨w.heap.size, 0, none⟩ : Addr).add j = ⟨w.heap.size, j, none⟩ := by unfold Addr.add; split <;> simp_all
    rw [ha, cell_of_row _ w.heap.size j _ _ _ (hnew _ _)]
    have hj2 : j < s.size := by simpa using hj
    have hj3 : j < s.data.size := hj2
    simp [bytesRow, Array.getElem?_append, hj3]
    rw [if_pos hj2, Array.getElem?_eq_getElem hj3]
    rfl
  · injection e with e
    subst e
    exact ⟨_, _, hnew _ _⟩
def PCells (R : Value → List UInt8 → Prop) : List Value → List PutD → Prop
  | xs, [] => xs = []
  | xs, r :: rs => ∃ vb t, xs = .string r.key :: vb :: .bool r.gone :: t ∧ R vb r.val ∧ PCells R t rs
theorem PCells.snoc {R : Value → List UInt8 → Prop} {xs : List Value} {rs : List PutD} (h : PCells R xs rs) {x : PutD} {vb : Value} (hb : R vb x.val) : PCells R (xs ++ [.string x.key, vb, .bool x.gone]) (rs ++ [x]) := by
  induction rs generalizing xs with
  | nil => cases h; exact ⟨vb, [], rfl, hb, rfl⟩
  | cons r rs ih =>
    obtain ⟨v, t, rfl, h1, h2⟩ := h
    exact ⟨v, t ++ [.string x.key, vb, .bool x.gone], rfl, h1, ih h2⟩
theorem PCells.imp {R R' : Value → List UInt8 → Prop} {xs : List Value} {rs : List PutD} (h : PCells R xs rs) (hi : ∀ v l, R v l → R' v l) : PCells R' xs rs := by
  induction rs generalizing xs with
  | nil => exact h
  | cons r rs ih =>
    obtain ⟨v, t, rfl, h1, h2⟩ := h
    exact ⟨v, t, rfl, hi _ _ h1, ih h2⟩
theorem PCells.at_ {R : Value → List UInt8 → Prop} {xs : List Value} {rs : List PutD} (h : PCells R xs rs) : xs.length = rs.length * 3 ∧ ∀ i, (hi : i < rs.length) → ∃ vb, xs[i * 3]? = some (.string rs[i].key) ∧ xs[i * 3 + 1]? = some vb ∧ xs[i * 3 + 2]? = some (.bool rs[i].gone) ∧ R vb rs[i].val := by
  induction rs generalizing xs with
  | nil => cases h; exact ⟨rfl, fun i hi => absurd hi (by simp)⟩
  | cons r rs ih =>
    obtain ⟨v, t, rfl, h1, h2⟩ := h
    obtain ⟨h3, h4⟩ := ih h2
    refine ⟨by simp [h3]; omega, fun i hi => ?_⟩
    cases i with
    | zero => exact ⟨v, rfl, rfl, rfl, h1⟩
    | succ i =>
      obtain ⟨vb, h5, h6, h7, h8⟩ := h4 i (by simpa using hi)
      exact ⟨vb, by rw [show (i + 1) * 3 = i * 3 + 1 + 1 + 1 by omega]; simpa using h5, by rw [show (i + 1) * 3 + 1 = i * 3 + 1 + 1 + 1 + 1 by omega]; simpa using h6, by rw [show (i + 1) * 3 + 2 = i * 3 + 2 + 1 + 1 + 1 by omega]; simpa using h7, by simpa using h8⟩
/-- a slice of the document's changes, of the call's own -/
def PutsG (R : World → Value → List UInt8 → Prop) (w : World) (base : Nat) (v : Value) (rs : List PutD) : Prop := (∃ xs, w.ownsRow base 80 3 v rs.length xs ∧ PCells (R w) xs rs) ∧ (rs = [] → v = .slice none 0 0)
theorem PutsG.nil (R : World → Value → List UInt8 → Prop) (w : World) (base : Nat) : PutsG R w base (.slice none 0 0) [] := ⟨⟨[], ⟨rfl, .inl ⟨rfl, rfl⟩⟩, rfl⟩, fun _ => rfl⟩
theorem PutsG.stay {R : World → Value → List UInt8 → Prop} {w w1 : World} {base : Nat} {v : Value} {rs : List PutD} (h : PutsG R w base v rs) (hs : ∀ (k : Nat) cs fr, w.heap[k]? = some (.cells cs 80 fr) → w1.heap[k]? = some (.cells cs 80 fr)) (hR : ∀ v l, R w v l → R w1 v l) : PutsG R w1 base v rs := by
  obtain ⟨⟨xs, h1, h2⟩, h3⟩ := h
  exact ⟨⟨xs, orow_stay h1 (fun k cs fr _ hk => hs k cs fr hk), h2.imp hR⟩, h3⟩
theorem PutsG.below {R : World → Value → List UInt8 → Prop} {w w1 : World} {base : Nat} {v : Value} {rs : List PutD} (h : PutsG R w base v rs) (hb : Below w.heap.size w w1) (hR : ∀ v l, R w v l → R w1 v l) : PutsG R w1 base v rs :=
  h.stay (fun k cs fr hk => (hb.block k (Array.getElem?_eq_some_iff.1 hk).1).trans hk) hR
theorem info_rput : (Try.prog.info? 80).map (fun i => (i.zero, i.size, i.bytes)) = some (some (.agg #[.string ByteArray.empty, .slice none 0 0, .bool false]), 3, 48) := by kernel_rfl
theorem PutsG.shape {R : World → Value → List UInt8 → Prop} {w : World} {base : Nat} {v : Value} {rs : List PutD} (h : PutsG R w base v rs) {n : Nat} (hn : n = rs.length) : shpn n v := by
  obtain ⟨⟨xs, h1, _⟩, _⟩ := h
  rw [hn]
  exact shpn.of_row h1
/-- as an argument -/
theorem PutsG.row {R : World → Value → List UInt8 → Prop} {w : World} {base : Nat} {v : Value} {rs : List PutD} (h : PutsG R w base v rs) (hR : ∀ v l, R w v l → ∃ A c, v = .slice A l.length c ∧ l.length ≤ c ∧ Rd w A l) (hz : ∀ x ∈ rs, x.key.size ≤ 140737488351232 ∧ x.val.length ≤ 140737488351232) : ∃ A c, v = .slice A rs.length c ∧ rs.length ≤ c ∧ Row KPut 3 w A rs := by
  obtain ⟨⟨xs, ho, hC⟩, _⟩ := h
  obtain ⟨hxl, hat⟩ := hC.at_
  rcases ho.2 with ⟨rfl, hn⟩ | ⟨g, cap, cur, rfl, hb, hh, hc, hm, hsz, htk⟩
  · exact ⟨none, 0, by rw [hn], by omega, fun hp => by omega⟩
  · refine ⟨_, cap, rfl, hc, fun _ => ⟨_, rfl, fun j hj => ?_⟩⟩
    obtain ⟨vb, h1, h2, h3, h4⟩ := hat j hj
    obtain ⟨A', c', rfl, h5, h6⟩ := hR _ _ h4
    obtain ⟨z1, z2⟩ := hz rs[j] (List.getElem_mem hj)
    refine ⟨[.string rs[j].key, .slice A' rs[j].val.length c', .bool rs[j].gone], rfl, ⟨A', c', rfl, h5, h6, z1, z2⟩, fun i hi => ?_⟩
    match i, hi with
    | 0, _ => exact World.ownsRow.cells (g := g) ho rfl (j * 3) _ h1
    | 1, _ => exact World.ownsRow.cells (g := g) ho rfl (j * 3 + 1) _ h2
    | 2, _ => exact World.ownsRow.cells (g := g) ho rfl (j * 3 + 2) _ h3
/-- append(v, x), x in a block of its own -/
theorem PutsG.app_run {R : World → Value → List UInt8 → Prop} {W : World} {ty S0 gl : Nat} {v vb : Value} {rs : List PutD} {x : PutD} {fr : Nat × Nat} (h : PutsG R W S0 v rs) (hR : ∀ W' v l, TE 80 3 S0 W W' → R W v l → R W' v l) (hb : R W vb x.val) (hone : vb.oneCell' = true)
    (h10 : W.heap[gl]? = some (.cells #[.string x.key, vb, .bool x.gone] 80 fr)) (hS : S0 ≤ W.heap.size) (hn : rs.length ≤ 1000000) :
    ∃ v' W', (Builtin.append_ #[51, 51] ty #[v, .slice (some ⟨gl, 0, none⟩) 1 1]).run Try.prog W = .ok v' W' ∧ PutsG R W' S0 v' (rs ++ [x]) ∧ TE 80 3 S0 W W' := by
  obtain ⟨⟨xs, h1, h2⟩, h3⟩ := h
  obtain ⟨v', W', hr, k1, k2⟩ := app1_run (ty := ty) (bytes := 48) Try.underlying51 info_rput rfl (by decide) (by decide) (by decide) h10 rfl (by
    intro u hu
    simp at hu
    rcases hu with rfl | rfl | rfl
    · rfl
    · exact hone
    · rfl) hS hn h1 (fun e g hg => by
      rw [h3 (List.eq_nil_of_length_eq_zero e)] at hg
      simp [Value.ownBlock] at hg)
  refine ⟨v', W', hr, ⟨⟨_, by rw [List.length_append]; exact k1, (h2.imp fun v l h => hR _ _ _ k2 h).snoc (hR _ _ _ k2 hb)⟩, fun e => by simp at e⟩, k2⟩
theorem PutsG.app_rel {R : World → Value → List UInt8 → Prop} {o : Oper} {a : Act} {W : World} {S0 gl m : Nat} {v vb : Value} {rs : List PutD} {x : PutD} {fr : Nat × Nat} {s y : Operand} (h : PutsG R W S0 v rs) (hR : ∀ W' v l, TE 80 3 S0 W W' → R W v l → R W' v l) (hb : R W vb x.val) (hone : vb.oneCell' = true)
    (ho : o.op = .call { callee := .builtin .append, args := #[s, y], argTypes := #[51, 51] }) (hs : a.eval s = v) (hx : a.eval y = .slice (some ⟨gl, 0, none⟩) 1 1)
    (h10 : W.heap[gl]? = some (.cells #[.string x.key, vb, .bool x.gone] 80 fr)) (hS : S0 ≤ W.heap.size) (hn : rs.length ≤ 1000000) (hm : m = rs.length + 1) :
    Stu.relUpon Try.prog (TE 80 3 S0) W (fun v W' => (shpn m v ∧ True) ∧ PutsG R W' S0 v (rs ++ [x])) ((execOp a.eval o).run Try.prog W) := by
  obtain ⟨v', W', hr, k1, k2⟩ := PutsG.app_run (ty := o.type) h hR hb hone h10 hS hn
  unfold execOp
  simp only [ho, resolve, invoke, builtin, Sem.run_bind, Sem.run_pure, Result.andThen_ok, List.map_toArray, List.map_cons, List.map_nil, hs, hx, hr]
  exact ⟨k2, ⟨k1.shape (by rw [hm, List.length_append]; rfl), trivial⟩, k1⟩
theorem Sl.te {e sz S0 : Nat} {W W' : World} {v : Value} {l : List UInt8} (h : TE e sz S0 W W') (he : 5 ≠ e) (hs : Sl W v l) : Sl W' v l := by
  obtain ⟨A, c, h1, h2, h3, h4⟩ := hs
  refine ⟨A, c, h1, h2, ⟨h3.1, fun hp => ?_⟩, fun a e => ?_⟩
  · obtain ⟨a, e, hc⟩ := h3.2 hp
    obtain ⟨cs, fr, h5⟩ := h4 a e
    refine ⟨a, e, fun j hj => ?_⟩
    have h6 := h.2 _ _ _ _ (.inl he) h5
    have hab : (a.add j).block = a.block := by unfold Addr.add; split <;> rfl
    rw [World.cell?_of_block (w := W) (by rw [hab, h6, h5])]
    exact hc j hj
  · obtain ⟨cs, fr, h5⟩ := h4 a e
    exact ⟨cs, fr, h.2 _ _ _ _ (.inl he) h5⟩
end Go.Proofs.Ytgaccogekmaijaa
