/- Rows of pairs (a number, a slice of bytes), of the call's own; a box of two cells. -/
import Derived.Test.YtbpecfbliglboaaClone
namespace Go.Proofs.Ytbpecfbliglboaa
open Go.RowKit
set_option linter.unusedVariables false
set_option linter.unusedSimpArgs false
def RecCells (w : World) : List Value → List (Int × List UInt8) → Prop
  | xs, [] => xs = []
  | xs, r :: rs => ∃ vb t, xs = .int .i64 r.1 :: vb :: t ∧ Sl w vb r.2 ∧ RecCells w t rs
theorem RecCells.snoc {w : World} {xs : List Value} {rs : List (Int × List UInt8)} (h : RecCells w xs rs) {num : Int} {vb : Value} {l : List UInt8} (hb : Sl w vb l) : RecCells w (xs ++ [.int .i64 num, vb]) (rs ++ [(num, l)]) := by
  induction rs generalizing xs with
  | nil => cases h; exact ⟨vb, [], rfl, hb, rfl⟩
  | cons r rs ih =>
    obtain ⟨v, t, rfl, h1, h2⟩ := h
    exact ⟨v, t ++ [.int .i64 num, vb], rfl, h1, ih h2⟩
theorem RecCells.imp {w w1 : World} {xs : List Value} {rs : List (Int × List UInt8)} (h : RecCells w xs rs) (hi : ∀ v l, Sl w v l → Sl w1 v l) : RecCells w1 xs rs := by
  induction rs generalizing xs with
  | nil => exact h
  | cons r rs ih =>
    obtain ⟨v, t, rfl, h1, h2⟩ := h
    exact ⟨v, t, rfl, hi _ _ h1, ih h2⟩
theorem RecCells.at_ {w : World} {xs : List Value} {rs : List (Int × List UInt8)} (h : RecCells w xs rs) : xs.length = 2 * rs.length ∧ ∀ i, (hi : i < rs.length) → ∃ vb, xs[2 * i]? = some (.int .i64 rs[i].1) ∧ xs[2 * i + 1]? = some vb ∧ Sl w vb rs[i].2 := by
  induction rs generalizing xs with
  | nil => cases h; exact ⟨rfl, fun i hi => absurd hi (by simp)⟩
  | cons r rs ih =>
    obtain ⟨v, t, rfl, h1, h2⟩ := h
    obtain ⟨h3, h4⟩ := ih h2
    refine ⟨by simp [h3]; omega, fun i hi => ?_⟩
    cases i with
    | zero => exact ⟨v, rfl, rfl, h1⟩
    | succ i =>
      obtain ⟨vb, h5, h6, h7⟩ := h4 i (by simpa using hi)
      exact ⟨vb, by rw [show 2 * (i + 1) = 2 * i + 1 + 1 by omega]; simpa using h5, by rw [show 2 * (i + 1) + 1 = 2 * i + 1 + 1 + 1 by omega]; simpa using h6, by simpa using h7⟩
/-- a slice of records of the call's own -/
def Recs (w : World) (base e : Nat) (v : Value) (rs : List (Int × List UInt8)) : Prop := ∃ xs, w.ownsRow base e 2 v rs.length xs ∧ RecCells w xs rs
theorem Recs.nil (w : World) (base e : Nat) : Recs w base e (.slice none 0 0) [] := ⟨[], ⟨rfl, .inl ⟨rfl, rfl⟩⟩, rfl⟩
theorem Recs.below {w w1 : World} {base e : Nat} {v : Value} {rs : List (Int × List UInt8)} (h : Recs w base e v rs) (hb : Below w.heap.size w w1) : Recs w1 base e v rs := by
  obtain ⟨xs, h1, h2⟩ := h
  exact ⟨xs, World.ownsRow.kept h1 ⟨hb.os, hb.tape, hb.output, hb.size, fun k hk _ => hb.block k hk⟩ (row := none) (by cases v.ownBlock <;> simp), h2.imp fun _ _ h => h.below hb⟩
theorem Sl.wrote {w w1 : World} {base e size n : Nat} {xs : List Value} {v vb : Value} {l : List UInt8} (h : Sl w vb l) (ho : w.ownsRow base e size v n xs) (he : e ≠ 5) (hg : w.grownBy w1 v.ownBlock) : Sl w1 vb l := by
  rcases ho.2 with ⟨rfl, _⟩ | ⟨g, cap, cur, rfl, hb, hh, _⟩
  · exact h.below ⟨hg.os, hg.tape, hg.output, hg.size, fun k hk => hg.block k hk (by simp [Value.ownBlock])⟩
  · refine h.keep (g := g) ?_ (fun k hk hne => hg.block k hk (by simp [Value.ownBlock]; exact hne))
    intro cs fr h2
    rw [hh] at h2
    injection h2 with h2
    injection h2 with _ h3
    exact he h3
/-- append(v, r), r in a block just made. -/
theorem Recs.app {P : Program} {ops : Array Oper} {rest : List Oper} {o : Oper} {a : Act} {Q : Exit → Act → World → Prop} {w : World} (base : Nat) (hgd : o.guard = none) (s x : Operand) (t e : TypeId) (i0 : Value)
    (ho : o.op = .call { callee := .builtin .append, args := #[s, x], argTypes := #[t, t] })
    (ht : P.underlying t = some (.slice e)) (hinfo : (P.info? e).map (fun i => (i.zero, i.size, i.bytes)) = some (some i0, 2, 32)) (hz : i0.cells.size = 2) (he : e ≠ 5)
    (v : Value) (rs : List (Int × List UInt8)) (num : Int) (A : Option Addr) (n c : Nat) (l : List UInt8) (gg : Nat) (hgg : gg = w.heap.size) (hs : a.eval s = v) (hx : a.eval x = .slice (some ⟨gg, 0, none⟩) 1 1)
    (HO : Recs w base e v rs) (hb : Sl w (.slice A n c) l) (hbase : base ≤ w.heap.size) (hlen : rs.length ≤ 1000000000)
    (h : ∀ v1 w1, Recs w1 base e v1 (rs ++ [(num, l)]) → Below base w w1 → wpList P ops Q rest (a.put o.dst v1) w1) : wpList P ops Q (o :: rest) a (w.alloc (.cells #[.int .i64 num, .slice A n c] e)) := by
  subst hgg
  obtain ⟨xs, hO, hC⟩ := HO
  have hba := (Below.refl w.heap.size w).alloc (Nat.le_refl _) (.cells #[.int .i64 num, .slice A n c] e)
  have hO1 : (w.alloc (.cells #[.int .i64 num, .slice A n c] e)).ownsRow base e 2 v rs.length xs :=
    World.ownsRow.kept hO ⟨hba.os, hba.tape, hba.output, hba.size, fun k hk _ => hba.block k hk⟩ (row := none) (by cases v.ownBlock <;> simp)
  have hh : (w.alloc (.cells #[.int .i64 num, .slice A n c] e)).heap[w.heap.size]? = some (.cells #[.int .i64 num, .slice A n c] e) := heap_new w _ _ rfl
  refine wpList_app (w0 := w) base hgd s x t e i0 2 32 ho ht hinfo hz (by decide) (by decide) v rs.length xs [.int .i64 num, .slice A n c] (some ⟨w.heap.size, 0, none⟩) 1 1 hs hx hO1 rfl ?_ ?_ (hba.mono hbase) (Nat.le_trans hbase hba.size) (by omega) ?_
  · intro _
    refine ⟨_, rfl, fun j u hu => ?_⟩
    have ha : (⟨w.heap.size, 0, none⟩ : Addr).add j = ⟨w.heap.size, j, none⟩ := by unfold Addr.add; split <;> simp_all
    rw [ha, cell_of_row _ w.heap.size j _ _ _ hh]
    simpa using hu
  · intro u hu
    simp at hu
    rcases hu with rfl | rfl <;> rfl
  · intro v1 w1 h1 h2 h3 _
    refine h v1 w1 ⟨xs ++ [.int .i64 num, .slice A n c], by simpa using h1, ?_⟩ h2
    exact (hC.imp fun _ _ h => (h.below hba).wrote hO1 he h3).snoc ((hb.below hba).wrote hO1 he h3)
/-- two cells in a box just made -/
theorem box2 (w : World) (a b : Value) (t : Nat) : ∃ W, W = w.alloc (.cells #[a, b] t) ∧ Below w.heap.size w W ∧ w.heap.size < W.heap.size ∧ ∀ W', Below W.heap.size W W' → W'.cell? ⟨w.heap.size, 0, none⟩ = some a ∧ W'.cell? ⟨w.heap.size, 1, none⟩ = some b := by
  refine ⟨_, rfl, (Below.refl _ w).alloc (Nat.le_refl _) _, by simp, fun W' h => ?_⟩
  have hh : (w.alloc (.cells #[a, b] t)).heap[w.heap.size]? = some (.cells #[a, b] t) := heap_new w _ _ rfl
  exact ⟨cell_below h (by rw [cell_of_row _ w.heap.size 0 _ _ _ hh]; rfl), cell_below h (by rw [cell_of_row _ w.heap.size 1 _ _ _ hh]; rfl)⟩
/-- a row of records is read -/
theorem Recs.rd {w : World} {base e : Nat} {v : Value} {rs : List (Int × List UInt8)} (h : Recs w base e v rs) :
    ∃ A c, v = .slice A rs.length c ∧ rs.length ≤ c ∧ ∀ i, (hi : i < rs.length) → ∃ g vb, A = some ⟨g, 0, none⟩ ∧ w.cell? ⟨g, i * 2, none⟩ = some (.int .i64 rs[i].1) ∧ w.cell? ⟨g, i * 2 + 1, none⟩ = some vb ∧ Sl w vb rs[i].2 := by
  obtain ⟨xs, ho, hC⟩ := h
  obtain ⟨hxl, hat⟩ := hC.at_
  rcases ho.2 with ⟨rfl, hn⟩ | ⟨g, cap, cur, rfl, hb, hh, hc, hm, hsz, htk⟩
  · exact ⟨none, 0, by rw [hn], by omega, fun i hi => by omega⟩
  · refine ⟨_, cap, rfl, hc, fun i hi => ?_⟩
    obtain ⟨vb, h1, h2, h3⟩ := hat i hi
    have ha : ∀ j, (⟨g, 0, none⟩ : Addr).add j = ⟨g, j, none⟩ := fun j => by unfold Addr.add; split <;> simp_all
    refine ⟨g, vb, rfl, ?_, ?_, h3⟩
    · have := World.ownsRow.cells (g := g) ho rfl (2 * i) _ h1
      rw [ha] at this
      rw [Nat.mul_comm]; exact this
    · have := World.ownsRow.cells (g := g) ho rfl (2 * i + 1) _ h2
      rw [ha] at this
      rw [Nat.mul_comm i 2]; exact this
end Go.Proofs.Ytbpecfbliglboaa
