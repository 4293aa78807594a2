/- QueuePlays: what lies in memory between two acts. -/
import Derived.Test.YthecekkophbceaaQOrder
namespace Go.Proofs.Ythecekkophbceaa
open Go.RowKit Go.Conc
set_option linter.unusedVariables false
set_option linter.unusedSimpArgs false
def upq {α : Type} (f : Nat → α) (q : Nat) (x : α) : Nat → α := fun i => if i = q then x else f i
theorem upq_same {α : Type} (f : Nat → α) (q : Nat) (x : α) : upq f q x q = x := if_pos rfl
theorem upq_other {α : Type} (f : Nat → α) (q : Nat) (x : α) (i : Nat) (h : i ≠ q) : upq f q x i = f i := if_neg h
/-- an act -/
def KAct (w : World) (y : Int × Int × Int × ByteArray × Unit) (cs : List Value) : Prop := cs.length = 4 ∧ KInt .i64 w y.1 ((cs.drop 0).take 1) ∧ KInt .i64 w y.2.1 ((cs.drop 1).take 1) ∧ KInt .i64 w y.2.2.1 ((cs.drop 2).take 1) ∧ KStr w y.2.2.2.1 ((cs.drop 3).take 1) ∧ True
theorem KAct.open {w : World} {y : Int × Int × Int × ByteArray × Unit} {cs : List Value} (h : KAct w y cs) : cs = [.int .i64 y.1, .int .i64 y.2.1, .int .i64 y.2.2.1, .string y.2.2.2.1] ∧ (Lit.int .i64 y.1).wf = true ∧ (Lit.int .i64 y.2.1).wf = true ∧ (Lit.int .i64 y.2.2.1).wf = true ∧ y.2.2.2.1.size ≤ 140737488351232 := by
  obtain ⟨op, q, to, s, u⟩ := y
  obtain ⟨h0, ⟨h1, k1⟩, ⟨h2, k2⟩, ⟨h3, k3⟩, ⟨h4, k4⟩, _⟩ := h
  dsimp only at *
  match cs, h0 with
  | [a, b, c, d], _ =>
    simp at h1 h2 h3 h4
    subst h1 h2 h3 h4
    exact ⟨rfl, k1, k2, k3, k4⟩
/-- v is a slice of the strings ss, in a row of strings (or nil) -/
def StrV (w : World) (v : Value) (ss : List ByteArray) : Prop := ∃ A c, v = .slice A ss.length c ∧ ss.length ≤ c ∧ (∀ a, A = some a → ∃ cs fr, w.heap[a.block]? = some (.cells cs 9 fr)) ∧ Rds w A ss
theorem StrV.nil (w : World) : StrV w (.slice none 0 0) [] := ⟨none, 0, rfl, Nat.le_refl _, (fun a h => by cases h), (fun h => absurd h (by simp))⟩
theorem StrV.chg {S : Nat → Prop} {w w1 : World} {v : Value} {ss : List ByteArray} (h : StrV w v ss) (hc : Chg S w w1) (hS : ∀ k, S k → ∀ cs fr, w.heap[k]? ≠ some (.cells cs 9 fr)) : StrV w1 v ss := by
  obtain ⟨A, c, h1, h2, h3, h4⟩ := h
  have hne : ∀ a, A = some a → w1.heap[a.block]? = w.heap[a.block]? := fun a e => by
    obtain ⟨cs, fr, h5⟩ := h3 a e
    exact hc.block _ (Array.getElem?_eq_some_iff.1 h5).1 (fun hs => hS _ hs cs fr h5)
  refine ⟨A, c, h1, h2, fun a e => ?_, fun hp => ?_⟩
  · obtain ⟨cs, fr, h5⟩ := h3 a e
    exact ⟨cs, fr, (hne a e).trans h5⟩
  · obtain ⟨a, e, hc⟩ := h4 hp
    refine ⟨a, e, fun j hj => ?_⟩
    have h6 : (a.add j).block = a.block := by unfold Addr.add; split <;> rfl
    rw [World.cell?_of_block (w := w) (by rw [h6]; exact hne a e)]
    exact hc j hj
theorem StrV.tail {w : World} {A : Option Addr} {n c : Nat} {s : ByteArray} {ss : List ByteArray} (h : StrV w (.slice A n c) (s :: ss)) : StrV w (.slice (if c = 1 then A else A.map (·.add 1)) (n - 1) (c - 1)) ss := by
  obtain ⟨A', c', h1, h2, h3, h4⟩ := h
  injection h1 with e1 e2 e3
  subst e1 e2 e3
  refine ⟨if c = 1 then A else A.map (·.add 1), c - 1, by simp, by simp at h2; omega, fun a e => ?_, fun hp => ?_⟩
  · split at e
    · exact h3 a e
    · cases A with
      | none => cases e
      | some b =>
        injection e with e
        subst e
        obtain ⟨cs, fr, h5⟩ := h3 b rfl
        exact ⟨cs, fr, by rw [show (b.add 1).block = b.block by unfold Addr.add; split <;> rfl]; exact h5⟩
  · obtain ⟨a, e, hc⟩ := h4 (by simp)
    subst e
    rw [if_neg (by simp at h2; omega)]
    refine ⟨_, rfl, fun j hj => ?_⟩
    have := hc (j + 1) (by simp; omega)
    simp only [List.getElem_cons_succ] at this
    rw [Go.Deep.add_add, Nat.add_comm 1 j]
    exact this
/-- the three queues; the three rows of strings; the three marks -/
def QS (w : World) (g ch : Nat → Nat) (room : Nat) (ls : Nat → List ByteArray) (cl : Nat → Bool) : Prop := ∀ q, q < 3 → Qu w (g q) (ch q) room (bys (ls q)) (cl q)
def WS (w : World) (gw : Nat) (ls : Nat → List ByteArray) : Prop := ∃ v : Nat → Value, w.heap[gw]? = some (.cells #[v 0, v 1, v 2] 42) ∧ ∀ q, q < 3 → StrV w (v q) (ls q)
def CS (w : World) (gc : Nat) (cl : Nat → Bool) : Prop := w.heap[gc]? = some (.cells #[.bool (cl 0), .bool (cl 1), .bool (cl 2)] 43)
theorem three {P : Nat → Prop} (h0 : P 0) (h1 : P 1) (h2 : P 2) : ∀ q, q < 3 → P q := by
  intro q hq
  have : q = 0 ∨ q = 1 ∨ q = 2 := by omega
  rcases this with rfl | rfl | rfl <;> assumption
theorem cells3 {w : World} {g t : Nat} {v : Nat → Value} {fr : Nat × Nat} (h : w.heap[g]? = some (.cells #[v 0, v 1, v 2] t fr)) : ∀ q, q < 3 → w.cell? ⟨g, q, none⟩ = some (v q) :=
  three (by rw [cell_of_row w g 0 _ _ _ h]; rfl) (by rw [cell_of_row w g 1 _ _ _ h]; rfl) (by rw [cell_of_row w g 2 _ _ _ h]; rfl)
theorem set3 {w : World} {g t : Nat} {v : Nat → Value} (h : w.heap[g]? = some (.cells #[v 0, v 1, v 2] t)) (x : Value) : ∀ q, q < 3 → (w.setCell ⟨g, q, none⟩ x).heap[g]? = some (.cells #[upq v q x 0, upq v q x 1, upq v q x 2] t) :=
  three (heap_setCell_same w g 0 _ _ _ h) (heap_setCell_same w g 1 _ _ _ h) (heap_setCell_same w g 2 _ _ _ h)
/-- where the three lie -/
structure Dst (B : Nat) (g ch : Nat → Nat) : Prop where
  gi : ∀ i j, i < 3 → j < 3 → i ≠ j → g i ≠ g j
  ci : ∀ i j, i < 3 → j < 3 → i ≠ j → ch i ≠ ch j
  gb : ∀ i, i < 3 → B ≤ g i
  cb : ∀ i, i < 3 → B ≤ ch i
/-- what lies in memory between two acts -/
structure Stt (w W : World) (gq gw gc : Nat) (g ch : Nat → Nat) (room : Nat) (ls : Nat → List ByteArray) (cl : Nat → Bool) : Prop where
  q : QS W g ch room ls cl
  s : WS W gw ls
  c : CS W gc cl
  p : W.heap[gq]? = some (.cells #[.pointer (some ⟨g 0, 0, none⟩), .pointer (some ⟨g 1, 0, none⟩), .pointer (some ⟨g 2, 0, none⟩)] 24)
  l : ∀ i, i < 3 → (ls i).length ≤ room ∧ ∀ x ∈ ls i, x.size ≤ 100
  b : Below w.heap.size w W
theorem QS.below {W W' : World} {g ch : Nat → Nat} {room : Nat} {ls : Nat → List ByteArray} {cl : Nat → Bool} (h : QS W g ch room ls cl) (hb : Below W.heap.size W W') : QS W' g ch room ls cl := fun q hq => (h q hq).below hb
theorem WS.below {W W' : World} {gw : Nat} {ls : Nat → List ByteArray} (h : WS W gw ls) (hb : Below W.heap.size W W') : WS W' gw ls := by
  obtain ⟨v, h1, h2⟩ := h
  exact ⟨v, (Chg.of_below (S := fun _ => False) hb).heap h1 (by simp), fun q hq => (h2 q hq).chg (Chg.of_below (S := fun _ => False) hb) (fun _ h => h.elim)⟩
theorem Stt.below {w W W' : World} {gq gw gc : Nat} {g ch : Nat → Nat} {room : Nat} {ls : Nat → List ByteArray} {cl : Nat → Bool} (h : Stt w W gq gw gc g ch room ls cl) (hb : Below W.heap.size W W') : Stt w W' gq gw gc g ch room ls cl :=
  ⟨h.q.below hb, h.s.below hb, (Chg.of_below (S := fun _ => False) hb).heap h.c (by simp), (Chg.of_below (S := fun _ => False) hb).heap h.p (by simp), h.l, below_then h.b h.b.size hb⟩
end Go.Proofs.Ythecekkophbceaa
