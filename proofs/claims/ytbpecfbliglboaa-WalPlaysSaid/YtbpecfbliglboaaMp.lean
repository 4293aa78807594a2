/- A map from numbers to slices, by what it holds at each number. -/
import Derived.Test.YtbpecfbliglboaaClone
import Derived.Maps.OwnSet
import Derived.Maps.Views
namespace Go.Proofs.Ytbpecfbliglboaa
open Go.RowKit Go.Maps
set_option linter.unusedVariables false
set_option linter.unusedSimpArgs false
/-- an element reads as itself -/
def selfElem (v : Value) : Option (DataW Value × List MemPlace) := some (.held v, [])
theorem self_inv {v x : Value} {ps : List MemPlace} (h : selfElem v = some (.held x, ps)) : v = x := by
  have h1 : (DataW.held v : DataW Value) = .held x := by
    have := congrArg (Option.map Prod.fst) h
    exact Option.some.inj this
  exact DataW.held.inj h1
theorem law_int : Keyed Try.prog 3 := int_keyed Try.underlying3
theorem zero_sl (w : World) : (zeroValue 33).run Try.prog w = .ok (.slice none 0 0) w := by
  kernel_rfl
/-- block b is a map that holds f -/
def Mp (w : World) (b n : Nat) (f : Int → Option Value) : Prop :=
  ∃ D : DataW Value, w.ownsMap Try.prog 3 selfElem b n D ∧ ∀ k, (Lit.int .i64 k).wf = true → has D (.int .i64 k) = (f k).isSome ∧ ∀ v, f k = some v → ∀ z, D.atKey (.int .i64 k) z = .held v
theorem Mp.made (w : World) : Mp (w.alloc (.map #[] 0)) w.heap.size 0 (fun _ => none) :=
  ⟨.map [], World.ownsMap_made w _ _ _, fun k _ => ⟨rfl, fun v h => by cases h⟩⟩
theorem Mp.kept {w w' : World} {b n : Nat} {f : Int → Option Value} {row : Option Nat} (h : Mp w b n f) (hg : w.grownBy w' row) (hne : some b ≠ row) : Mp w' b n f := by
  obtain ⟨D, h1, h2⟩ := h
  exact ⟨D, h1.kept hg hne, h2⟩
theorem Mp.lt {w : World} {b n : Nat} {f : Int → Option Value} (h : Mp w b n f) : b < w.heap.size := by
  obtain ⟨D, h1, _⟩ := h
  exact h1.lt
theorem Mp.look {w : World} {b n : Nat} {f : Int → Option Value} (h : Mp w b n f) (k : Int) (wf : (Lit.int .i64 k).wf = true) :
    (Instr.lookup 68 (.map (some b)) (.int .i64 k) true).run Try.prog w = .ok (.tuple #[(f k).getD (.slice none 0 0), .bool (f k).isSome]) w := by
  obtain ⟨D, h1, h2⟩ := h
  obtain ⟨hh, hv⟩ := h2 k wf
  obtain ⟨v, ps, hrun, hR⟩ := h1.look_ok law_int Try.underlying68 (zero_sl w) (zd := .held (.slice none 0 0)) (zp := []) rfl (keyOf_int_mk Try.underlying3 wf)
  rw [hrun, hh]
  have : v = (f k).getD (.slice none 0 0) := by
    cases hf : f k with
    | none =>
      rw [hf] at hh
      rw [atKey_of_not_has hh] at hR
      exact self_inv hR
    | some x =>
      rw [hv x hf] at hR
      exact self_inv hR
  rw [this]
theorem Mp.update {w : World} {b n : Nat} {f : Int → Option Value} (h : Mp w b n f) (hn : n < maxLen) (k : Int) (wf : (Lit.int .i64 k).wf = true) (v : Value) :
    ∃ w', (Instr.mapUpdate 68 (.map (some b)) (.int .i64 k) v).run Try.prog w = .ok () w' ∧ Mp w' b (n + 1) (fun j => if j = k then some v else f j) ∧ w.grownBy w' (some b) := by
  obtain ⟨D, h1, h2⟩ := h
  obtain ⟨w', hrun, h3, h4⟩ := h1.update law_int Try.underlying68 hn (keyOf_int_mk Try.underlying3 wf) (d := .held v) (ps := []) rfl
  refine ⟨w', hrun, ⟨_, h3, fun j wj => ?_⟩, h4⟩
  dsimp only
  by_cases hj : j = k
  · subst hj
    rw [if_pos rfl]
    exact ⟨has_put_same h1.isMap (by trivial) _, fun x hx z => by rw [atKey_put_same h1.isMap (by trivial), Option.some.inj hx]⟩
  · rw [if_neg hj]
    have hne : (Lit.int .i64 j) ≠ (Lit.int .i64 k) := fun e => hj (Lit.int.inj e).2
    exact ⟨by rw [has_put_other hne]; exact (h2 j wj).1, fun x hx z => by rw [atKey_put_other hne]; exact (h2 j wj).2 x hx z⟩
theorem tight {w : World} {b n m : Nat} {D : DataW Value} (h : w.ownsMap Try.prog 3 selfElem b m D) (hs : Maps.size D ≤ n) : w.ownsMap Try.prog 3 selfElem b n D := by
  obtain ⟨es, clock, hb, F, _, rfl⟩ := h
  exact ⟨es, clock, hb, F, by simpa [Maps.size, length_sorted] using hs, rfl⟩
/-- a key that is there takes no more room -/
theorem Mp.update2 {w : World} {b n : Nat} {f : Int → Option Value} (h : Mp w b n f) (hn : n < maxLen) (k : Int) (wf : (Lit.int .i64 k).wf = true) (v : Value) :
    ∃ w', (Instr.mapUpdate 68 (.map (some b)) (.int .i64 k) v).run Try.prog w = .ok () w' ∧ Mp w' b (if (f k).isSome then n else n + 1) (fun j => if j = k then some v else f j) ∧ w.grownBy w' (some b) := by
  obtain ⟨D, h1, h2⟩ := h
  obtain ⟨w', hrun, h3, h4⟩ := h1.update law_int Try.underlying68 hn (keyOf_int_mk Try.underlying3 wf) (d := .held v) (ps := []) rfl
  have hsz := h1.size_le
  have hput := size_put (k := .int .i64 k) (h1.tidy law_int) (.held v)
  rw [(h2 k wf).1] at hput
  refine ⟨w', hrun, ⟨_, tight h3 (by split at hput <;> split <;> simp_all), fun j wj => ?_⟩, h4⟩
  dsimp only
  by_cases hj : j = k
  · subst hj
    rw [if_pos rfl]
    exact ⟨has_put_same h1.isMap (by trivial) _, fun x hx z => by rw [atKey_put_same h1.isMap (by trivial), Option.some.inj hx]⟩
  · rw [if_neg hj]
    have hne : (Lit.int .i64 j) ≠ (Lit.int .i64 k) := fun e => hj (Lit.int.inj e).2
    exact ⟨by rw [has_put_other hne]; exact (h2 j wj).1, fun x hx z => by rw [atKey_put_other hne]; exact (h2 j wj).2 x hx z⟩
end Go.Proofs.Ytbpecfbliglboaa
