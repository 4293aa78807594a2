/- A map from strings to slices, by what it holds at each key. -/
import Derived.Test.YtgaccogekmaijaaClone
import Derived.Maps.OwnSet
import Derived.Maps.Views
import Derived.StringKeys
namespace Go.Proofs.Ytgaccogekmaijaa
open Go.RowKit Go.Maps
set_option linter.unusedVariables false
set_option linter.unusedSimpArgs false
/-- an element reads as itself -/
def selfElem (v : Value) : Option (DataW Value × List MemPlace) := some (.held v, [])
theorem self_inv {v x : Value} {ps : List MemPlace} (h : selfElem v = some (.held x, ps)) : v = x := by
  have h1 : (DataW.held v : DataW Value) = .held x := by
    have := congrArg (Option.map Prod.fst) h
    exact Option.some.inj this
  exact DataW.held.inj h1
theorem law_str : Keyed Try.prog 9 := string_keyed Try.underlying9
theorem zero_sl (w : World) : (zeroValue 32).run Try.prog w = .ok (.slice none 0 0) w := by
  kernel_rfl
theorem lit_str_inj {a b : ByteArray} (h : Lit.string a.data.toList = Lit.string b.data.toList) : a = b := by
  injection h with h
  exact ByteArray.ext (Array.ext' h)
/-- block b is a map that holds f -/
def Mp (w : World) (b n : Nat) (f : ByteArray → Option Value) : Prop :=
  ∃ D : DataW Value, w.ownsMap Try.prog 9 selfElem b n D ∧ ∀ k, k.size ≤ maxLen → has D (.string k.data.toList) = (f k).isSome ∧ ∀ v, f k = some v → ∀ z, D.atKey (.string k.data.toList) z = .held v
theorem Mp.made (w : World) : Mp (w.alloc (.map #[] 0)) w.heap.size 0 (fun _ => none) :=
  ⟨.map [], World.ownsMap_made w _ _ _, fun k _ => ⟨rfl, fun v h => by cases h⟩⟩
theorem Mp.lt {w : World} {b n : Nat} {f : ByteArray → Option Value} (h : Mp w b n f) : b < w.heap.size := by
  obtain ⟨D, h1, _⟩ := h
  exact h1.lt
theorem Mp.same {w w1 : World} {b n : Nat} {f : ByteArray → Option Value} (h : Mp w b n f) (e : w1.heap[b]? = w.heap[b]?) : Mp w1 b n f := by
  obtain ⟨D, ⟨es, clock, hb, h1, h2, h3⟩, h4⟩ := h
  exact ⟨D, ⟨es, clock, e.trans hb, h1, h2, h3⟩, h4⟩
theorem Mp.blk {w : World} {b n : Nat} {f : ByteArray → Option Value} (h : Mp w b n f) : ∃ es clock, w.heap[b]? = some (.map es clock) := by
  obtain ⟨D, ⟨es, clock, hb, _⟩, _⟩ := h
  exact ⟨es, clock, hb⟩
theorem Mp.look {w : World} {b n : Nat} {f : ByteArray → Option Value} (h : Mp w b n f) (k : ByteArray) (wf : k.size ≤ maxLen) :
    (Instr.lookup 65 (.map (some b)) (.string k) true).run Try.prog w = .ok (.tuple #[(f k).getD (.slice none 0 0), .bool (f k).isSome]) w := by
  obtain ⟨D, h1, h2⟩ := h
  obtain ⟨hh, hv⟩ := h2 k wf
  obtain ⟨v, ps, hrun, hR⟩ := h1.look_ok law_str Try.underlying65 (zero_sl w) (zd := .held (.slice none 0 0)) (zp := []) rfl (Go.WideMaps.keyOf_string_mk Try.underlying9 wf)
  rw [hrun, hh]
  have : v = (f k).getD (.slice none 0 0) := by
    cases hf : f k with
    | none =>
      rw [hf] at hh
      rw [atKey_of_not_has hh] at hR
      exact self_inv hR
    | some x =>
      rw [hv x hf] at hR
      exact self_inv hR
  rw [this]
theorem Mp.update {w : World} {b n : Nat} {f : ByteArray → Option Value} (h : Mp w b n f) (hn : n < maxLen) (k : ByteArray) (wf : k.size ≤ maxLen) (v : Value) :
    ∃ w', (Instr.mapUpdate 65 (.map (some b)) (.string k) v).run Try.prog w = .ok () w' ∧ Mp w' b (n + 1) (fun j => if j = k then some v else f j) ∧ w.grownBy w' (some b) := by
  obtain ⟨D, h1, h2⟩ := h
  obtain ⟨w', hrun, h3, h4⟩ := h1.update law_str Try.underlying65 hn (Go.WideMaps.keyOf_string_mk Try.underlying9 wf) (d := .held v) (ps := []) rfl
  refine ⟨w', hrun, ⟨_, h3, fun j wj => ?_⟩, h4⟩
  dsimp only
  by_cases hj : j = k
  · subst hj
    rw [if_pos rfl]
    exact ⟨has_put_same h1.isMap (by trivial) _, fun x hx z => by rw [atKey_put_same h1.isMap (by trivial), Option.some.inj hx]⟩
  · rw [if_neg hj]
    have hne : (Lit.string j.data.toList) ≠ (Lit.string k.data.toList) := fun e => hj (lit_str_inj e)
    exact ⟨by rw [has_put_other hne]; exact (h2 j wj).1, fun x hx z => by rw [atKey_put_other hne]; exact (h2 j wj).2 x hx z⟩
theorem Mp.drop {w : World} {b n : Nat} {f : ByteArray → Option Value} (h : Mp w b n f) (k : ByteArray) (wf : k.size ≤ maxLen) (ty : TypeId) :
    ∃ w', (Builtin.delete_ #[65, 9] ty #[.map (some b), .string k]).run Try.prog w = .ok (.tuple #[]) w' ∧ Mp w' b n (fun j => if j = k then none else f j) ∧ w.grownBy w' (some b) := by
  obtain ⟨D, h1, h2⟩ := h
  obtain ⟨w', hrun, h3, h4⟩ := h1.drop law_str Try.underlying65 (Go.WideMaps.keyOf_string_mk Try.underlying9 wf) ty
  refine ⟨w', hrun, ⟨_, h3, fun j wj => ?_⟩, h4.grown⟩
  dsimp only
  by_cases hj : j = k
  · subst hj
    rw [if_pos rfl]
    exact ⟨has_del_same, fun x hx => by cases hx⟩
  · rw [if_neg hj]
    have hne : (Lit.string j.data.toList) ≠ (Lit.string k.data.toList) := fun e => hj (lit_str_inj e)
    exact ⟨by rw [has_del_other hne]; exact (h2 j wj).1, fun x hx z => by rw [atKey_del_other hne]; exact (h2 j wj).2 x hx z⟩
end Go.Proofs.Ytgaccogekmaijaa
namespace Go.Proofs.Ytgaccogekmaijaa
open Go.RowKit Go.Maps
theorem Mp.look1 {w : World} {b n : Nat} {f : ByteArray → Option Value} (h : Mp w b n f) (k : ByteArray) (wf : k.size ≤ maxLen) :
    (Instr.lookup 65 (.map (some b)) (.string k) false).run Try.prog w = .ok ((f k).getD (.slice none 0 0)) w := by
  obtain ⟨D, h1, h2⟩ := h
  obtain ⟨hh, hv⟩ := h2 k wf
  obtain ⟨v, ps, hrun, hR⟩ := h1.lookup law_str Try.underlying65 (zero_sl w) (zd := .held (.slice none 0 0)) (zp := []) rfl (Go.WideMaps.keyOf_string_mk Try.underlying9 wf)
  rw [hrun]
  have : v = (f k).getD (.slice none 0 0) := by
    cases hf : f k with
    | none =>
      rw [hf] at hh
      rw [atKey_of_not_has hh] at hR
      exact self_inv hR
    | some x =>
      rw [hv x hf] at hR
      exact self_inv hR
  rw [this]
end Go.Proofs.Ytgaccogekmaijaa
