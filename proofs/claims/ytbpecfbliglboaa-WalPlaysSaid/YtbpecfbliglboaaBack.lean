/- slices.Backward over a row of writes: its contract. -/
import Derived.Test.YtbpecfbliglboaaDev2
import Derived.RangeFuncNested
import Derived.RangeFuncBound
import Derived.RangeFuncCalls
import Derived.RangeFuncLeaves
import Derived.Shelf.Abstract
import Derived.Shelf.RegionOpen
import Derived.WalkKit
import Derived.OwnWalkIn
import Derived.TacticsInMore
import Derived.LoopNIn
import Derived.LoopIn
namespace Go.Proofs.Ytbpecfbliglboaa
open Go.RowKit Go.Shelf
set_option linter.unusedVariables false
set_option linter.unusedSimpArgs false
attribute [local go_sem] Oper.semAt_some
def backTo {α : Type} (f : Nat → α) (k : Nat) : List α := (List.range k).map f
theorem backTo_succ {α : Type} (f : Nat → α) (k : Nat) : backTo f (k + 1) = backTo f k ++ [f k] := by simp [backTo, List.range_succ]
theorem backTo_length {α : Type} (f : Nat → α) (k : Nat) : (backTo f k).length = k := by simp [backTo]
/-- the writes' cells, from the last on -/
def bk (len : Nat) (k : Nat) : Nat := len - 1 - k
def bkEnc (z : Nat → Int × Value) (x : Nat) : Array Value := #[.int .i64 (x : Int), .agg #[.int .i64 (z x).1, (z x).2]]
/-- what lay below a bound stays, and one block more -/
def KB (n₀ Bs : Nat) (W W' : World) : Prop := Below n₀ W W' ∧ W'.heap[Bs]? = W.heap[Bs]?
theorem KB.refl (n₀ Bs : Nat) (W : World) : KB n₀ Bs W W := ⟨Below.refl _ _, rfl⟩
theorem KB.trans {n₀ Bs : Nat} {A B C : World} (h : KB n₀ Bs A B) (k : KB n₀ Bs B C) : KB n₀ Bs A C := ⟨h.1.trans k.1, k.2.trans h.2⟩
theorem KB.box {n₀ Bs : Nat} {W W' : World} (h : KB n₀ Bs W W') : W'.cell? ⟨Bs, 0, none⟩ = W.cell? ⟨Bs, 0, none⟩ := World.cell?_of_block h.2
set_option maxRecDepth 100000 in
set_option maxHeartbeats 2000000 in
theorem back1_in (F : Fence) (n : Nat) (h8 : F.fn 59) (hro : F.round = none) (hn : 1 ≤ n) (l Bs n₀ b len cap : Nat) (z : Nat → Int × Value) (hreach : len ≤ 1000000000) (hb : b < n₀) (J Jx : List Nat → World → Prop)
    (hY : ∀ pre x W, J pre W → pre.length < len → YieldAt F (n - 1) Try.prog l (bkEnc z x) W fun e W' =>
      (e = .returned (.bool true) ∧ J (pre ++ [x]) W' ∧ KB n₀ Bs W W') ∨ (e = .returned (.bool false) ∧ Jx (pre ++ [x]) W'))
    (W : World) (hBs : W.cell? ⟨Bs, 0, none⟩ = some (.slice (some ⟨b, 0, none⟩) len cap)) (hc : ∀ j, j < len → W.cell? ⟨b, j * 2, none⟩ = some (.int .i64 (z j).1) ∧ W.cell? ⟨b, j * 2 + 1, none⟩ = some (z j).2) (hcap : len ≤ cap) (h0 : J [] W) :
    CallsIn F n Try.prog 59 #[.func (.yield l) #[] #[], .pointer (some ⟨Bs, 0, none⟩)] W fun e W' => (∃ v, e = .returned v) ∧
      ((∃ ys, ys = backTo (bk len) len ∧ J ys W') ∨ (∃ pre, (∃ k, k ≤ len ∧ pre = backTo (bk len) k) ∧ Jx pre W')) := by
  refine callsIn_of_wp Try.func59 rfl h8 ?_ hro
  simp only [Try.ntmps59, List.size_toArray, List.length_cons, List.length_nil, Nat.reduceAdd, Nat.reduceSub, Array.replicate_succ, Array.replicate_zero, List.push_toArray, List.append_toArray, List.nil_append, List.cons_append]
  have hw0 : IntKind.i64.wrap ((len : Int) - 1) = (len : Int) - 1 := by rw [IntKind.wrap_i64]; omega
  gi_wp2
  gi_loopw [3] (fun i wr => ∃ k : Nat, k ≤ len ∧ i = .int .i64 ((len : Int) - 1 - (k : Int)) ∧ J (backTo (bk len) k) wr ∧ KB n₀ Bs W wr)
    (fun i _ => (intOf i + 1).toNat)
  case atStart => exact ⟨0, Nat.zero_le _, by simp, h0, KB.refl _ _ _⟩
  case round =>
    obtain ⟨k, hk, hi, hJs, hnx⟩ := hrel
    have hbs := hnx.box.trans hBs
    by_cases hlt : k < len
    · obtain ⟨j, hj⟩ : ∃ j, j = len - 1 - k := ⟨_, rfl⟩
      rw [show (len : Int) - 1 - (k : Int) = (j : Int) by omega] at hi
      subst hi
      obtain ⟨q1, q2⟩ := hc j (by omega)
      have c1 := (hnx.1.cell (p := ⟨b, j * 2, none⟩) hb).trans q1
      have c2 := (hnx.1.cell (p := ⟨b, j * 2 + 1, none⟩) hb).trans q2
      obtain ⟨fn, tmps, assign, body, hy, hR⟩ := hY _ j wr hJs (by rw [backTo_length]; exact hlt)
      unfold bkEnc at hy
      have hjl : j < len := by omega
      have hj0 : (0 : Int) ≤ j := by omega
      have HJ := Lib.hid hj
      clear hj hJs q1 q2
      gi_wp2
      refine hR.mono ?_
      rintro e W3 (⟨rfl, hJ3, hk3⟩ | ⟨rfl, hJx3⟩)
      · gi_wp2
        go_roundw
        case rel => exact ⟨k + 1, by omega, val_int (by have := HJ.out; omega), by rw [backTo_succ]; unfold bk; rw [← HJ.out]; exact hJ3, hnx.trans hk3⟩
        case measure => simp [intOf]
      · gi_wp2
        refine bodyPost_ret (results_none rfl _ _ _) rfl ?_
        exact ⟨⟨_, rfl⟩, .inr ⟨_, ⟨k + 1, by omega, by rw [backTo_succ]; unfold bk; rw [← HJ.out]⟩, hJx3⟩⟩
    · obtain rfl : k = len := by omega
      rw [show (k : Int) - 1 - (k : Int) = -1 by omega] at hi
      subst hi
      gi_wp2
      go_end0
      exact ⟨⟨_, rfl⟩, .inl ⟨_, rfl, hJs⟩⟩
set_option maxRecDepth 100000 in
set_option maxHeartbeats 1000000 in
theorem back1_nil_in (F : Fence) (n : Nat) (h8 : F.fn 59) (hro : F.round = none) (l Bs cap : Nat) (A : Option Addr) (J : List Nat → World → Prop) (W : World) (hBs : W.cell? ⟨Bs, 0, none⟩ = some (.slice A 0 cap)) (h0 : J [] W) :
    CallsIn F n Try.prog 59 #[.func (.yield l) #[] #[], .pointer (some ⟨Bs, 0, none⟩)] W fun e W' => (∃ v, e = .returned v) ∧ J [] W' := by
  refine callsIn_of_wp Try.func59 rfl h8 ?_ hro
  simp only [Try.ntmps59, List.size_toArray, List.length_cons, List.length_nil, Nat.reduceAdd, Nat.reduceSub, Array.replicate_succ, Array.replicate_zero, List.push_toArray, List.append_toArray, List.nil_append, List.cons_append]
  gi_wp2
  gi_loopw [3] (fun i wr => i = .int .i64 (-1) ∧ J [] wr) (fun _ _ => 0)
  case atStart => exact ⟨rfl, h0⟩
  case round =>
    obtain ⟨rfl, hJs⟩ := hrel
    gi_wp2
    go_end0
    exact ⟨⟨_, rfl⟩, hJs⟩
set_option maxHeartbeats 1000000 in
theorem back_in (F : Fence) (n : Nat) (h5 : F.fn 45) (hro : F.round = none) (a : Option Addr) (len cap : Nat) (w : World) :
    CallsIn F n Try.prog 45 #[.slice a len cap] w fun e w' => e = .returned (.func (.func 59) #[] #[.pointer (some ⟨w.heap.size, 0, none⟩)]) ∧ w' = w.alloc (.cells #[.slice a len cap] 69) := by
  refine callsIn_of_wp Try.func45 rfl h5 ?_ hro
  simp only [Try.ntmps45, List.size_toArray, List.length_cons, List.length_nil, Nat.reduceAdd, Nat.reduceSub, Array.replicate_succ, Array.replicate_zero, List.push_toArray, List.append_toArray, List.nil_append, List.cons_append]
  gi_wp2
  go_ret
  exact ⟨rfl, rfl⟩
/-- Backward(s) hands back a value that goes through the writes from the last on -/
theorem back_stops (F : Fence) (n : Nat) (h8 : F.fn 59) (hro : F.round = none) (hn : 1 ≤ n) (Bs n₀ len cap : Nat) (A : Option Addr) (z : Nat → Int × Value) (hreach : len ≤ 1000000000) (w : World) (hBs : Bs < w.heap.size) (hn₀ : n₀ ≤ w.heap.size) (hcap : len ≤ cap)
    (hcell : w.cell? ⟨Bs, 0, none⟩ = some (.slice A len cap)) (hc : 0 < len → ∃ b, A = some ⟨b, 0, none⟩ ∧ b < n₀ ∧ ∀ j, j < len → w.cell? ⟨b, j * 2, none⟩ = some (.int .i64 (z j).1) ∧ w.cell? ⟨b, j * 2 + 1, none⟩ = some (z j).2) :
    SeqStopsK F n Try.prog 59 #[.pointer (some ⟨Bs, 0, none⟩)] (bkEnc z) (KB n₀ Bs) (fun ys => ys = backTo (bk len) len) (fun pre => ∃ k, k ≤ len ∧ pre = backTo (bk len) k) len w := fun l J Jx W hW _ _ hY h0 => by
  have hc' := (hW.cell (p := ⟨Bs, 0, none⟩) hBs).trans hcell
  by_cases hl : 0 < len
  · obtain ⟨b, rfl, hb, hcs⟩ := hc hl
    exact back1_in F n h8 hro hn l Bs n₀ b len cap z hreach hb J Jx hY W hc' (fun j hj => ⟨((hW.mono hn₀).cell (p := ⟨b, j * 2, none⟩) hb).trans (hcs j hj).1, ((hW.mono hn₀).cell (p := ⟨b, j * 2 + 1, none⟩) hb).trans (hcs j hj).2⟩) hcap h0
  · obtain rfl : len = 0 := by omega
    exact (back1_nil_in F n h8 hro l Bs cap A J W hc' h0).mono fun e W' ⟨he, hj⟩ => ⟨he, .inl ⟨_, rfl, hj⟩⟩
end Go.Proofs.Ytbpecfbliglboaa
