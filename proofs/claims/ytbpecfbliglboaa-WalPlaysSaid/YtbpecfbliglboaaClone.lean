/- bytes.Clone: the bytes in a slice of the call's own; what changes and what stays: Chg. -/
import Derived.Test.YtbpecfbliglboaaRelTail
import Derived.Test.YtbpecfbliglboaaComm
import Derived.Lib.Hide
import Derived.KernelRfl
import Derived.Lib.BufferRead
namespace Go.Proofs.Ytbpecfbliglboaa
open Go.RowKit
set_option linter.unusedVariables false
set_option linter.unusedSimpArgs false
theorem clone_any (w : World) (A : Option Addr) (c : Nat) (l : List UInt8) (hr : Rd w A l) (hl : l.length ≤ 140737488351232) :
    Calls Try.prog 44 #[.slice A l.length c] w fun e w' => ∃ v, e = .returned v ∧ Ob w' w.heap.size 5 v l ∧ Below w.heap.size w w' := by
  have ht := Try.underlying33
  have hi : (Try.prog.info? 5).map (fun i => (i.zero, i.size, i.bytes)) = some (some (.int .u8 0), 1, 1) := by kernel_rfl
  have q22 : ∀ (w : World) (a : Option Addr) (n c n' c' : Nat), (binOp .eql 33 (.slice a n c) (.slice none n' c')).run Try.prog w = .ok (.bool a.isNone) w := fun w a n c n' c' => Lib.run_eql_slice_nil w _ _ a n c n' c' ht
  obtain ⟨n, hnn⟩ : ∃ n, n = l.length := ⟨_, rfl⟩
  rw [← hnn] at hl ⊢
  cases A with
  | none =>
    have he : l = [] := by
      rcases l with _ | ⟨x, l⟩
      · rfl
      · obtain ⟨a, h, _⟩ := hr.2 (by simp)
        cases h
    subst he
    simp at hnn
    subst hnn
    go_enter Try.func44, Try.ntmps44
    go_wp2
    go_ret
    exact ⟨_, rfl, Ob.nil _ _ _, Below.refl _ _⟩
  | some a =>
    have HN := Lib.hid hnn; clear hnn
    go_enter Try.func44, Try.ntmps44
    go_wp2_with (at_builtin; go_loud (refine wpList_appn (w0 := w) w.heap.size rfl (.tmp 5) (.tmp 6) 33 5 rfl ht hi _ [] l (some a) n c rfl rfl HN.out.symm (Ob.empty w w.heap.size 5 (Nat.le_refl _)) (hr.alloc _) ((Below.refl _ w).alloc (Nat.le_refl _) _) (by simp) (by simp; omega) ?_))
    intro v1 w1 ho hb _ _
    go_wp2
    go_ret
    exact ⟨_, rfl, ho, hb⟩
/-- The world may have turned at the blocks S alone. -/
structure Chg (S : Nat → Prop) (w w' : World) : Prop where
  os : w'.os = w.os
  tape : w'.tape = w.tape
  output : w'.output = w.output
  size : w.heap.size ≤ w'.heap.size
  block : ∀ k, k < w.heap.size → ¬ S k → w'.heap[k]? = w.heap[k]?
theorem Chg.refl (S : Nat → Prop) (w : World) : Chg S w w := ⟨rfl, rfl, rfl, Nat.le_refl _, fun _ _ _ => rfl⟩
theorem Chg.trans {S : Nat → Prop} {a b c : World} (h : Chg S a b) (k : Chg S b c) : Chg S a c :=
  ⟨k.os.trans h.os, k.tape.trans h.tape, k.output.trans h.output, Nat.le_trans h.size k.size, fun i hi hn => (k.block i (Nat.lt_of_lt_of_le hi h.size) hn).trans (h.block i hi hn)⟩
theorem Chg.imp {S T : Nat → Prop} {a b : World} (h : Chg S a b) (hi : ∀ k, S k → T k) : Chg T a b := ⟨h.os, h.tape, h.output, h.size, fun k hk hn => h.block k hk (fun hs => hn (hi k hs))⟩
theorem Chg.of_below {S : Nat → Prop} {a b : World} (h : Below a.heap.size a b) : Chg S a b := ⟨h.os, h.tape, h.output, h.size, fun k hk _ => h.block k hk⟩
/-- above a bound, all that is written lies above the bound -/
theorem Chg.below {S : Nat → Prop} {B : Nat} {w a b : World} (h0 : Below B w a) (h : Chg S a b) (hB : B ≤ a.heap.size) (hS : ∀ k, S k → B ≤ k) : Below B w b :=
  h0.trans ⟨h.os, h.tape, h.output, h.size, fun k hk => h.block k (Nat.lt_of_lt_of_le hk hB) (fun hs => absurd (hS k hs) (by omega))⟩
theorem Chg.heap {S : Nat → Prop} {a b : World} (h : Chg S a b) {k : Nat} {o : Obj} (hk : a.heap[k]? = some o) (hn : ¬ S k) : b.heap[k]? = some o :=
  (h.block k (Array.getElem?_eq_some_iff.1 hk).1 hn).trans hk
theorem Chg.setChan {w : World} {c cap : Nat} {buf : Array Value} {cl : Bool} {s r : Nat} {tm : Bool} : Chg (· = c) w (w.setChan c cap buf cl s r tm) :=
  ⟨rfl, rfl, rfl, by simp [World.setChan], fun k hk hn => by simp only [World.setChan]; rw [Array.getElem?_setIfInBounds_ne (fun h => hn h.symm)]⟩
theorem Chg.setCell (w : World) (g j : Nat) (v : Value) : Chg (· = g) w (w.setCell ⟨g, j, none⟩ v) := by
  have h2 := Below.setCell (Below.refl 0 w) (p := ⟨g, j, none⟩) (Nat.zero_le _) v
  exact ⟨h2.os, h2.tape, h2.output, h2.size, fun k _ hk => Below.heap_setCell w ⟨g, j, none⟩ _ k hk⟩
theorem Sl.chg {S : Nat → Prop} {w w1 : World} {v : Value} {l : List UInt8} (h : Sl w v l) (hc : Chg S w w1) (hS : ∀ k, S k → ∀ cs fr, w.heap[k]? ≠ some (.cells cs 5 fr)) : Sl w1 v l := by
  obtain ⟨A, c, h1, h2, h3, h4⟩ := h
  have hne : ∀ a, A = some a → w1.heap[a.block]? = w.heap[a.block]? := fun a e => by
    obtain ⟨cs, fr, h5⟩ := h4 a e
    exact hc.block _ (Array.getElem?_eq_some_iff.1 h5).1 (fun hs => hS _ hs cs fr h5)
  refine ⟨A, c, h1, h2, ⟨h3.1, fun hp => ?_⟩, fun a e => ?_⟩
  · obtain ⟨a, e, hc⟩ := h3.2 hp
    refine ⟨a, e, fun j hj => ?_⟩
    have h6 : (a.add j).block = a.block := by unfold Addr.add; split <;> rfl
    rw [World.cell?_of_block (w := w) (by rw [h6]; exact hne a e)]
    exact hc j hj
  · obtain ⟨cs, fr, h5⟩ := h4 a e
    exact ⟨cs, fr, (hne a e).trans h5⟩
end Go.Proofs.Ytbpecfbliglboaa
