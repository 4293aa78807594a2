/- The law WalPlays: what holds between two acts. -/
import Derived.Test.YtbpecfbliglboaaWPl0
import Derived.Test.YtbpecfbliglboaaWgC
namespace WalMath
set_option linter.unusedVariables false
open DevMath (Dev)
/-- between two acts: the log and the device, the power on or gone -/
structure PI (n : Nat) (d : Dev) (x : Lg) (dn : Bool) (al : List UInt8) (ot : List (List UInt8)) : Prop where
  n8 : 8 ≤ n
  n9 : n ≤ 8192
  sec : d.sectors = n
  ca : d.cache = []
  len : ∀ k, (sk d.safe k).length = 512
  wf : Wf n x
  up : dn = false → d.off = false ∧ tells n d.safe x
  dw : dn = true → d.off = true ∧ (tells n d.safe x ∨ ∃ x', Wf n x' ∧ tells n d.safe x' ∧ x'.buf.take x'.base = al ∧ x'.all = ot)
theorem PI.ok {n : Nat} {d : Dev} {x : Lg} {al : List UInt8} {ot : List (List UInt8)} (h : PI n d x false al ot) : Ok n d x :=
  ⟨h.n8, h.n9, ⟨h.sec, (h.up rfl).1, rfl, h.ca⟩, h.len, h.wf, (h.up rfl).2⟩
theorem Ok.pi {n : Nat} {d : Dev} {x : Lg} (h : Ok n d x) (al : List UInt8) (ot : List (List UInt8)) : PI n d x false al ot :=
  ⟨h.n8, h.n9, h.on.n, h.on.cache, h.len, h.wf, fun _ => ⟨h.on.off, h.tl⟩, fun h => nomatch h⟩
/-- a commit that fell -/
theorem PI.fell {n : Nat} {d : Dev} {x x' : Lg} {R : Dev × Int} (h : Ok n d x) (hw : Went n R x x') (hx : Wf n x') (h7 : R.2 ≠ 0) : PI n R.1 x true (x'.buf.take x'.base) x'.all := by
  refine ⟨h.n8, h.n9, hw.sec, hw.ca, hw.len, h.wf, (fun h => nomatch h), fun _ => ?_⟩
  rcases hw.out with ⟨h0, _⟩ | ⟨_, h1, h2⟩
  · exact absurd h0 h7
  · refine ⟨h1, h2.imp id fun h3 => ⟨x', hx, h3, rfl, rfl⟩⟩
theorem PI.small {n : Nat} {d : Dev} {x : Lg} {dn : Bool} {al : List UInt8} {ot : List (List UInt8)} (h : PI n d x dn al ot) : x.base ≤ x.buf.length ∧ x.buf.length ≤ 2097152 ∧ x.all.length ≤ 200000 ∧ (∀ l ∈ x.all, l.length ≤ 1000000000) := by
  obtain ⟨bb, q1, q2⟩ := h.wf.parts
  have h1 := h.wf.fits
  have h2 := h.wf.count16
  have h3 : room n ≤ 2097152 := by
    have := h.n9
    unfold room size
    omega
  refine ⟨by rw [q1, List.length_append]; omega, by omega, by omega, fun l hl => ?_⟩
  have := h.wf.small l hl
  omega
theorem crash_off (d : Dev) (keep : List Int) (torn : Int) : (d.crash keep torn).off = true := by
  unfold Dev.crash
  split
  · assumption
  · rfl
/-- the power again: the old log, or the one that the fallen call wanted -/
theorem PI.again {n : Nat} {d : Dev} {x : Lg} {dn : Bool} {al : List UInt8} {ot : List (List UInt8)} (h : PI n d x dn al ot) (keep : List Int) (torn : Int) :
    ∃ x', Ok n { d.crash keep torn with off := false } x' ∧ (x' = x ∨ (dn = true ∧ x'.buf.take x'.base = al ∧ x'.all = ot)) := by
  cases dn with
  | false => exact ⟨x, (ok_crash h.ok keep torn).1, .inl rfl⟩
  | true =>
    obtain ⟨ho, ht⟩ := h.dw rfl
    have e : d.crash keep torn = d := by
      unfold Dev.crash
      rw [if_pos ho]
    rw [e]
    rcases ht with ht | ⟨x', hw, ht, h1, h2⟩
    · exact ⟨x, ⟨h.n8, h.n9, ⟨h.sec, rfl, rfl, h.ca⟩, h.len, h.wf, ht⟩, .inl rfl⟩
    · exact ⟨x', ⟨h.n8, h.n9, ⟨h.sec, rfl, rfl, h.ca⟩, h.len, hw, ht⟩, .inr ⟨rfl, h1, h2⟩⟩
/-- a fuse laid -/
theorem PI.fused {n : Nat} {d : Dev} {x : Lg} {al : List UInt8} {ot : List (List UInt8)} (h : PI n d x false al ot) (c : Int) (keep : List Int) (torn : Int) : PI n (d.fused c keep torn) x false al ot := by
  unfold Dev.fused
  rw [if_neg (by rw [(h.up rfl).1]; decide)]
  exact ⟨h.n8, h.n9, h.sec, h.ca, h.len, h.wf, h.up, fun h => nomatch h⟩
end WalMath
namespace Go.Proofs.Ytbpecfbliglboaa
open Go.RowKit Go.Maps
set_option linter.unusedVariables false
set_option linter.unusedSimpArgs false
/-- what holds at the head of each round -/
def PR (w1 wr : World) (g gl n : Nat) (d : DevMath.Dev) (x : WalMath.Lg) (dn : Bool) (al : List UInt8) (ot : List (List UInt8)) (v10 v12 : Value) : Prop :=
  LS w1 wr w1.heap.size g gl d x dn ∧ WalMath.PI n d x dn al ot ∧ Stl wr v10 x.all ∧ Stl wr v12 ot ∧ ot.length ≤ 1000000
theorem PR.below {w1 wr w2 : World} {g gl n : Nat} {d : DevMath.Dev} {x : WalMath.Lg} {dn : Bool} {al : List UInt8} {ot : List (List UInt8)} {v10 v12 : Value} (h : PR w1 wr g gl n d x dn al ot v10 v12) (hb : Below wr.heap.size wr w2) : PR w1 w2 g gl n d x dn al ot v10 v12 :=
  ⟨h.1.below hb, h.2.1, h.2.2.1.below hb, h.2.2.2.1.below hb, h.2.2.2.2⟩
theorem PR.bel {w1 wr : World} {g gl n : Nat} {d : DevMath.Dev} {x : WalMath.Lg} {dn : Bool} {al : List UInt8} {ot : List (List UInt8)} {v10 v12 : Value} (h : PR w1 wr g gl n d x dn al ot v10 v12) : Below w1.heap.size w1 wr := h.1.ds.bel
theorem pr_all {w1 wr : World} {g gl n : Nat} {d : DevMath.Dev} {x : WalMath.Lg} {dn : Bool} {al : List UInt8} {ot : List (List UInt8)} {v10 v12 : Value} (h : PR w1 wr g gl n d x dn al ot v10 v12) :
    Calls Try.prog 38 #[.pointer (some ⟨gl, 0, none⟩)] wr fun e w' => ∃ v, e = .returned v ∧ Bso w' wr.heap.size v x.all ∧ Below wr.heap.size wr w' :=
  wall_any h.1 (by have := h.2.1.small.2.2.1; omega) h.2.1.small.2.2.2
theorem pr_base {w1 wr : World} {g gl n : Nat} {d : DevMath.Dev} {x : WalMath.Lg} {dn : Bool} {al : List UInt8} {ot : List (List UInt8)} {v10 v12 : Value} (h : PR w1 wr g gl n d x dn al ot v10 v12) :
    Calls Try.prog 37 #[.pointer (some ⟨gl, 0, none⟩)] wr fun e w' => ∃ v, e = .returned v ∧ Sl w' v (x.buf.take x.base) ∧ Below wr.heap.size wr w' :=
  wbase_any h.1 h.2.1.small.1 (by have := h.2.1.small.2.1; omega)
end Go.Proofs.Ytbpecfbliglboaa
