/- DevPlays: the loop's body and its invariant. -/
import Derived.Test.YtbpecfbliglboaaDP0
namespace Go.Proofs.Ytbpecfbliglboaa
open Go.RowKit Go.Maps
set_option linter.unusedVariables false
set_option linter.unusedSimpArgs false
def firstLoop : Code → Option Code
  | .loop c => some c
  | .seq a b => match firstLoop a with
    | some c => some c
    | none => firstLoop b
  | .block _ c => firstLoop c
  | .scope c => firstLoop c
  | .cond _ a b => match firstLoop a with
    | some c => some c
    | none => firstLoop b
  | _ => none
noncomputable def dpBody : Code := ((Try.f7.body.bind firstLoop).getD .skip)
/-- a frame: some slots named, the others whatever -/
def frame (nl : List (Nat × Value)) (f : Nat → Value) (n : Nat) : List Value := (List.range n).map fun i => (nl.lookup i).getD (f i)
theorem lookup_mem {nl : List (Nat × Value)} {i : Nat} {v : Value} (h : nl.lookup i = some v) : (i, v) ∈ nl := by
  induction nl with
  | nil => cases h
  | cons p nl ih =>
    obtain ⟨k, u⟩ := p
    rw [List.lookup_cons] at h
    by_cases e : i = k
    · subst e
      rw [beq_self_eq_true] at h
      injection h with h
      subst h
      exact List.mem_cons_self ..
    · rw [show (i == k) = false by rw [beq_eq_false_iff_ne]; exact e] at h
      exact List.mem_cons_of_mem _ (ih h)
theorem frame_eq (nl : List (Nat × Value)) (t : Array Value) (n : Nat) (h : t.size = n) (hn : ∀ p ∈ nl, t.getD p.1 undef = p.2) : t = (frame nl (fun i => t.getD i undef) n).toArray := by
  apply Array.ext
  · simp [frame, h]
  · intro i h1 h2
    simp only [frame, List.getElem_toArray, List.getElem_map, List.getElem_range]
    have hg : t.getD i undef = t[i] := by simp [h1]
    cases hl : nl.lookup i with
    | none => rw [Option.getD_none, hg]
    | some v =>
      have h5 : t.getD i undef = v := hn _ (lookup_mem hl)
      rw [Option.getD_some, ← hg, h5]
def dpN (n m c g r : Nat) (A : Addr) (k : Nat) : List (Nat × Value) := [(0, .int .i64 n), (1, .slice (some A) m c), (5, .pointer (some ⟨g, 0, none⟩)), (7, .pointer (some ⟨r, 0, none⟩)), (8, .int .i64 k)]
def DI (w : World) (A : Addr) (n m c B g r : Nat) (vs : Value) (a : Act) (W : World) : Prop :=
  a.defers = [] ∧ a.tmps.size = 240 ∧ ∃ k d, (∀ p ∈ dpN n m c g r A k, a.tmps.getD p.1 undef = p.2) ∧ k ≤ m ∧ d.sectors = n ∧ P2 w W B g r vs (2 * k) d d
def dpMu (m : Nat) (a : Act) (_ : World) : Nat := m - (intOf (a.tmps.getD 8 undef)).toNat
def dchkTbl (n u : Nat) (b : Bool) : Nat → Option Sp
  | 4 => some (.val (.bool b))
  | 13 => some (.val (.int .i64 u))
  | 15 => some (.val (.int .i64 u))
  | 20 => some (.val (.int .i64 n))
  | _ => none
theorem sect_write (d : DevMath.Dev) (a : Int) (l : List UInt8) : (d.write a l).1.sectors = d.sectors := by
  unfold DevMath.Dev.write
  repeat (first | split | rfl | exact burn_sectors d)
theorem sect_flush (d : DevMath.Dev) : d.flush.1.sectors = d.sectors := by
  unfold DevMath.Dev.flush
  repeat (first | split | rfl | exact burn_sectors d)
theorem sect_crash (d : DevMath.Dev) (keep : List Int) (torn : Int) : (d.crash keep torn).sectors = d.sectors := by
  unfold DevMath.Dev.crash; split <;> rfl
theorem sect_fused (d : DevMath.Dev) (calls : Int) (keep : List Int) (torn : Int) : (d.fused calls keep torn).sectors = d.sectors := by
  unfold DevMath.Dev.fused; split <;> rfl
end Go.Proofs.Ytbpecfbliglboaa
