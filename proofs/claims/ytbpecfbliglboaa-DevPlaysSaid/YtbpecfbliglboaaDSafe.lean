/- The law DevSafe, walked. -/
import Derived.Test.YtbpecfbliglboaaDLast
namespace DevMath
theorem crashed_other (keep : List Int) (torn j : Int) (rs : List (Int × List UInt8)) (h : ∀ r ∈ rs, r.1 ≠ j) (i : Nat) (f : Int → Option (List UInt8)) : crashed keep torn i f rs j = f j := by
  induction rs generalizing i f with
  | nil => rfl
  | cons r rs ih =>
    have h0 := h r (List.mem_cons_self ..)
    rw [crashed, ih (fun x hx => h x (List.mem_cons_of_mem _ hx))]
    split
    · show (if j = r.1 then some r.2 else f j) = f j
      rw [if_neg (fun e => h0 e.symm)]
    · split
      · show (if j = r.1 then _ else f j) = f j
        rw [if_neg (fun e => h0 e.symm)]
      · rfl
end DevMath
namespace Go.Proofs.Ytbpecfbliglboaa
open Go.RowKit Go.Maps
set_option linter.unusedVariables false
set_option linter.unusedSimpArgs false
attribute [local irreducible] wpR relOp
/-- an array in a block of its own -/
def Cb (w : World) (g t : Nat) (vs : List Value) : Prop := w.heap[g]? = some (.cells vs.toArray t)
theorem Cb.cell {w : World} {g t : Nat} {vs : List Value} (h : Cb w g t vs) (j : Nat) (hj : j < vs.length) : w.cell? ⟨g, j, none⟩ = some vs[j] ∧ w.frozen? ⟨g, j, none⟩ = false :=
  ⟨by rw [cell_of_row w g j _ _ _ h]; simp [hj], frozen_of_row w g j _ _ h⟩
theorem Cb.set {w : World} {g t : Nat} {vs : List Value} (h : Cb w g t vs) (j : Nat) (v : Value) : Cb (w.setCell ⟨g, j, none⟩ v) g t (vs.set j v) := by
  have := heap_setCell_same w g j _ _ v h
  unfold Cb
  rw [this]
  simp
theorem Cb.tk {w w' : World} {g t : Nat} {vs : List Value} (h : Cb w g t vs) (ht : TK w w') (h1 : t ≠ 71 := by decide) (h2 : t ≠ 75 := by decide) : Cb w' g t vs := ht g _ t _ h1 h2 h
theorem Cb.below {w w' : World} {g t : Nat} {vs : List Value} (h : Cb w g t vs) (hb : Below w.heap.size w w') : Cb w' g t vs := (hb.block _ (Array.getElem?_eq_some_iff.1 h).1).trans h
theorem Cb.ne {w : World} {g g' t t' : Nat} {vs vs' : List Value} (h : Cb w g t vs) (h' : Cb w g' t' vs') (ht : t ≠ t') : g ≠ g' := by
  intro e
  subst e
  have := h.symm.trans h'
  injection this with this
  injection this with _ this
  exact ht this
theorem Cb.set_other {w : World} {g b i t : Nat} {v : Value} {vs : List Value} (h : Cb w g t vs) (hne : g ≠ b) : Cb (w.setCell ⟨b, i, none⟩ v) g t vs := (Chg.setCell w b i v).heap h (fun e => hne e)
def strv (l : List UInt8) : Value := .string ⟨l.toArray⟩
/-- a device whose power is on, without a fuse -/
structure Calm (d : DevMath.Dev) (k : Nat) : Prop where
  off : d.off = false
  fuse : d.fuse = 0
  sec : d.sectors = 8
  ca : d.cache.length ≤ k
theorem Calm.has {d : DevMath.Dev} {k : Nat} (h : Calm d k) (j : Nat) (hj : j < 8) : d.has j = true := by
  simp [DevMath.Dev.has, h.sec]; omega
theorem Calm.write {d : DevMath.Dev} {k : Nat} (h : Calm d k) (j : Nat) (hj : j < 8) (c : UInt8) : ∃ d', d.write j (DevMath.sec c) = (d', 0) ∧ Calm d' (k + 1) ∧ d'.safe = d.safe ∧ d'.cache = d.cache ++ [((j : Int), DevMath.sec c)] := by
  refine ⟨_, DevMath.write_plain d j _ h.off h.fuse (h.has j hj) (DevMath.sec_len c), ⟨h.off, h.fuse, h.sec, ?_⟩, rfl, rfl⟩
  show (d.cache ++ [((j : Int), DevMath.sec c)]).length ≤ k + 1
  rw [List.length_append]
  have := h.ca
  simp only [List.length_cons, List.length_nil]
  omega
theorem Calm.flush {d : DevMath.Dev} {k : Nat} (h : Calm d k) : ∃ d', d.flush = (d', 0) ∧ Calm d' 0 ∧ d'.cache = [] :=
  ⟨_, DevMath.flush_plain d h.off h.fuse, ⟨h.off, h.fuse, h.sec, Nat.le_refl _⟩, rfl⟩
structure Over (d : DevMath.Dev) (k : Nat) (was : List (List UInt8)) (ov : List Bool) : Prop where
  calm : Calm d k
  lw : was.length = 8
  lo : ov.length = 8
  sv : ∀ j, (h : j < was.length) → d.sector j = was[j]
  cv : ∀ r ∈ d.cache, ∃ j : Nat, r.1 = j ∧ ov[j]? = some true
theorem Over.write {d : DevMath.Dev} {k : Nat} {was : List (List UInt8)} {ov : List Bool} (h : Over d k was ov) (j : Nat) (hj : j < 8) (c : UInt8) : ∃ d', d.write j (DevMath.sec c) = (d', 0) ∧ Over d' (k + 1) was (ov.set j true) := by
  obtain ⟨d', h1, h2, h3, h4⟩ := h.calm.write j hj c
  refine ⟨d', h1, h2, h.lw, by rw [List.length_set]; exact h.lo, fun i hi => ?_, fun r hr => ?_⟩
  · have := h.sv i hi
    unfold DevMath.Dev.sector at *
    rw [h3]; exact this
  · rw [h4] at hr
    rcases List.mem_append.1 hr with hr | hr
    · obtain ⟨i, e, hi⟩ := h.cv r hr
      refine ⟨i, e, ?_⟩
      rw [List.getElem?_set]
      split
      · rename_i e2
        subst e2
        rw [if_pos (by rw [h.lo]; exact hj)]
      · exact hi
    · simp at hr
      subst hr
      exact ⟨j, rfl, by rw [List.getElem?_set, if_pos rfl, if_pos (by rw [h.lo]; exact hj)]⟩
theorem Over.crash {d : DevMath.Dev} {k : Nat} {was : List (List UInt8)} {ov : List Bool} (h : Over d k was ov) (keep : List Int) (torn : Int) :
    Calm { d.crash keep torn with off := false } 0 ∧ ({ d.crash keep torn with off := false } : DevMath.Dev).cache = [] ∧ ∀ j, (hj : j < was.length) → ov[j]? = some false → ({ d.crash keep torn with off := false } : DevMath.Dev).val j = was[j] := by
  have e : d.crash keep torn = { d with safe := DevMath.crashed keep torn 0 d.safe d.cache, cache := [], off := true, fuse := 0 } := by
    unfold DevMath.Dev.crash
    rw [if_neg (by rw [h.calm.off]; decide)]
  rw [e]
  refine ⟨⟨rfl, rfl, h.calm.sec, Nat.le_refl _⟩, rfl, fun j hj ho => ?_⟩
  show (DevMath.crashed keep torn 0 d.safe d.cache j).getD DevMath.zeros = was[j]
  rw [DevMath.crashed_other _ _ _ _ (fun r hr e => ?_)]
  · exact h.sv j hj
  · obtain ⟨i, e2, hi⟩ := h.cv r hr
    have : i = j := by omega
    subst this
    rw [ho] at hi
    cases hi
theorem DS.inv {w0 w : World} {B g : Nat} {d : DevMath.Dev} (h : DS w0 w B g d) : DvI d := by
  obtain ⟨m, vc, vk, h1, h2, h3, h4, h5⟩ := h; exact h2
theorem DS.vlen {w0 w : World} {B g : Nat} {d : DevMath.Dev} (h : DS w0 w B g d) (k : Int) : (d.val k).length = 512 :=
  DevMath.val_len d (fun k l e => (h.inv.sf k l e).2.2) (fun r hr => (h.inv.cf r hr).2.2) k
theorem fill_set (f : Nat → Value) (z : Value) (p : Nat) (hp : p < 8) : ((List.range p).map f ++ List.replicate (8 - p) z).set p (f p) = (List.range (p + 1)).map f ++ List.replicate (8 - (p + 1)) z := by
  rw [List.set_append_right _ _ (by simp), List.length_map, List.length_range, Nat.sub_self, show 8 - p = (8 - (p + 1)) + 1 by omega, List.replicate_succ, List.set_cons_zero, List.range_succ, List.map_append, List.append_assoc]
  rfl
theorem fill_len (f : Nat → Value) (z : Value) (p : Nat) (hp : p ≤ 8) : ((List.range p).map f ++ List.replicate (8 - p) z).length = 8 := by
  simp; omega
/-- what is read at a number below eight -/
theorem ds_read8 {w0 w : World} {B g k : Nat} {d : DevMath.Dev} (h : DS w0 w B g d) (hC : Calm d k) (hk : k ≤ 1000000) (p : Nat) (hp : p < 8) :
    Calls Try.prog 18 #[.pointer (some ⟨g, 0, none⟩), .int .i64 p] w fun e w' => ∃ A c, e = .returned (.tuple #[.slice A 512 c, .int .i64 0]) ∧ Sl w' (.slice A 512 c) (d.val p) ∧ 512 ≤ c ∧ (convert 33 9 (.slice A 512 c)).run Try.prog w' = .ok (strv (d.val p)) w' ∧ DS w0 w' B g d ∧ Below w.heap.size w w' := by
  have hcon := ds_read h (by have := hC.ca; omega) p (by simp [Lit.wf, IntKind.min, IntKind.max, IntKind.signed, IntKind.bits]; omega)
  rw [DevMath.read_val _ _ hC.off (hC.has p hp)] at hcon
  refine hcon.mono ?_
  rintro e w1 ⟨v, rfl, h1, h2, h3⟩
  have h1' : Sl w1 v (d.val p) := h1
  obtain ⟨A, c, rfl, h4, h5⟩ := h1'.rd
  rw [h.vlen] at h1' h4
  exact ⟨A, c, by rw [h.vlen], h1', h4, h1'.str, h2, h3⟩
end Go.Proofs.Ytbpecfbliglboaa
