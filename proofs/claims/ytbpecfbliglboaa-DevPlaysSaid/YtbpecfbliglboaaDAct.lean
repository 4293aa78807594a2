/- The laws' acts, as arguments. -/
import Derived.Test.YtbpecfbliglboaaDAwake
import Derived.Test.YtbpecfbliglboaaOpen
namespace Go.Proofs.Ytbpecfbliglboaa
open Go.RowKit Go.Maps
set_option linter.unusedVariables false
set_option linter.unusedSimpArgs false
structure ActD where
  op : Int
  at_ : Int
  torn : Int
  c : UInt8
  keep : List Int
def KAct (w : World) (x : ActD) (cs : List Value) : Prop := ∃ A c, cs = [.int .i64 x.op, .int .i64 x.at_, .int .i64 x.torn, .int .u8 (x.c.toNat : Int), .slice A x.keep.length c] ∧ (Lit.int .i64 x.op).wf = true ∧ (Lit.int .i64 x.at_).wf = true ∧ (Lit.int .i64 x.torn).wf = true ∧ x.keep.length ≤ c ∧ x.keep.length * 8 ≤ 140737488351232 ∧ Row (KInt .i64) 1 w A x.keep
theorem opn_act : Opn Try.prog 32 KAct := by
  refine Opn.imp (Opn.struct (n := 5) Try.underlying32 (by kernel_rfl) (OpnF.cons (sz := 1) (by kernel_rfl) (Opn.int Try.underlying3) (OpnF.cons (sz := 1) (by kernel_rfl) (Opn.int Try.underlying3) (OpnF.cons (sz := 1) (by kernel_rfl) (Opn.int Try.underlying3) (OpnF.cons (sz := 1) (by kernel_rfl) (Opn.byte Try.underlying5) (OpnF.cons (sz := 1) (by kernel_rfl) (Opn.slice Try.underlying30 (by kernel_rfl : Try.prog.cellsOf 3 = 1) (by kernel_rfl : Try.prog.bytesOf 3 = 8) (Opn.int Try.underlying3)) OpnF.nil)))))) ?_
  rintro w ⟨op, at_, torn, c, keep, _⟩ cs ⟨hl, h1, h2, h3, h4, h5, _⟩
  obtain ⟨v0, v1, v2, v3, v4, rfl⟩ : ∃ v0 v1 v2 v3 v4, cs = [v0, v1, v2, v3, v4] := by
    match cs, hl with
    | [v0, v1, v2, v3, v4], _ => exact ⟨v0, v1, v2, v3, v4, rfl⟩
  obtain ⟨e1, f1⟩ := h1; obtain ⟨e2, f2⟩ := h2; obtain ⟨e3, f3⟩ := h3
  obtain ⟨A, k, e5, f5, _, f6, f7⟩ := h5
  have e4 : [v3] = [Value.int .u8 (c.toNat : Int)] := h4
  simp at e1 e2 e3 e4 e5
  subst e1; subst e2; subst e3; subst e4; subst e5
  exact ⟨⟨op, at_, torn, c, keep⟩, A, k, rfl, f1, f2, f3, f5, f6, f7⟩
theorem IntR.of_row {w : World} {A : Option Addr} {c : Nat} {ks : List Int} (h : Row (KInt .i64) 1 w A ks) (hc : ks.length ≤ c) : IntR w (.slice A ks.length c) ks := by
  refine ⟨A, c, rfl, hc, fun hp => ?_⟩
  obtain ⟨a, e, hr⟩ := h hp
  refine ⟨a, e, fun j hj => ?_⟩
  obtain ⟨cs, hcl, hK, hcell⟩ := hr j hj
  have h0 := hcell 0 (by omega)
  obtain ⟨hK, _⟩ := hK
  subst hK
  simpa using h0
theorem add_fld (a : Addr) (m i : Nat) : a.add (m + (i + 1)) = ⟨(a.add m).block, (a.add m).off + (i + 1), none⟩ := by
  rw [← Go.Deep.add_add]
  unfold Addr.add
  simp
theorem act_at {w : World} {A : Option Addr} {xs : List ActD} (h : Row KAct 5 w A xs) (j : Nat) (hj : j < xs.length) : ∃ a, A = some a ∧ w.cell? (a.add (j * 5)) = some (.int .i64 xs[j].op) ∧ w.cell? ⟨(a.add (j * 5)).block, (a.add (j * 5)).off + 1, none⟩ = some (.int .i64 xs[j].at_) ∧ w.cell? ⟨(a.add (j * 5)).block, (a.add (j * 5)).off + 2, none⟩ = some (.int .i64 xs[j].torn) ∧ w.cell? ⟨(a.add (j * 5)).block, (a.add (j * 5)).off + 3, none⟩ = some (.int .u8 (xs[j].c.toNat : Int)) ∧
    ∃ kv, w.cell? ⟨(a.add (j * 5)).block, (a.add (j * 5)).off + 4, none⟩ = some kv ∧ IntR w kv xs[j].keep ∧ (Lit.int .i64 xs[j].op).wf = true ∧ (Lit.int .i64 xs[j].at_).wf = true ∧ (Lit.int .i64 xs[j].torn).wf = true ∧ xs[j].keep.length ≤ 100000000000000 := by
  obtain ⟨a, e, hr⟩ := h (by omega)
  obtain ⟨cs, hcl, ⟨A', c, hcs, h1, h2, h3, h4, h5, h6⟩, hcell⟩ := hr j hj
  subst hcs
  exact ⟨a, e, hcell 0 (by simp), add_fld a (j * 5) 0 ▸ hcell 1 (by simp), add_fld a (j * 5) 1 ▸ hcell 2 (by simp), add_fld a (j * 5) 2 ▸ hcell 3 (by simp), _, add_fld a (j * 5) 3 ▸ hcell 4 (by simp), IntR.of_row h6 h4, h1, h2, h3, by omega⟩
theorem Row.below {α : Type} {K : World → α → List Value → Prop} {sz : Nat} {w w1 : World} {A : Option Addr} {xs : List α} (h : Row K sz w A xs) (hb : Below w.heap.size w w1) (hK : ∀ x cs, K w x cs → K w1 x cs) : Row K sz w1 A xs := fun hp => by
  obtain ⟨a, e, hr⟩ := h hp
  refine ⟨a, e, fun j hj => ?_⟩
  obtain ⟨cs, h1, h2, h3⟩ := hr j hj
  exact ⟨cs, h1, hK _ _ h2, fun i hi => cell_below hb (h3 i hi)⟩
theorem KAct.below {w w1 : World} (hb : Below w.heap.size w w1) (x : ActD) (cs : List Value) (h : KAct w x cs) : KAct w1 x cs := by
  obtain ⟨A, c, h1, h2, h3, h4, h5, h6, h7⟩ := h
  exact ⟨A, c, h1, h2, h3, h4, h5, h6, h7.below hb (fun _ _ h => h)⟩
/-- arguments stay -/
theorem acts_below {w w1 : World} {A : Option Addr} {xs : List ActD} (h : Row KAct 5 w A xs) (hb : Below w.heap.size w w1) : Row KAct 5 w1 A xs := h.below hb (KAct.below hb)
theorem Mb.tk {w w' : World} {g e : Nat} {l : List UInt8} (h : Mb w g e l) (ht : TK w w') (h1 : e ≠ 71) (h2 : e ≠ 75) : Mb w' g e l := by
  obtain ⟨h0, cur, h3, h4⟩ := h
  exact ⟨h0, cur, ht g cur e _ h1 h2 h3, h4⟩
end Go.Proofs.Ytbpecfbliglboaa
