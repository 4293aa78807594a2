/- Changes as arguments; may they be? -/
import Derived.Test.YtgaccogekmaijaaKvOne
import Derived.Test.YtgaccogekmaijaaOpen
namespace Go.Proofs.Ytgaccogekmaijaa
open Go.RowKit Go.Lib
set_option linter.unusedVariables false
set_option linter.unusedSimpArgs false
structure PutD where
  key : ByteArray
  val : List UInt8
  gone : Bool
def PutD.ent (x : PutD) : ByteArray × List UInt8 × Bool := (x.key, x.val, x.gone)
def PutD.good (x : PutD) : Bool := decide (0 < x.key.size) && decide (x.key.size ≤ 200) && decide (x.val.length ≤ 200000) && (!x.gone || decide (x.val.length = 0))
def KPut (w : World) (x : PutD) (cs : List Value) : Prop := ∃ A c, cs = [.string x.key, .slice A x.val.length c, .bool x.gone] ∧ x.val.length ≤ c ∧ Rd w A x.val ∧ x.key.size ≤ 140737488351232 ∧ x.val.length ≤ 140737488351232
theorem opn_put : Opn Try.prog 38 KPut := by
  refine Opn.imp (Opn.struct (n := 3) Try.underlying38 (by kernel_rfl) (OpnF.cons (sz := 1) (by kernel_rfl) (Opn.str Try.underlying9) (OpnF.cons (sz := 1) (by kernel_rfl) (Opn.slice Try.underlying32 (by kernel_rfl : Try.prog.cellsOf 5 = 1) (by kernel_rfl : Try.prog.bytesOf 5 = 1) (Opn.byte Try.underlying5)) (OpnF.cons (sz := 1) (by kernel_rfl) (Opn.bool Try.underlying4) OpnF.nil)))) ?_
  rintro w ⟨k, l, b, _⟩ cs ⟨hl, h1, h2, h3, _⟩
  obtain ⟨v0, v1, v2, rfl⟩ : ∃ v0 v1 v2, cs = [v0, v1, v2] := by
    match cs, hl with
    | [v0, v1, v2], _ => exact ⟨v0, v1, v2, rfl⟩
  obtain ⟨e1, f1⟩ := h1
  obtain ⟨A, c, e2, f2, _, f3, f4⟩ := h2
  have e3 : [v2] = [Value.bool b] := h3
  simp at e1 e2 e3
  subst e1; subst e2; subst e3
  exact ⟨⟨k, l, b⟩, A, c, rfl, f2, Rd.of_row f4 (by simp at f3; dsimp only at f3 ⊢; omega), f1, by simpa using f3⟩
theorem add_fld (a : Addr) (m i : Nat) : a.add (m + (i + 1)) = ⟨(a.add m).block, (a.add m).off + (i + 1), none⟩ := by
  rw [← Go.Deep.add_add]
  unfold Addr.add
  simp
/-- the j-th change, read -/
theorem put_at {w : World} {A : Option Addr} {xs : List PutD} (h : Row KPut 3 w A xs) (j : Nat) (hj : j < xs.length) : ∃ a Aj cj, A = some a ∧ w.cell? (a.add (j * 3)) = some (.string xs[j].key) ∧ w.cell? ⟨(a.add (j * 3)).block, (a.add (j * 3)).off + 1, none⟩ = some (.slice Aj xs[j].val.length cj) ∧ w.cell? ⟨(a.add (j * 3)).block, (a.add (j * 3)).off + 2, none⟩ = some (.bool xs[j].gone) ∧ xs[j].val.length ≤ cj ∧ Rd w Aj xs[j].val ∧ xs[j].key.size ≤ 140737488351232 ∧ xs[j].val.length ≤ 140737488351232 := by
  obtain ⟨a, e, hr⟩ := h (by omega)
  obtain ⟨cs, hcl, ⟨A', c, hcs, h1, h2, h3, h4⟩, hcell⟩ := hr j hj
  subst hcs
  exact ⟨a, A', c, e, hcell 0 (by simp), add_fld a (j * 3) 0 ▸ hcell 1 (by simp), add_fld a (j * 3) 1 ▸ hcell 2 (by simp), h1, h2, h3, h4⟩
theorem Row.below {α : Type} {K : World → α → List Value → Prop} {sz : Nat} {w w1 : World} {A : Option Addr} {xs : List α} (h : Row K sz w A xs) (hb : Below w.heap.size w w1) (hK : ∀ x cs, K w x cs → K w1 x cs) : Row K sz w1 A xs := fun hp => by
  obtain ⟨a, e, hr⟩ := h hp
  refine ⟨a, e, fun j hj => ?_⟩
  obtain ⟨cs, h1, h2, h3⟩ := hr j hj
  exact ⟨cs, h1, hK _ _ h2, fun i hi => cell_below hb (h3 i hi)⟩
theorem KPut.below {w w1 : World} (hb : Below w.heap.size w w1) (x : PutD) (cs : List Value) (h : KPut w x cs) : KPut w1 x cs := by
  obtain ⟨A, c, h1, h2, h3, h4⟩ := h
  exact ⟨A, c, h1, h2, h3.below hb, h4⟩
theorem puts_below {w w1 : World} {A : Option Addr} {xs : List PutD} (h : Row KPut 3 w A xs) (hb : Below w.heap.size w w1) : Row KPut 3 w1 A xs := h.below hb (KPut.below hb)
set_option maxRecDepth 20000 in
set_option maxHeartbeats 1000000 in
theorem kv_good (w : World) (x : PutD) (A : Option Addr) (c : Nat) (hx : x.val.length ≤ c) :
    Calls Try.prog 40 #[.agg #[.string x.key, .slice A x.val.length c, .bool x.gone]] w fun e w' => e = .returned (.bool x.good) ∧ Below w.heap.size w w' := by
  unfold PutD.good
  obtain ⟨k, l, gone⟩ := x
  dsimp only at *
  generalize l.length = n at *
  have hne : k.toList.isEmpty = decide (k.size = 0) := by
    rw [Lib.toList_data]
    have : k.size = k.data.toList.length := by rw [Array.length_toList]; rfl
    rw [this]
    cases k.data.toList <;> simp
  have hb : Below w.heap.size w (w.alloc (.cells #[.string k, .slice A n c, .bool gone] 38)) := (Below.refl _ w).alloc (Nat.le_refl _) _
  have HB := Lib.hid hb
  clear hb
  by_cases h0 : k.size = 0
  · have hd : decide (k.size = 0) = true := decide_eq_true h0
    have hd2 : decide (0 < k.size) = false := decide_eq_false (by omega)
    rw [hd] at hne
    rw [hd2]
    clear hd hd2 h0
    go_enter Try.func40, Try.ntmps40
    go_wp2
    go_ret
    exact ⟨by simp, HB.out⟩
  · have hd : decide (k.size = 0) = false := decide_eq_false h0
    have hd2 : decide (0 < k.size) = true := decide_eq_true (by omega)
    rw [hd] at hne
    rw [hd2]
    clear hd hd2
    by_cases h1 : k.size ≤ 200
    · have h1i : (k.size : Int) ≤ 200 := by omega
      by_cases h2 : n ≤ 200000
      · have h2i : (n : Int) ≤ 200000 := by omega
        cases gone with
        | false =>
          go_enter Try.func40, Try.ntmps40
          go_wp2
          go_ret
          exact ⟨by simp [h1, h2], HB.out⟩
        | true =>
          go_enter Try.func40, Try.ntmps40
          go_wp2
          go_ret
          refine ⟨?_, HB.out⟩
          have : ((n : Int) == 0) = decide (n = 0) := by
            by_cases e : n = 0
            · rw [e]; rfl
            · rw [decide_eq_false e, beq_eq_false_iff_ne]; omega
          simp [h1, h2, this]
      · have h2i : ¬ (n : Int) ≤ 200000 := by omega
        go_enter Try.func40, Try.ntmps40
        go_wp2
        go_ret
        exact ⟨by simp [h1, h2], HB.out⟩
    · have h1i : ¬ (k.size : Int) ≤ 200 := by omega
      go_enter Try.func40, Try.ntmps40
      go_wp2
      go_ret
      exact ⟨by simp [h1], HB.out⟩
end Go.Proofs.Ytgaccogekmaijaa
