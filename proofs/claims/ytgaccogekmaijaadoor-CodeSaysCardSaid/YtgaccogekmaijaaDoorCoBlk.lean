/- Blanks that end a line. -/
import Derived.Test.YtgaccogekmaijaaDoorCoDig
import Derived.Shelf.Bytes.SlTrim
namespace Go.Proofs.YtgaccogekmaijaaDoor
open Go.RowKit Go.Shelf Go.Lib
set_option linter.unusedVariables false
set_option linter.unusedSimpArgs false
def rnT : Ren := ⟨fun i => if i = 8 then 34 else if i = 9 then 36 else if i = 11 then 37 else if i = 12 then 38 else if i = 14 then 39 else if i = 16 then 40 else if i = 17 then 41 else if i = 18 then 42 else if i = 20 then 43 else 0,
  fun i => if i = 3 then 3 else if i = 4 then 4 else if i = 5 then 5 else if i = 9 then 9 else if i = 21 then 21 else if i = 22 then 22 else if i = 27 then 47 else if i = 28 then 48 else if i = 31 then 51 else if i = 33 then 53 else if i = 36 then 56 else if i = 37 then 35 else if i = 39 then 58 else if i = 40 then 59 else 0, fun i => i + 1⟩
theorem layT8 : SlLaysV.n8 Tryd.prog rnT := {
  mixed := by kernel_rfl
  f8 := by kernel_rfl
  f9 := by kernel_rfl
  f11 := by kernel_rfl
  f12 := by kernel_rfl
  f14 := by kernel_rfl
  f16 := by kernel_rfl
  f17 := by kernel_rfl
  f18 := by kernel_rfl
  f20 := by kernel_rfl
  t0 := by kernel_rfl
  a0 := fun w => by kernel_rfl
  z0 := fun w => by kernel_rfl
  v0 := fun w => by kernel_rfl
  t3 := by kernel_rfl
  a3 := fun w => by kernel_rfl
  z3 := fun w => by kernel_rfl
  v3 := fun w => by kernel_rfl
  t4 := by kernel_rfl
  a4 := fun w => by kernel_rfl
  z4 := fun w => by kernel_rfl
  v4 := fun w => by kernel_rfl
  t5 := by kernel_rfl
  a5 := fun w => by kernel_rfl
  z5 := fun w => by kernel_rfl
  v5 := fun w => by kernel_rfl
  t9 := by kernel_rfl
  a9 := fun w => by kernel_rfl
  z9 := fun w => by kernel_rfl
  v9 := fun w => by kernel_rfl
  t21 := by kernel_rfl
  a21 := fun w => by kernel_rfl
  z21 := fun w => by kernel_rfl
  v21 := fun w => by kernel_rfl
  t22 := by kernel_rfl
  a22 := fun w => by kernel_rfl
  z22 := fun w => by kernel_rfl
  v22 := fun w => by kernel_rfl
  t27 := by kernel_rfl
  a27 := fun w => by kernel_rfl
  z27 := fun w => by kernel_rfl
  t28 := by kernel_rfl
  a28 := fun w => by kernel_rfl
  z28 := fun w => by kernel_rfl
  v28 := fun w => by kernel_rfl
  t31 := by kernel_rfl
  a31 := fun w => by kernel_rfl
  z31 := fun w => by kernel_rfl
  v31 := fun w => by kernel_rfl
  t33 := by kernel_rfl
  a33 := fun w => by kernel_rfl
  z33 := fun w => by kernel_rfl
  v33 := fun w => by kernel_rfl
  t36 := by kernel_rfl
  a36 := fun w => by kernel_rfl
  z36 := fun w => by kernel_rfl
  t37 := by kernel_rfl
  a37 := fun w => by kernel_rfl
  z37 := fun w => by kernel_rfl
  v37 := fun w => by kernel_rfl
  t39 := by kernel_rfl
  a39 := fun w => by kernel_rfl
  z39 := fun w => by kernel_rfl
  v39 := fun w => by kernel_rfl
  t40 := by kernel_rfl
  a40 := fun w => by kernel_rfl
  z40 := fun w => by kernel_rfl
  v40 := fun w => by kernel_rfl }
theorem Rd.at8 {w : World} {A : Option Addr} {l : List UInt8} (h : Rd w A l) : Lib.BytesAt w A l.length l := fun h0 => by
  obtain ⟨a, rfl, hc⟩ := h.2 h0
  have h1 := hc 0 h0
  obtain ⟨b, o, s⟩ := a
  have hs : s = none := by
    cases s with
    | none => rfl
    | some x =>
      exfalso
      simp only [Addr.add, if_true] at h1
      unfold World.cell? at h1
      split at h1 <;> simp at h1
  subst hs
  refine ⟨b, o, rfl, fun i hi => ?_⟩
  have h2 := hc i hi
  have ha : (⟨b, o, none⟩ : Addr).add i = ⟨b, o + i, none⟩ := by unfold Addr.add; split <;> simp_all
  rw [ha] at h2
  rw [h2]
  simp [List.getD, hi]
theorem asc2 : ∀ (j : Nat) (b : UInt8), (⟨#[32, 9]⟩ : ByteArray).data.toList[j]? = some b → b.toNat < 128 := by
  intro j b h
  match j, h with
  | 0, h => cases h; decide
  | 1, h => cases h; decide
  | j + 2, h => simp at h
theorem set27 : (Tryd.prog.info? 47).map (fun i => (i.zero, i.size)) = some (some (.agg (Array.replicate 256 (.bool false))), 256) := by kernel_rfl
theorem trim_any (w : World) (A : Option Addr) (n c : Nat) (b : List UInt8) (hr : Rd w A b) (hn : b.length = n) (hc : n ≤ c) (hcap : c ≤ 9223372036854775807) :
    Calls Tryd.prog 34 #[.slice A n c, .string ⟨#[32, 9]⟩] w fun e w' => e = .returned (Lib.leftV A n c (CodeMath.lead b)) ∧ Below w.heap.size w w' := by
  have hcon := Any.bytes_TrimLeft_ascii layT8 (zero_of_info set27).1 (zero_of_info set27).2 A n c b ⟨#[32, 9]⟩ w hn hc hcap (by rw [← hn]; exact hr.at8) (by decide) asc2
  change Calls Tryd.prog 34 _ _ (fun e w' => e = .returned (Lib.leftV A n c (n - (Lib.trimLeftS b [32, 9]).length)) ∧ Below w.heap.size w w') at hcon
  have e : n - (Lib.trimLeftS b [32, 9]).length = CodeMath.lead b := by
    have h1 : (Lib.trimLeftS b [32, 9]).length = b.length - CodeMath.lead b := CodeMath.lead_eq b
    have h2 := CodeMath.lead_le b
    omega
  rw [e] at hcon
  exact hcon
end Go.Proofs.YtgaccogekmaijaaDoor
