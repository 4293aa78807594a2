/- Library functions that the letters' code calls. -/
import Derived.Test.YtgaccogekmaijaaDoorCoB64
import Derived.Lib.Bytealg
namespace Go.Proofs.YtgaccogekmaijaaDoor
open Go.RowKit Go.Maps
set_option linter.unusedVariables false
set_option linter.unusedSimpArgs false
set_option maxRecDepth 100000 in
theorem idx_lite (s : ByteArray) (c : Int) (w : World) :
    Calls Tryd.prog 33 #[.string s, .int .u8 c] w fun e w' => e = .returned (.int .i64 (Lib.indexByte s.data.toList c.toNat.toUInt8)) ∧ w' = w := by
  go_enter Tryd.func33, Tryd.ntmps33
  go_wp2
  rw [run_callFunc_extern Tryd.func35 (by kernel_rfl) (by kernel_rfl) (by kernel_rfl) (e := Extern.BytealgIndexByte.indexByte) (by kernel_rfl), Lib.run_indexByteString]
  simp only [Result.andThen]
  rw [Oper.upon_value]
  go_wp2
  go_ret
  exact ⟨rfl, rfl⟩
theorem idx_any (s : ByteArray) (c : Int) (w : World) :
    Calls Tryd.prog 21 #[.string s, .int .u8 c] w fun e w' => e = .returned (.int .i64 (Lib.indexByte s.data.toList c.toNat.toUInt8)) ∧ w' = w := by
  go_enter Tryd.func21, Tryd.ntmps21
  go_wp2_with fail
  refine (idx_lite _ _ _).mono ?_
  rintro e w' ⟨rfl, rfl⟩
  go_wp2
  go_ret
  exact ⟨rfl, rfl⟩
theorem idx_letters : ∀ c : UInt8, Lib.indexByte lettersS.data.toList c = (match CodeMath.valOf c with | some n => (n : Int) | none => -1) := by
  intro c
  have key : ∀ n : Fin 256, Lib.indexByte lettersS.data.toList (UInt8.ofNat n.val) = (match CodeMath.valOf (UInt8.ofNat n.val) with | some n => (n : Int) | none => -1) := by decide +kernel
  have h := key ⟨c.toNat, c.toNat_lt⟩
  rw [show UInt8.ofNat (⟨c.toNat, c.toNat_lt⟩ : Fin 256).val = c from by simp] at h
  exact h
theorem toU8 (c : UInt8) : ((c.toNat : Int)).toNat.toUInt8 = c := by simp
theorem idx_let (c : UInt8) (w : World) : Calls Tryd.prog 21 #[.string lettersS, .int .u8 (c.toNat : Int)] w fun e w' => (∃ i : Int, e = .returned (.int .i64 i) ∧ (i = (CodeMath.val0 c : Int) ∨ i = -1 ∧ CodeMath.val0 c = 0)) ∧ w' = w := by
  refine (idx_any lettersS _ w).mono ?_
  rintro e w' ⟨rfl, rfl⟩
  refine ⟨⟨_, rfl, ?_⟩, rfl⟩
  rw [toU8, idx_letters]
  unfold CodeMath.val0
  cases CodeMath.valOf c with
  | none => exact .inr ⟨rfl, rfl⟩
  | some n => exact .inl rfl
theorem beq_any (w : World) (A B : Option Addr) (n m c d : Nat) (l k : List UInt8) (h1 : Rd w A l) (h2 : Rd w B k) (hn : l.length = n) (hm : k.length = m) :
    Calls Tryd.prog 22 #[.slice A n c, .slice B m d] w fun e w' => e = .returned (.bool (decide (l = k))) ∧ w' = w := by
  have q1 := h1.str n c hn
  have q2 := h2.str m d hm
  have q3 : ((⟨l.toArray⟩ : ByteArray).toList == (⟨k.toArray⟩ : ByteArray).toList) = decide (l = k) := by
    rw [Bool.eq_iff_iff, beq_iff_eq, decide_eq_true_eq, Lib.toList_data, Lib.toList_data]
  have HQ := Lib.hid q3
  generalize (⟨l.toArray⟩ : ByteArray) = z1 at *
  generalize (⟨k.toArray⟩ : ByteArray) = z2 at *
  clear q3 h1 h2 hn hm
  go_enter Tryd.func22, Tryd.ntmps22
  go_wp2
  go_ret
  exact ⟨by rw [← HQ.out]; rfl, rfl⟩
end Go.Proofs.YtgaccogekmaijaaDoor
