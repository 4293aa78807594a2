/- A hexadecimal digit. -/
import Derived.Test.YtgaccogekmaijaaDoorCoTk
import Derived.Test.YtgaccogekmaijaaDoorCoFp
namespace Go.Proofs.YtgaccogekmaijaaDoor
open Go.RowKit Go.Maps
set_option linter.unusedVariables false
set_option linter.unusedSimpArgs false
theorem idx_hex : ∀ c : UInt8, Lib.indexByte hexS.data.toList (if 97 ≤ c.toNat ∧ c.toNat ≤ 102 then UInt8.ofNat (c.toNat - 32) else c) = CodeMath.digV c := by
  intro c
  have key : ∀ n : Fin 256, Lib.indexByte hexS.data.toList (if 97 ≤ (UInt8.ofNat n.val).toNat ∧ (UInt8.ofNat n.val).toNat ≤ 102 then UInt8.ofNat ((UInt8.ofNat n.val).toNat - 32) else (UInt8.ofNat n.val)) = CodeMath.digV (UInt8.ofNat n.val) := by decide +kernel
  have h := key ⟨c.toNat, c.toNat_lt⟩
  rw [show UInt8.ofNat (⟨c.toNat, c.toNat_lt⟩ : Fin 256).val = c from by simp] at h
  exact h
set_option maxRecDepth 20000 in
theorem digit_any (w : World) (x : UInt8) :
    Calls Tryd.prog 25 #[.int .u8 (x.toNat : Int)] w fun e w' => e = .returned (.int .i64 (CodeMath.digV x)) ∧ w' = w := by
  have hy := x.toNat_lt
  have hi := idx_hex x
  have l0 := fold_hex
  by_cases h1 : (97 : Int) ≤ x.toNat
  · by_cases h2 : (x.toNat : Int) ≤ 102
    · rw [if_pos ⟨by omega, by omega⟩] at hi
      have hws : IntKind.u8.wrap ((x.toNat : Int) - 32) = (x.toNat : Int) - 32 := by rw [IntKind.wrap_u8]; omega
      have hid := idx_any hexS ((x.toNat : Int) - 32) w
      have e : ((x.toNat : Int) - 32).toNat.toUInt8 = UInt8.ofNat (x.toNat - 32) := by
        rw [show ((x.toNat : Int) - 32).toNat = x.toNat - 32 by omega]
      rw [e, hi] at hid
      have HID := Lib.hid hid
      clear hi hid e
      go_enter Tryd.func25, Tryd.ntmps25
      go_wp2_with fail
      refine HID.out.mono ?_
      rintro e w1 ⟨rfl, rfl⟩
      go_wp2
      go_ret
      exact ⟨rfl, rfl⟩
    · rw [if_neg (by omega)] at hi
      have hid := idx_any hexS (x.toNat : Int) w
      rw [toU8, hi] at hid
      have HID := Lib.hid hid
      clear hi hid
      go_enter Tryd.func25, Tryd.ntmps25
      go_wp2_with fail
      refine HID.out.mono ?_
      rintro e w1 ⟨rfl, rfl⟩
      go_wp2
      go_ret
      exact ⟨rfl, rfl⟩
  · rw [if_neg (by omega)] at hi
    have hid := idx_any hexS (x.toNat : Int) w
    rw [toU8, hi] at hid
    have HID := Lib.hid hid
    clear hi hid
    go_enter Tryd.func25, Tryd.ntmps25
    go_wp2_with fail
    refine HID.out.mono ?_
    rintro e w1 ⟨rfl, rfl⟩
    go_wp2
    go_ret
    exact ⟨rfl, rfl⟩
end Go.Proofs.YtgaccogekmaijaaDoor
