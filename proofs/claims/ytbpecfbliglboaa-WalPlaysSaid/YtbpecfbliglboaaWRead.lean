/- wal: read. -/
import Derived.Test.YtbpecfbliglboaaWNu2
import Derived.Deep.QuietTactic
import Derived.BigQuiet
import Derived.WalkSmall
namespace Go.Proofs.Ytbpecfbliglboaa
open Go.RowKit
set_option linter.unusedVariables false
set_option linter.unusedSimpArgs false
theorem or_i64 (i : Nat) (x y : Int) (h1 : 0 ≤ x) (h2 : x < 9223372036854775808) (h3 : x % 2 ^ i = 0) (h4 : 0 ≤ y) (h5 : y < 2 ^ i) (h6 : y < 9223372036854775808) : bits .or .i64 x y = x + y :=
  bits_join .i64 63 (by decide) (fun n h0 h1 => by rw [IntKind.wrap_i64]; omega) i x y h1 h3 (by omega) h4 h5 (by omega)
theorem rd4 (l : List UInt8) (h : 4 ≤ l.length) : RecMath.rd (l.take 4) = (l[0].toNat * 16777216 + l[1].toNat * 65536 + l[2].toNat * 256 + l[3].toNat) := by
  match l, h with
  | a :: b :: c :: d :: l, _ =>
    simp [RecMath.rd]
    omega
set_option maxHeartbeats 2000000 in
theorem wread_any (w : World) (A : Option Addr) (m c : Nat) (l : List UInt8) (hr : Rd w A l) (hm : m = l.length) (h4 : 4 ≤ m) (hl : m ≤ 1000000) :
    Calls Try.prog 62 #[.slice A m c] w fun e w' => e = .returned (.int .i64 (RecMath.rd (l.take 4))) ∧ Below w.heap.size w w' := by
  obtain ⟨a, rfl, c0⟩ := hr.at_ 0 (by omega)
  obtain ⟨_, e1, c1⟩ := hr.at_ 1 (by omega)
  injection e1 with e1; subst e1
  obtain ⟨_, e1, c2⟩ := hr.at_ 2 (by omega)
  injection e1 with e1; subst e1
  obtain ⟨_, e1, c3⟩ := hr.at_ 3 (by omega)
  injection e1 with e1; subst e1
  have HR := Lib.hid (rd4 l (by omega))
  have t0 := l[0].toNat_lt; have t1 := l[1].toNat_lt; have t2 := l[2].toNat_lt; have t3 := l[3].toNat_lt
  generalize l[0].toNat = x0 at *
  generalize l[1].toNat = x1 at *
  generalize l[2].toNat = x2 at *
  generalize l[3].toNat = x3 at *
  have w0 : IntKind.i64.wrap ((x0 : Int) * (16777216 : Int)) = (x0 : Int) * (16777216 : Int) := by rw [IntKind.wrap_i64]; omega
  have w1 : IntKind.i64.wrap ((x1 : Int) * (65536 : Int)) = (x1 : Int) * (65536 : Int) := by rw [IntKind.wrap_i64]; omega
  have w2 : IntKind.i64.wrap ((x2 : Int) * (256 : Int)) = (x2 : Int) * (256 : Int) := by rw [IntKind.wrap_i64]; omega
  have w3 : IntKind.i64.wrap (x3 : Int) = x3 := by rw [IntKind.wrap_i64]; omega
  have w4 : IntKind.i64.wrap (x2 : Int) = x2 := by rw [IntKind.wrap_i64]; omega
  have w5 : IntKind.i64.wrap (x1 : Int) = x1 := by rw [IntKind.wrap_i64]; omega
  have w6 : IntKind.i64.wrap (x0 : Int) = x0 := by rw [IntKind.wrap_i64]; omega
  have o1 : bits .or .i64 ((x0 : Int) * (16777216 : Int)) ((x1 : Int) * (65536 : Int)) = (x0 : Int) * (16777216 : Int) + (x1 : Int) * (65536 : Int) := or_i64 24 _ _ (by omega) (by omega) (by omega) (by omega) (by omega) (by omega)
  have o2 : bits .or .i64 ((x0 : Int) * (16777216 : Int) + (x1 : Int) * (65536 : Int)) ((x2 : Int) * (256 : Int)) = (x0 : Int) * (16777216 : Int) + (x1 : Int) * (65536 : Int) + (x2 : Int) * (256 : Int) := or_i64 16 _ _ (by omega) (by omega) (by omega) (by omega) (by omega) (by omega)
  have o3 : bits .or .i64 ((x0 : Int) * (16777216 : Int) + (x1 : Int) * (65536 : Int) + (x2 : Int) * (256 : Int)) (x3 : Int) = (x0 : Int) * (16777216 : Int) + (x1 : Int) * (65536 : Int) + (x2 : Int) * (256 : Int) + (x3 : Int) := or_i64 8 _ _ (by omega) (by omega) (by omega) (by omega) (by omega) (by omega)
  have m0 : (0 : Int) < m := by omega
  have m1 : (1 : Int) < m := by omega
  have m2 : (2 : Int) < m := by omega
  have m3 : (3 : Int) < m := by omega
  rw [show a.add 0 = a by simp [Addr.add]] at c0
  rw [show a.add 1 = ⟨a.block, a.off + 1, none⟩ by simp [Addr.add]] at c1
  rw [show a.add 2 = ⟨a.block, a.off + 2, none⟩ by simp [Addr.add]] at c2
  rw [show a.add 3 = ⟨a.block, a.off + 3, none⟩ by simp [Addr.add]] at c3
  have n0 : 0 < m := by omega
  have n1 : 1 < m := by omega
  have n2 : 2 < m := by omega
  have n3 : 3 < m := by omega
  clear hr hm
  go_enter Try.func62, Try.ntmps62
  go_wp2_with fail
  go_quiet (fail)
  go_wp2
  go_ret
  refine ⟨ret_int ?_, below_drewN (Below.refl _ w) _⟩
  rw [HR.out]
  first
    | omega
    | (rw [wrap64_in (by omega) (by omega), o3]; omega)
    | (simp only [wrap64, w3, o3]; omega)
    | (unfold wrap64; rw [w3, o3]; omega)
end Go.Proofs.Ytbpecfbliglboaa
