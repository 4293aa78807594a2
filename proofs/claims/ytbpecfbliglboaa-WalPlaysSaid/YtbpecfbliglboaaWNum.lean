/- wal: size, from, room, number, read. -/
import Derived.Test.YtbpecfbliglboaaWScan
import Derived.Test.YtbpecfbliglboaaWgD
import Derived.Test.YtbpecfbliglboaaDs
import Derived.Test.YtbpecfbliglboaaApb
namespace Go.Proofs.Ytbpecfbliglboaa
open Go.RowKit
set_option linter.unusedVariables false
set_option linter.unusedSimpArgs false
theorem wsize_any {w0 w : World} {B g : Nat} {d : DevMath.Dev} (h : DS w0 w B g d) (h1 : 1 ≤ d.sectors) (h2 : d.sectors ≤ 8192) :
    Calls Try.prog 68 #[.pointer (some ⟨g, 0, none⟩)] w fun e w' => e = .returned (.int .i64 (WalMath.size d.sectors)) ∧ w' = w := by
  have HS := Lib.hid (ds_sectors h)
  obtain ⟨n, hn⟩ : ∃ n, n = d.sectors := ⟨_, rfl⟩
  rw [← hn] at HS h1 h2 ⊢
  have h0 : (n : Int) - 1 = ((n - 1 : Nat) : Int) := by omega
  generalize hk : n - 1 = k at *
  have hz : ((k : Int) / (2 : Int)) = ((WalMath.size n : Nat) : Int) := by unfold WalMath.size; rw [hk]; rfl
  have hw : IntKind.i64.wrap ((n : Int) - 1) = k := by rw [IntKind.wrap_i64]; omega
  have hw2 : IntKind.i64.wrap ((k : Int) / (2 : Int)) = (k : Int) / (2 : Int) := by rw [IntKind.wrap_i64]; omega
  have hdv : (k : Int).tdiv 2 = (k : Int) / (2 : Int) := by rw [Int.tdiv_eq_ediv_of_nonneg (by omega)]
  have HZ := Lib.hid hz
  clear h hn hz hk h0
  go_enter Try.func68, Try.ntmps68
  go_wp2_with fail
  refine HS.out.mono ?_
  rintro e w ⟨rfl, rfl⟩
  go_wp2
  go_ret
  exact ⟨ret_int HZ.out, rfl⟩
set_option maxRecDepth 20000 in
theorem wfrom_any {w0 w : World} {B g : Nat} {d : DevMath.Dev} (h : DS w0 w B g d) (h1 : 1 ≤ d.sectors) (h2 : d.sectors ≤ 8192) (r : Nat) (hr : r ≤ 1) :
    Calls Try.prog 64 #[.pointer (some ⟨g, 0, none⟩), .int .i64 r] w fun e w' => e = .returned (.int .i64 (WalMath.frm d.sectors r)) ∧ w' = w := by
  have HS := Lib.hid (wsize_any h h1 h2)
  have hs : WalMath.size d.sectors ≤ 4096 := by unfold WalMath.size; omega
  have hf : ((WalMath.frm d.sectors r : Nat) : Int) = 1 + (r : Int) * (WalMath.size d.sectors : Nat) := by unfold WalMath.frm; push_cast; rfl
  rw [hf]
  generalize WalMath.size d.sectors = s at *
  have hm : (r : Int) * (s : Int) = ((r * s : Nat) : Int) := by push_cast; rfl
  have hm2 : r * s ≤ 4096 := Nat.le_trans (Nat.mul_le_mul_right s hr) (by omega)
  generalize r * s = q at *
  have hw1 : IntKind.i64.wrap ((r : Int) * (s : Int)) = q := by rw [hm, IntKind.wrap_i64]; omega
  have hw2 : IntKind.i64.wrap (1 + (q : Int)) = 1 + (q : Int) := by rw [IntKind.wrap_i64]; omega
  have HM := Lib.hid hm
  clear h hf hm
  go_enter Try.func64, Try.ntmps64
  go_wp2_with fail
  refine HS.out.mono ?_
  rintro e w ⟨rfl, rfl⟩
  go_wp2
  go_ret
  exact ⟨ret_int (by rw [HM.out]), rfl⟩
set_option maxRecDepth 20000 in
theorem wroom_any {w0 w : World} {B g : Nat} {d : DevMath.Dev} (h : DS w0 w B g d) (h1 : 1 ≤ d.sectors) (h2 : d.sectors ≤ 8192) :
    Calls Try.prog 55 #[.pointer (some ⟨g, 0, none⟩)] w fun e w' => e = .returned (.int .i64 (WalMath.room d.sectors)) ∧ w' = w := by
  have HS := Lib.hid (wsize_any h h1 h2)
  have hs : WalMath.size d.sectors ≤ 4096 := by unfold WalMath.size; omega
  have hf : ((WalMath.room d.sectors : Nat) : Int) = (WalMath.size d.sectors : Nat) * (512 : Int) := by unfold WalMath.room; push_cast; rfl
  rw [hf]
  generalize WalMath.size d.sectors = s at *
  have hw1 : IntKind.i64.wrap ((s : Int) * (512 : Int)) = (s : Int) * (512 : Int) := by rw [IntKind.wrap_i64]; omega
  clear h hf
  go_enter Try.func55, Try.ntmps55
  go_wp2_with fail
  refine HS.out.mono ?_
  rintro e w ⟨rfl, rfl⟩
  go_wp2
  go_ret
  exact ⟨rfl, rfl⟩
end Go.Proofs.Ytbpecfbliglboaa
