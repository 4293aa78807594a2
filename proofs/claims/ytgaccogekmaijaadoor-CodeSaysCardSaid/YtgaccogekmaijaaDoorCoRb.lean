/- The reference writes letters. -/
import Derived.Test.YtgaccogekmaijaaDoorCoRa
namespace CodeMath
def ngB (b : List UInt8) : Nat → Nat
  | 0 => 0
  | i + 1 => ngB b i * 256 + at3 b i
theorem ng3 (b : List UInt8) : ngB b 3 = N3 b := by
  simp only [ngB, N3]; omega
theorem ng_lt (b : List UInt8) : ∀ j, j < 3 → ngB b j < 65536 := by
  have h0 := at3_lt b 0
  have h1 := at3_lt b 1
  intro j hj
  match j, hj with
  | 0, _ => simp [ngB]
  | 1, _ => simp [ngB]; omega
  | 2, _ => simp [ngB]; omega
theorem grp_take3 (b : List UInt8) : grp (b.take 3) = [letter (N3 b / 262144), letter (N3 b / 4096 % 64), if 2 ≤ b.length then letter (N3 b / 64 % 64) else 61, if 3 ≤ b.length then letter (N3 b % 64) else 61] := by
  have h : N3 (b.take 3) = N3 b := by
    match b with
    | [] => rfl
    | [_] => rfl
    | [_, _] => rfl
    | _ :: _ :: _ :: _ => rfl
  unfold grp
  rw [h, List.length_take]
  have e2 : (2 ≤ min 3 b.length) = (2 ≤ b.length) := by rw [eq_iff_iff]; omega
  have e3 : (3 ≤ min 3 b.length) = (3 ≤ b.length) := by rw [eq_iff_iff]; omega
  simp only [e2, e3]
end CodeMath
namespace Go.Proofs.YtgaccogekmaijaaDoor
open Go.RowKit Go.Maps
set_option linter.unusedVariables false
set_option linter.unusedSimpArgs false
attribute [local irreducible] wpR relOp Stu.wpR Stu.relOp
theorem and63u (n : Int) : bits .and .u32 n 63 = n % 64 := by
  have h7 : (BitVec.ofInt 32 63).toNat = 2 ^ 6 - 1 := by decide
  have key : (BitVec.ofInt 32 n &&& BitVec.ofInt 32 63).toNat = (n % ((2 ^ 32 : Nat) : Int)).toNat % 2 ^ 6 := by
    rw [BitVec.toNat_and, BitVec.toNat_ofInt, h7, Nat.and_two_pow_sub_one_eq_mod]
  show IntKind.u32.wrap ((BitVec.ofInt 32 n &&& BitVec.ofInt 32 63).toNat : Nat) = n % 64
  rw [key, IntKind.wrap_u32]
  omega
theorem or_stepu (n : Nat) (b : UInt8) (h : n < 65536) : bits .or .u32 ((n : Int) * 256) (b.toNat : Int) = ((n * 256 + b.toNat : Nat) : Int) := by
  have hb := b.toNat_lt
  rw [bits_join .u32 32 (by decide) (fun n h0 h1 => by rw [IntKind.wrap_u32]; omega) 8 _ _ (by omega) (by omega) (by omega) (by omega) (by omega) (by omega)]
  simp
theorem run_letu (w : World) (n : Nat) (h : n < 64) : (Instr.index 9 (.string lettersS) (.int .u32 n)).run Tryd.prog w = .ok (.int .u8 (CodeMath.letter n).toNat) w := by
  have hi : (0 : Int) ≤ (n : Int) ∧ (n : Int) < (lettersS.size : Int) := by rw [letters_size]; omega
  rw [run_index_string w 9 lettersS .u32 n Tryd.underlying9, dif_pos hi]
  have := letters_get ⟨n, h⟩
  simp only [Int.toNat_natCast]
  rw [this]
/-- one letter appended -/
theorem app1_let {W : World} {base np : Nat} {v : Value} {l : List UInt8} (HO : Ob W base 5 v l) (hz : l = [] → v = .slice none 0 0) (hB : base ≤ W.heap.size) (hn : l.length = np) (hlen : np ≤ 100000000) (x : UInt8) :
    ∃ A c W', (Builtin.append_ #[22, 22] 22 #[v, .slice (some ⟨W.heap.size, 0, none⟩) 1 1]).run Tryd.prog (W.alloc (.cells #[.int .u8 (x.toNat : Int)] 5)) = .ok (.slice A (np + 1) c) W' ∧ Ob W' base 5 (.slice A (np + 1) c) (l ++ [x]) ∧ Below base W W' := by
  have hb : Below W.heap.size W (W.alloc (.cells #[.int .u8 (x.toNat : Int)] 5)) := (Below.refl _ W).alloc (Nat.le_refl _) _
  obtain ⟨v', W', h1, h2, h3⟩ := appb_run (m := 1) (c := 1) (HO.below hb) hz (Rd.of_block (l := [x]) (heap_new W _ _ rfl) (by simp)) rfl (Nat.le_trans hB hb.size) (by simp; omega)
  obtain ⟨A, c, rfl, _⟩ := h2.shpn (show (l ++ [x]).length = np + 1 by simp; omega)
  exact ⟨A, c, W', h1, h2, (hb.mono hB).trans h3.1⟩
end Go.Proofs.YtgaccogekmaijaaDoor
