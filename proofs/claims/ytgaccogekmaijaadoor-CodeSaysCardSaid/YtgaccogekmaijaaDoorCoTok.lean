/- HasPrefix; how a byte is written. -/
import Derived.Test.YtgaccogekmaijaaDoorCoLib
import Derived.Test.YtgaccogekmaijaaDoorCoQ
namespace Go.Proofs.YtgaccogekmaijaaDoor
open Go.RowKit Go.Maps
set_option linter.unusedVariables false
set_option linter.unusedSimpArgs false
attribute [local irreducible] wpR relOp Stu.wpR Stu.relOp
set_option maxRecDepth 20000 in
theorem pfx_any (w : World) (A B : Option Addr) (n m c d : Nat) (l k : List UInt8) (h1 : Rd w A l) (h2 : Rd w B k) (hn : l.length = n) (hm : k.length = m) (hc : n ≤ c) :
    Calls Tryd.prog 24 #[.slice A n c, .slice B m d] w fun e w' => e = .returned (.bool (decide (m ≤ n ∧ l.take m = k))) ∧ w' = w := by
  by_cases hmn : m ≤ n
  · have hmi : (m : Int) ≤ n := by omega
    have hb := beq_any w A B m m c d (l.take m) k (h1.take m) h2 (by rw [List.length_take, hn]; omega) hm
    have hbool : decide (m ≤ n ∧ l.take m = k) = decide (l.take m = k) := by
      rw [decide_eq_decide]
      exact ⟨fun h => h.2, fun h => ⟨hmn, h⟩⟩
    rw [hbool]
    have HB := Lib.hid hb
    generalize decide (l.take m = k) = bb at *
    have hmc : (m : Int) ≤ c := by omega
    clear hb h1 h2 hn hm hbool
    go_enter Tryd.func24, Tryd.ntmps24
    go_wp2_with fail
    refine HB.out.mono ?_
    rintro e w1 ⟨rfl, rfl⟩
    clear HB
    go_wp2
    go_ret
    exact ⟨rfl, rfl⟩
  · have hmi : ¬ (m : Int) ≤ n := by omega
    have hbool : decide (m ≤ n ∧ l.take m = k) = false := decide_eq_false (fun h => hmn h.1)
    rw [hbool]
    clear h1 h2 hn hm hbool
    go_enter Tryd.func24, Tryd.ntmps24
    go_wp2
    go_ret
    exact ⟨rfl, rfl⟩
theorem pfx_crlf (l : List UInt8) : decide (2 ≤ l.length ∧ l.take 2 = [13, 10]) = CodeMath.crlfAt l := by
  match l with
  | [] => rfl
  | [a] => simp [CodeMath.crlfAt]
  | a :: b :: t =>
    rw [Bool.eq_iff_iff, decide_eq_true_eq]
    simp [CodeMath.crlfAt]
theorem pfx_soft (l : List UInt8) : decide (3 ≤ l.length ∧ l.take 3 = [61, 13, 10]) = CodeMath.soft l := by
  match l with
  | [] => rfl
  | [a] => simp [CodeMath.soft]
  | [a, b] => simp [CodeMath.soft]
  | a :: b :: c :: t =>
    rw [Bool.eq_iff_iff, decide_eq_true_eq]
    simp [CodeMath.soft, and_assoc]
/-- '[]byte("..")' of a constant, as the second argument of HasPrefix -/
theorem pfx_const (w : World) (A : Option Addr) (n c : Nat) (l k : List UInt8) (h1 : Rd w A l) (hn : l.length = n) (hc : n ≤ c) (fr : Nat × Nat) (hk : k.length ≤ 100) :
    Calls Tryd.prog 24 #[.slice A n c, .slice (some ⟨w.heap.size, 0, none⟩) k.length k.length] (w.alloc (.cells (bv k) 5 fr)) fun e w' => e = .returned (.bool (decide (k.length ≤ n ∧ l.take k.length = k))) ∧ Below w.heap.size w w' := by
  refine (pfx_any _ A _ n k.length c k.length l k (h1.alloc _) (Rd.of_block (heap_new w _ _ rfl) (Nat.le_trans hk (by decide))) hn rfl hc).mono ?_
  rintro e w' ⟨rfl, rfl⟩
  exact ⟨rfl, (Below.refl _ w).alloc (Nat.le_refl _) _⟩
end Go.Proofs.YtgaccogekmaijaaDoor
