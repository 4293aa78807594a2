/- CrcSays: the walk of the law. -/
import Derived.Test.YthhdkhgafeaehaaCrcWalk
namespace Go.Proofs.Ythhdkhgafeaehaa
set_option linter.unusedVariables false
set_option linter.unusedSimpArgs false
open Go.RowKit

theorem awake_any (w : World) : Calls Try.prog 11 #[] w fun e w' => e = .returned (.bool true) ∧ Below w.heap.size w w' := by
  have kc := conv_const Try.underlying22 Try.underlying5
  have hv : ((CrcMath.of [[49, 50, 51, 52], [53, 54, 55, 56, 57]]).toNat : Int) = 3421780262 := by decide +kernel
  have hv0 : ((CrcMath.of []).toNat : Int) = 0 := by decide +kernel
  go_enter Try.func11, Try.ntmps11
  go_wp2_with fail
  refine (crcof_any _ _ 2 [[49, 50, 51, 52], [53, 54, 55, 56, 57]] ?r1).mono ?_
  case r1 =>
    refine Rdl.of_block (vs := [.slice (some ⟨w.heap.size, 0, none⟩) 4 4, .slice (some ⟨w.heap.size + 1, 0, none⟩) 5 5]) (heap_new _ _ _ (by simp)) (by simp) ⟨⟨_, _, rfl, by simp, ?_⟩, ⟨_, _, rfl, by simp, ?_⟩, trivial⟩
    · exact Rd.of_block (t := 5) (fr := (4, 5)) (heap_old (heap_old (heap_new _ _ _ rfl))) (by simp)
    · exact Rd.of_block (t := 5) (fr := (5, 6)) (heap_old (heap_new _ _ _ (by simp))) (by simp)
  rintro e w1 ⟨rfl, hb1⟩
  rw [hv]
  go_wp2_with fail
  refine (crcof_any _ none 0 [] (Rdl.nil _ _)).mono ?_
  rintro e w2 ⟨rfl, hb2⟩
  rw [hv0]
  go_wp2_with fail
  go_ret
  refine ⟨rfl, ?_⟩
  exact below_then (below_then (((Below.refl _ w).alloc (Nat.le_refl _) _).alloc (by simp) _ |>.alloc (by simp; omega) _) (by simp; omega) hb1) (by have := hb1.size; simp at this; omega) hb2

theorem info_u8 : (Try.prog.info? 5).map (fun i => (i.zero, i.size, i.bytes)) = some (some (.int .u8 0), 1, 1) := by kernel_rfl
theorem CrcSays_walk (A0 : Option Addr) (c0 : Nat) (l0 : List UInt8) (A1 : Option Addr) (c1 : Nat) (l1 : List UInt8) (A2 : Option Addr) (c2 : Nat) (l2 : List UInt8) (w : World)
    (r0 : Rd w A0 l0) (lc0 : l0.length ≤ c0) (lm0 : l0.length ≤ 140737488351232) (r1 : Rd w A1 l1) (lc1 : l1.length ≤ c1) (lm1 : l1.length ≤ 140737488351232) (r2 : Rd w A2 l2) (lc2 : l2.length ≤ c2) (lm2 : l2.length ≤ 140737488351232) :
    Calls Try.prog 3 #[.slice A0 l0.length c0, .slice A1 l1.length c1, .slice A2 l2.length c2] w fun e w' => e = .returned (.bool true) ∧ Below w.heap.size w w' := by
  by_cases hbig : 500 < (l0.length : Int) + l1.length + l2.length
  · go_enter Try.func3, Try.ntmps3
    go_wp2_with fail
    refine (awake_any _).mono ?_
    rintro e w1 ⟨rfl, hb1⟩
    go_wp2_with fail
    go_ret
    exact ⟨rfl, hb1⟩
  · have ht := Try.underlying22
    have hi := info_u8
    go_enter Try.func3, Try.ntmps3
    go_wp2_with fail
    refine (awake_any _).mono ?_
    rintro e w1 ⟨rfl, hb1⟩
    go_wp2_with (at_builtin; refine wpList_appb (w0 := w) w.heap.size rfl (.tmp 19) (.tmp 20) 22 5 rfl ht hi _ [] l0 A0 c0 rfl rfl (Ob.empty w1 _ _ hb1.size) ((r0.below hb1).alloc _) (hb1.alloc hb1.size _) (by simp; have := hb1.size; omega) (by simp; omega) ?_)
    intro v2 w2 ho2 hb2 _ _
    go_wp2_with (at_builtin; refine wpList_appb (w0 := w) w.heap.size rfl (.tmp 21) (.tmp 22) 22 5 rfl ht hi v2 l0 l1 A1 c1 rfl rfl ho2 (r1.below hb2) hb2 hb2.size (by omega) ?_)
    intro v3 w3 ho3 hb3 _ _
    go_wp2_with (at_builtin; refine wpList_appb (w0 := w) w.heap.size rfl (.tmp 23) (.tmp 24) 22 5 rfl ht hi v3 (l0 ++ l1) l2 A2 c2 rfl rfl ho3 (r2.below hb3) hb3 hb3.size (by simp; omega) ?_)
    intro v4 w4 ho4 hb4 _ _
    obtain ⟨A4, c4, rfl, _, hr4⟩ := ho4.rd
    obtain ⟨L, hL⟩ : ∃ L, L = l0 ++ (l1 ++ l2) := ⟨_, rfl⟩
    rw [← hL] at hr4 ⊢
    obtain ⟨X, hX⟩ : ∃ X, X = CrcMath.add 0 L := ⟨_, rfl⟩
    obtain ⟨X0, hX0⟩ : ∃ X, X = CrcMath.add 0 l0 := ⟨_, rfl⟩
    obtain ⟨X1, hX1⟩ : ∃ X, X = CrcMath.add X0 l1 := ⟨_, rfl⟩
    have h1 : X = CrcMath.of [l0, l1, l2] := by rw [hX, CrcMath.of_eq, hL]; simp
    have h2 : X = CrcMath.add X1 l2 := by rw [hX, hX1, hX0, CrcMath.add_append, CrcMath.add_append, hL]
    have h3 : X0 = CrcMath.of [l0] := by rw [CrcMath.of_eq, hX0]; simp
    have HX := Lib.hid hX
    have HX0 := Lib.hid hX0
    have HX1 := Lib.hid hX1
    have H1 := Lib.hid h1
    have H2 := Lib.hid h2
    have H3 := Lib.hid h3
    clear h1 h2 h3 hL hX hX0 hX1 ho2 ho3 ho4
    go_wp2_with fail
    refine (refcrc_any 0 _ A4 c4 L hr4).mono ?_
    rintro e w5 ⟨rfl, rfl⟩
    rw [← HX.out]
    go_wp2_with fail
    refine (crcof_any _ _ 3 [l0, l1, l2] ?q1).mono ?_
    case q1 =>
      refine Rdl.of_block (vs := [.slice A0 l0.length c0, .slice A1 l1.length c1, .slice A2 l2.length c2]) (heap_new _ _ _ rfl) (by simp) ⟨⟨_, _, rfl, lc0, ?_⟩, ⟨_, _, rfl, lc1, ?_⟩, ⟨_, _, rfl, lc2, ?_⟩, trivial⟩
      · exact (r0.below hb4).alloc _
      · exact (r1.below hb4).alloc _
      · exact (r2.below hb4).alloc _
    rintro e w6 ⟨rfl, hb6⟩
    rw [← H1.out]
    have hb6 := below_then (hb4.alloc hb4.size _) (by have := hb4.size; simp; omega) hb6
    go_wp2_with fail
    refine (crcof_any _ _ 1 [l0] ?q2).mono ?_
    case q2 => exact Rdl.of_block (vs := [.slice A0 l0.length c0]) (heap_new _ _ _ rfl) (by simp) ⟨⟨_, _, rfl, lc0, (r0.below hb6).alloc _⟩, trivial⟩
    rintro e w7 ⟨rfl, hb7⟩
    rw [← H3.out]
    have hb7 := below_then (hb6.alloc hb6.size _) (by have := hb6.size; simp; omega) hb7
    go_wp2_with fail
    refine (crcadd_any X0 _ A1 c1 l1 (r1.below hb7)).mono ?_
    rintro e w8 ⟨rfl, hb8⟩
    rw [← HX1.out]
    have hb8 := below_then hb7 hb7.size hb8
    go_wp2_with fail
    refine (crcadd_any X1 _ A2 c2 l2 (r2.below hb8)).mono ?_
    rintro e w9 ⟨rfl, hb9⟩
    rw [← H2.out]
    have hb9 := below_then hb8 hb8.size hb9
    go_wp2_with fail
    refine (crcadd_any 0 _ A0 c0 l0 (r0.below hb9)).mono ?_
    rintro e w10 ⟨rfl, hb10⟩
    rw [← HX0.out]
    have hb10 := below_then hb9 hb9.size hb10
    go_wp2_with fail
    refine (crcof_any _ _ 1 [l0] ?q3).mono ?_
    case q3 => exact Rdl.of_block (vs := [.slice A0 l0.length c0]) (heap_new _ _ _ rfl) (by simp) ⟨⟨_, _, rfl, lc0, (r0.below hb10).alloc _⟩, trivial⟩
    rintro e w11 ⟨rfl, hb11⟩
    rw [← H3.out]
    have hb11 := below_then (hb10.alloc hb10.size _) (by have := hb10.size; simp; omega) hb11
    go_wp2_with fail
    go_ret
    exact ⟨rfl, hb11⟩
end Go.Proofs.Ythhdkhgafeaehaa
