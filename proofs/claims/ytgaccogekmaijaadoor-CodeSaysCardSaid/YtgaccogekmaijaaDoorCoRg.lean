/- The reference writes letters: the walk. -/
import Derived.Test.YtgaccogekmaijaaDoorCoRb
namespace Go.Proofs.YtgaccogekmaijaaDoor
open Go.RowKit Go.Maps
set_option linter.unusedVariables false
set_option linter.unusedSimpArgs false
attribute [local irreducible] wpR relOp Stu.wpR Stu.relOp
set_option maxRecDepth 20000 in
set_option maxHeartbeats 40000000 in
theorem rb64_any (w : World) (A : Option Addr) (m c : Nat) (b : List UInt8) (hr : Rd w A b) (hm : b.length = m) (hc : m ≤ c) (hl : m ≤ 1000000) :
    Calls Tryd.prog 15 #[.slice A m c] w fun e w' => ∃ v, e = .returned v ∧ Ob w' w.heap.size 5 v (CodeMath.enc 0 b) ∧ Below w.heap.size w w' := by
  have HTot : Hid ((CodeMath.enc 0 b).length ≤ 7000000) := Lib.hid (by have := encF_len (b.length + 1) 0 b (by omega); unfold CodeMath.enc; omega)
  have HM := Lib.hid hm; have HR := Lib.hid hr
  clear hm hr
  go_enter Tryd.func15, Tryd.ntmps15
  go_wp2_with fail
  refine (letters_fn w).mono ?_
  rintro e w ⟨rfl, rfl⟩
  go_wp2_with fail
  go_loopw [3, 5, 6, 7, 8, 9, 10] (fun vo vn vi _ _ _ _ wr => ∃ (pre : List UInt8) (i N k : Nat), vi = .int .i64 i ∧ vn = .int .i64 N ∧ i ≤ m + 2 ∧ N ≤ 2 * i ∧ N % 4 = 0 ∧ k < 76 ∧ k % 4 = 0 ∧ (i < m → k = N % 76) ∧ (m ≤ i → k = 0) ∧ CodeMath.enc 0 b = pre ++ CodeMath.enc k (b.drop i) ∧ Ob wr w.heap.size 5 vo pre ∧ (pre = [] → vo = .slice none 0 0) ∧ Below w.heap.size w wr) (fun _ _ vi _ _ _ _ _ => m + 3 - (intOf vi).toNat)
  case atStart => exact ⟨[], 0, 0, 0, rfl, rfl, by omega, by omega, rfl, by decide, rfl, fun _ => rfl, fun _ => rfl, rfl, Ob.nil _ _ _, fun _ => rfl, Below.refl _ _⟩
  case round =>
    rename World => w0
    obtain ⟨pre, i, N, k, rfl, rfl, him, hNi, hN4, hk, hk4, hkN, hk0, henc, hob, hz, hb⟩ := hrel
    obtain ⟨np, hnp⟩ : ∃ np, np = pre.length := ⟨_, rfl⟩
    obtain ⟨A0, c00, hv0, hc00, _⟩ := hob.rd
    rw [← hnp] at hv0 hc00
    subst hv0
    have hnp9 : np ≤ 7000000 := by
      have h1 := HTot.out
      rw [henc, List.length_append] at h1
      omega
    have HNP := Lib.hid hnp; have HE := Lib.hid henc; have HO := Lib.hid hob; have HZ := Lib.hid hz; have HB := Lib.hid hb
    clear hnp henc hob hz hb
    have hwi3 : IntKind.i64.wrap ((i : Int) + 3) = (i : Int) + 3 := by rw [IntKind.wrap_i64]; omega
    by_cases hlt : i < m
    · have hlti : (i : Int) < m := by omega
      have hkN' := hkN hlt
      clear hkN
      obtain ⟨r0, hr0⟩ : ∃ r0, r0 = b.drop i := ⟨_, rfl⟩
      have hL : r0.length = m - i := by rw [hr0, List.length_drop, HM.out]
      have hne : r0 ≠ [] := fun e => by rw [e] at hL; simp at hL; omega
      have hst := CodeMath.enc_step k r0 hne
      rw [if_neg (by omega), if_neg (by omega), List.nil_append, CodeMath.grp_take3, hL] at hst
      have hd3 : r0.drop 3 = b.drop (i + 3) := by rw [hr0, List.drop_drop]
      rw [hd3] at hst
      rw [← hr0] at HE
      have HST := Lib.hid hst; have HR0 := Lib.hid hr0; have HL := Lib.hid hL
      clear hst hr0 hL hne hd3
      go_wp2_with fail
      go_loopw [7, 8, 9] (fun v7 v8 v9 wz => ∃ j : Nat, j ≤ 3 ∧ v9 = .int .i64 j ∧ v7 = .int .u32 (CodeMath.ngB r0 j) ∧ v8 = .int .i64 ((min j (m - i) : Nat) : Int) ∧ wz = w0) (fun _ _ v9 _ => 3 - (intOf v9).toNat)
      case atStart => exact ⟨0, by omega, rfl, rfl, by simp, rfl⟩
      case round =>
        obtain ⟨j, hj, rfl, rfl, rfl, hw⟩ := hrel
        subst hw
        by_cases hj3 : j < 3
        · have hj3i : (j : Int) < 3 := by omega
          have hwj : IntKind.i64.wrap ((j : Int) + 1) = ((j + 1 : Nat) : Int) := by rw [IntKind.wrap_i64]; omega
          have hlt65 := CodeMath.ng_lt r0 j hj3
          have hsu : CodeMath.ngB r0 (j + 1) = CodeMath.ngB r0 j * 256 + CodeMath.at3 r0 j := rfl
          obtain ⟨q, hq⟩ : ∃ q, q = i + j := ⟨_, rfl⟩
          have hij : (i : Int) + (j : Int) = (q : Int) := by omega
          have hwq : IntKind.i64.wrap (q : Int) = (q : Int) := by rw [IntKind.wrap_i64]; omega
          by_cases hqm : q < m
          · have hqmi : (q : Int) < m := by omega
            obtain ⟨a, rfl, x0⟩ := (HR.out.below HB.out).at_ q (by rw [HM.out]; exact hqm)
            have hat : CodeMath.at3 r0 j = (b[q]'(by rw [HM.out]; exact hqm)).toNat := by
              unfold CodeMath.at3
              rw [HR0.out, List.getD_eq_getElem?_getD, List.getElem?_drop, ← hq, List.getElem?_eq_getElem (by rw [HM.out]; exact hqm)]
              rfl
            rw [hat] at hsu
            generalize b[q]'(by rw [HM.out]; exact hqm) = y at *
            have hmn : min (j + 1) (m - i) = min j (m - i) + 1 := by omega
            have hmj : min j (m - i) = j := by omega
            rw [hmj] at hmn ⊢
            generalize CodeMath.ngB r0 j = X at *
            have hws : IntKind.u32.wrap ((X : Int) * 256) = (X : Int) * 256 := by rw [IntKind.wrap_u32]; omega
            have hor := or_stepu X y hlt65
            have hy8 := y.toNat_lt
            have HSU := Lib.hid hsu; have HMN := Lib.hid hmn
            clear hsu hmn hmj hat hq
            go_wp2
            go_roundw
            case rel => exact ⟨j + 1, by omega, by go_num, by rw [HSU.out]; first | rfl | simp, by rw [HMN.out]; first | rfl | go_num, by trivial⟩
            case measure => simp [intOf]; omega
          · have hqmi : ¬ (q : Int) < m := by omega
            have hat : CodeMath.at3 r0 j = 0 := by
              unfold CodeMath.at3
              rw [List.getD_eq_getElem?_getD, List.getElem?_eq_none (by rw [HL.out]; omega)]
              rfl
            rw [hat] at hsu
            have hmn : min (j + 1) (m - i) = min j (m - i) := by omega
            generalize CodeMath.ngB r0 j = X at *
            have hws : IntKind.u32.wrap ((X : Int) * 256) = (X : Int) * 256 := by rw [IntKind.wrap_u32]; omega
            have HSU := Lib.hid hsu; have HMN := Lib.hid hmn
            clear hsu hmn hat hq
            go_wp2
            go_roundw
            case rel => exact ⟨j + 1, by omega, by go_num, by rw [HSU.out]; first | rfl | simp, by rw [HMN.out], by trivial⟩
            case measure => simp [intOf]; omega
        · have hj33 : j = 3 := by omega
          rw [show CodeMath.ngB r0 j = CodeMath.N3 r0 by rw [hj33]; exact CodeMath.ng3 _]
          have hX := CodeMath.N3_lt r0
          obtain ⟨hv, hhv⟩ : ∃ hv, hv = min j (m - i) := ⟨_, rfl⟩
          rw [← hhv]
          have hv1 : 1 ≤ hv := by omega
          have hv3 : hv ≤ 3 := by omega
          have e2 : (2 ≤ m - i) = (2 ≤ hv) := by rw [eq_iff_iff]; omega
          have e3 : (3 ≤ m - i) = (3 ≤ hv) := by rw [eq_iff_iff]; omega
          have hst := HST.out
          simp only [e2, e3] at hst
          generalize CodeMath.N3 r0 = X at *
          have HST2 := Lib.hid hst
          have HHV := Lib.hid hhv
          have HJ3 := Lib.hid hj33
          clear hst e2 e3 hhv HST hj hk0 hj33
          have q0 : bits .and .u32 ((X : Int) / 262144) 63 = ((X / 262144 : Nat) : Int) := by rw [and63u]; omega
          have q1 : bits .and .u32 ((X : Int) / 4096) 63 = ((X / 4096 % 64 : Nat) : Int) := by rw [and63u]; omega
          have q2 : bits .and .u32 ((X : Int) / 64) 63 = ((X / 64 % 64 : Nat) : Int) := by rw [and63u]; omega
          have q3 : bits .and .u32 (X : Int) 63 = ((X % 64 : Nat) : Int) := by rw [and63u]; omega
          have l0 : X / 262144 < 64 := by omega
          have l1 : X / 4096 % 64 < 64 := by omega
          have l2 : X / 64 % 64 < 64 := by omega
          have l3 : X % 64 < 64 := by omega
          generalize hA0 : X / 262144 = n0 at *
          generalize hA1 : X / 4096 % 64 = n1 at *
          generalize hA2 : X / 64 % 64 = n2 at *
          generalize hA3 : X % 64 = n3 at *
          clear hA0 hA1 hA2 hA3
          have p0 := fun W => run_letu W n0 l0
          have p1 := fun W => run_letu W n1 l1
          have p2 := fun W => run_letu W n2 l2
          have p3 := fun W => run_letu W n3 l3
          obtain ⟨GL, hGL⟩ : ∃ GL : List UInt8, GL = [CodeMath.letter n0, CodeMath.letter n1, if 2 ≤ hv then CodeMath.letter n2 else 61, if 3 ≤ hv then CodeMath.letter n3 else 61] := ⟨_, rfl⟩
          rw [← hGL] at HST2
          have HGL := Lib.hid hGL
          clear hGL
          go_wp2_with fail
          go_loopw [3, 5, 10] (fun vo vn v10 wz => ∃ (j : Nat), j ≤ 4 ∧ v10 = .int .i64 j ∧ vn = .int .i64 ((N + j : Nat) : Int) ∧ Ob wz w.heap.size 5 vo (pre ++ GL.take j) ∧ (pre ++ GL.take j = [] → vo = .slice none 0 0) ∧ Below w.heap.size w wz) (fun _ _ v10 _ => 4 - (intOf v10).toNat)
          case atStart => exact ⟨0, by omega, rfl, rfl, by simpa using HO.out, fun e => HZ.out (by simpa using e), HB.out⟩
          case round =>
            clear HO HZ HB
            rename World => wr
            obtain ⟨j, hj, rfl, rfl, hob, hz, hb⟩ := hrel
            obtain ⟨pre2, he2⟩ : ∃ pre2, pre2 = pre ++ GL.take j := ⟨_, rfl⟩
            rw [← he2] at hob hz
            obtain ⟨np2, hnp2⟩ : ∃ np2, pre2.length = np2 := ⟨_, rfl⟩
            obtain ⟨A2, c2, rfl, hc2⟩ := hob.shpn hnp2
            have hnp29 : np2 ≤ 7000004 := by
              rw [← hnp2, he2, List.length_append, ← HNP.out, List.length_take]
              omega
            have HE2 := Lib.hid he2; have HO := Lib.hid hob; have HZ := Lib.hid hz; have HB := Lib.hid hb; have HLP := Lib.hid hnp2
            clear he2 hob hz hb hnp2
            have hwN : IntKind.i64.wrap ((N : Int) + j + 1) = ((N + (j + 1) : Nat) : Int) := by rw [IntKind.wrap_i64]; omega
            have hj5 : j = 0 ∨ j = 1 ∨ j = 2 ∨ j = 3 ∨ j = 4 := by omega
            rcases hj5 with rfl | rfl | rfl | rfl | rfl
            · have hv0i : (0 : Int) ≤ hv := by omega
              obtain ⟨A3, c3, W3, hrun3, ho3, hb3⟩ := app1_let HO.out HZ.out HB.out.size HLP.out (by omega) (CodeMath.letter n0)
              skip
              obtain ⟨W1, hW1⟩ : ∃ W1, W1 = wr.alloc (.cells #[.int .u8 ((CodeMath.letter n0).toNat : Int)] 5) := ⟨_, rfl⟩
              rw [← hW1] at hrun3
              have HRUN3 := Lib.hid hrun3; have HW1 := Lib.hid hW1; have HO3 := Lib.hid ho3
              have HB3 : Hid (Below w.heap.size w W3) := Lib.hid (HB.out.trans hb3)
              have HE3 : Hid (pre2 ++ [CodeMath.letter n0] = pre ++ GL.take (1)) := Lib.hid (by rw [HE2.out, HGL.out]; simp [])
              clear hrun3 hW1 ho3 hb3
              go_wp2_with (at_builtin; rw [← HW1.out]; refine Lib.wpList_append_run _ rfl _ _ _ _ rfl _ _ rfl rfl _ _ HRUN3.out ?_)
              go_roundw
              case rel => exact ⟨1, by omega, by go_num, by go_num, by rw [← HE3.out]; exact HO3.out, fun e => (by rw [← HE3.out] at e; simp at e), HB3.out⟩
              case measure => simp [intOf]
            · have hv1i : (1 : Int) ≤ hv := by omega
              obtain ⟨A3, c3, W3, hrun3, ho3, hb3⟩ := app1_let HO.out HZ.out HB.out.size HLP.out (by omega) (CodeMath.letter n1)
              skip
              obtain ⟨W1, hW1⟩ : ∃ W1, W1 = wr.alloc (.cells #[.int .u8 ((CodeMath.letter n1).toNat : Int)] 5) := ⟨_, rfl⟩
              rw [← hW1] at hrun3
              have HRUN3 := Lib.hid hrun3; have HW1 := Lib.hid hW1; have HO3 := Lib.hid ho3
              have HB3 : Hid (Below w.heap.size w W3) := Lib.hid (HB.out.trans hb3)
              have HE3 : Hid (pre2 ++ [CodeMath.letter n1] = pre ++ GL.take (2)) := Lib.hid (by rw [HE2.out, HGL.out]; simp [])
              clear hrun3 hW1 ho3 hb3
              go_wp2_with (at_builtin; rw [← HW1.out]; refine Lib.wpList_append_run _ rfl _ _ _ _ rfl _ _ rfl rfl _ _ HRUN3.out ?_)
              go_roundw
              case rel => exact ⟨2, by omega, by go_num, by go_num, by rw [← HE3.out]; exact HO3.out, fun e => (by rw [← HE3.out] at e; simp at e), HB3.out⟩
              case measure => simp [intOf]
            · by_cases h2 : 2 ≤ hv
              · have hv2i : (2 : Int) ≤ hv := by omega
                obtain ⟨A3, c3, W3, hrun3, ho3, hb3⟩ := app1_let HO.out HZ.out HB.out.size HLP.out (by omega) (CodeMath.letter n2)
                skip
                obtain ⟨W1, hW1⟩ : ∃ W1, W1 = wr.alloc (.cells #[.int .u8 ((CodeMath.letter n2).toNat : Int)] 5) := ⟨_, rfl⟩
                rw [← hW1] at hrun3
                have HRUN3 := Lib.hid hrun3; have HW1 := Lib.hid hW1; have HO3 := Lib.hid ho3
                have HB3 : Hid (Below w.heap.size w W3) := Lib.hid (HB.out.trans hb3)
                have HE3 : Hid (pre2 ++ [CodeMath.letter n2] = pre ++ GL.take (3)) := Lib.hid (by rw [HE2.out, HGL.out]; simp [h2])
                clear hrun3 hW1 ho3 hb3
                go_wp2_with (at_builtin; rw [← HW1.out]; refine Lib.wpList_append_run _ rfl _ _ _ _ rfl _ _ rfl rfl _ _ HRUN3.out ?_)
                go_roundw
                case rel => exact ⟨3, by omega, by go_num, by go_num, by rw [← HE3.out]; exact HO3.out, fun e => (by rw [← HE3.out] at e; simp at e), HB3.out⟩
                case measure => simp [intOf]
              · have hv2i : ¬ (2 : Int) ≤ hv := by omega
                obtain ⟨A3, c3, W3, hrun3, ho3, hb3⟩ := app1_let HO.out HZ.out HB.out.size HLP.out (by omega) ((61 : UInt8))
                rw [show (((61 : UInt8).toNat : Nat) : Int) = 61 from rfl] at hrun3
                obtain ⟨W1, hW1⟩ : ∃ W1, W1 = wr.alloc (.cells #[.int .u8 61] 5) := ⟨_, rfl⟩
                rw [← hW1] at hrun3
                have HRUN3 := Lib.hid hrun3; have HW1 := Lib.hid hW1; have HO3 := Lib.hid ho3
                have HB3 : Hid (Below w.heap.size w W3) := Lib.hid (HB.out.trans hb3)
                have HE3 : Hid (pre2 ++ [(61 : UInt8)] = pre ++ GL.take (3)) := Lib.hid (by rw [HE2.out, HGL.out]; simp [h2])
                clear hrun3 hW1 ho3 hb3
                go_wp2_with (at_builtin; rw [← HW1.out]; refine Lib.wpList_append_run _ rfl _ _ _ _ rfl _ _ rfl rfl _ _ HRUN3.out ?_)
                go_roundw
                case rel => exact ⟨3, by omega, by go_num, by go_num, by rw [← HE3.out]; exact HO3.out, fun e => (by rw [← HE3.out] at e; simp at e), HB3.out⟩
                case measure => simp [intOf]
            · by_cases h3 : 3 ≤ hv
              · have hv3i : (3 : Int) ≤ hv := by omega
                have h2 : 2 ≤ hv := by omega
                obtain ⟨A3, c3, W3, hrun3, ho3, hb3⟩ := app1_let HO.out HZ.out HB.out.size HLP.out (by omega) (CodeMath.letter n3)
                skip
                obtain ⟨W1, hW1⟩ : ∃ W1, W1 = wr.alloc (.cells #[.int .u8 ((CodeMath.letter n3).toNat : Int)] 5) := ⟨_, rfl⟩
                rw [← hW1] at hrun3
                have HRUN3 := Lib.hid hrun3; have HW1 := Lib.hid hW1; have HO3 := Lib.hid ho3
                have HB3 : Hid (Below w.heap.size w W3) := Lib.hid (HB.out.trans hb3)
                have HE3 : Hid (pre2 ++ [CodeMath.letter n3] = pre ++ GL.take (4)) := Lib.hid (by rw [HE2.out, HGL.out]; simp [h2, h3])
                clear hrun3 hW1 ho3 hb3
                go_wp2_with (at_builtin; rw [← HW1.out]; refine Lib.wpList_append_run _ rfl _ _ _ _ rfl _ _ rfl rfl _ _ HRUN3.out ?_)
                go_roundw
                case rel => exact ⟨4, by omega, by go_num, by go_num, by rw [← HE3.out]; exact HO3.out, fun e => (by rw [← HE3.out] at e; simp at e), HB3.out⟩
                case measure => simp [intOf]
              · have hv3i : ¬ (3 : Int) ≤ hv := by omega
                obtain ⟨A3, c3, W3, hrun3, ho3, hb3⟩ := app1_let HO.out HZ.out HB.out.size HLP.out (by omega) ((61 : UInt8))
                rw [show (((61 : UInt8).toNat : Nat) : Int) = 61 from rfl] at hrun3
                obtain ⟨W1, hW1⟩ : ∃ W1, W1 = wr.alloc (.cells #[.int .u8 61] 5) := ⟨_, rfl⟩
                rw [← hW1] at hrun3
                have HRUN3 := Lib.hid hrun3; have HW1 := Lib.hid hW1; have HO3 := Lib.hid ho3
                have HB3 : Hid (Below w.heap.size w W3) := Lib.hid (HB.out.trans hb3)
                have HE3 : Hid (pre2 ++ [(61 : UInt8)] = pre ++ GL.take (4)) := Lib.hid (by rw [HE2.out, HGL.out]; simp [h3])
                clear hrun3 hW1 ho3 hb3
                go_wp2_with (at_builtin; rw [← HW1.out]; refine Lib.wpList_append_run _ rfl _ _ _ _ rfl _ _ rfl rfl _ _ HRUN3.out ?_)
                go_roundw
                case rel => exact ⟨4, by omega, by go_num, by go_num, by rw [← HE3.out]; exact HO3.out, fun e => (by rw [← HE3.out] at e; simp at e), HB3.out⟩
                case measure => simp [intOf]
            · have hp2 : Hid (CodeMath.enc 0 b = pre2 ++ CodeMath.enc (k + 4) (b.drop (i + 3))) := Lib.hid (by
                rw [HE.out, HST2.out, HE2.out, List.take_of_length_le (by rw [HGL.out]; simp), List.append_assoc])
              clear p0 p1 p2 p3 q0 q1 q2 q3 HST2 HE HE2
              have hN0 : (0 : Int) ≤ (N : Int) + 4 := by omega
              have htm : Int.tmod ((N : Int) + 4) 76 = (((N + 4) % 76 : Nat) : Int) := by rw [Int.tmod_eq_emod_of_nonneg hN0]; omega
              have hwm : IntKind.i64.wrap (((N + 4) % 76 : Nat) : Int) = (((N + 4) % 76 : Nat) : Int) := by rw [IntKind.wrap_i64]; omega
              by_cases hend : m ≤ i + 3
              · have hendi : (m : Int) ≤ (i : Int) + 3 := by omega
                have HEN : Hid (CodeMath.enc 0 b = (pre2 ++ [13, 10]) ++ CodeMath.enc 0 (b.drop (i + 3))) := Lib.hid (by
                  rw [hp2.out, List.drop_eq_nil_of_le (by rw [HM.out]; omega), CodeMath.enc_nil, CodeMath.enc_nil, if_pos (by omega), if_neg (by omega), List.append_nil])
                by_cases h76 : (N + 4) % 76 = 0
                · rw [h76] at htm hwm
                  obtain ⟨W5, hW5⟩ : ∃ W5, W5 = wr.alloc (.cells #[.int .u8 13, .int .u8 10] 5) := ⟨_, rfl⟩
                  have hb5 : Below wr.heap.size wr W5 := by rw [hW5]; exact (Below.refl _ _).alloc (Nat.le_refl _) _
                  obtain ⟨v6, W6, hrun6, ho6, hts6⟩ := appb_run (m := 2) (c := 2) (HO.out.below hb5) HZ.out (Rd.of_block (l := [13, 10]) (show W5.heap[wr.heap.size]? = _ by rw [hW5]; exact heap_new _ _ _ rfl) (by simp)) rfl (Nat.le_trans HB.out.size hb5.size) (by rw [HLP.out]; simp; omega)
                  obtain ⟨n6, hn6⟩ : ∃ n6, n6 = (pre2 ++ [13, 10]).length := ⟨_, rfl⟩
                  obtain ⟨A6, c6, rfl, _⟩ := ho6.shpn hn6.symm
                  have HW5 := Lib.hid hW5; have HR6 := Lib.hid hrun6; have HO6 := Lib.hid ho6
                  have HB6 : Hid (Below w.heap.size w W6) := Lib.hid ((below_then HB.out HB.out.size hb5).trans hts6.1)
                  clear hW5 hb5 hrun6 ho6 hts6 hn6
                  go_wp2_with (at_builtin; rw [← HW5.out]; refine Lib.wpList_append_run _ rfl _ _ _ _ rfl _ _ rfl rfl _ _ HR6.out ?_)
                  go_roundw
                  case rel => exact ⟨pre2 ++ [13, 10], i + 3, N + 4, 0, by go_num, by go_num, by omega, by omega, by omega, by decide, by decide, fun h => by omega, fun _ => rfl, HEN.out, HO6.out, fun e => by simp at e, HB6.out⟩
                  case measure => simp [intOf]; omega
                · have h76b : ((((N + 4) % 76 : Nat) : Int) == 0) = false := by rw [beq_eq_false_iff_ne]; omega
                  generalize (N + 4) % 76 = Q at *
                  obtain ⟨W5, hW5⟩ : ∃ W5, W5 = wr.alloc (.cells #[.int .u8 13, .int .u8 10] 5) := ⟨_, rfl⟩
                  have hb5 : Below wr.heap.size wr W5 := by rw [hW5]; exact (Below.refl _ _).alloc (Nat.le_refl _) _
                  obtain ⟨v6, W6, hrun6, ho6, hts6⟩ := appb_run (m := 2) (c := 2) (HO.out.below hb5) HZ.out (Rd.of_block (l := [13, 10]) (show W5.heap[wr.heap.size]? = _ by rw [hW5]; exact heap_new _ _ _ rfl) (by simp)) rfl (Nat.le_trans HB.out.size hb5.size) (by rw [HLP.out]; simp; omega)
                  obtain ⟨n6, hn6⟩ : ∃ n6, n6 = (pre2 ++ [13, 10]).length := ⟨_, rfl⟩
                  obtain ⟨A6, c6, rfl, _⟩ := ho6.shpn hn6.symm
                  have HW5 := Lib.hid hW5; have HR6 := Lib.hid hrun6; have HO6 := Lib.hid ho6
                  have HB6 : Hid (Below w.heap.size w W6) := Lib.hid ((below_then HB.out HB.out.size hb5).trans hts6.1)
                  clear hW5 hb5 hrun6 ho6 hts6 hn6
                  go_wp2_with (at_builtin; rw [← HW5.out]; refine Lib.wpList_append_run _ rfl _ _ _ _ rfl _ _ rfl rfl _ _ HR6.out ?_)
                  go_roundw
                  case rel => exact ⟨pre2 ++ [13, 10], i + 3, N + 4, 0, by go_num, by go_num, by omega, by omega, by omega, by decide, by decide, fun h => by omega, fun _ => rfl, HEN.out, HO6.out, fun e => by simp at e, HB6.out⟩
                  case measure => simp [intOf]; omega
              · have hendi : ¬ (m : Int) ≤ (i : Int) + 3 := by omega
                by_cases h76 : (N + 4) % 76 = 0
                · have HEN : Hid (CodeMath.enc 0 b = (pre2 ++ [13, 10]) ++ CodeMath.enc 0 (b.drop (i + 3))) := Lib.hid (by
                    rw [hp2.out, show k + 4 = 76 by omega, CodeMath.enc76, List.append_assoc])
                  rw [h76] at htm hwm
                  obtain ⟨W5, hW5⟩ : ∃ W5, W5 = wr.alloc (.cells #[.int .u8 13, .int .u8 10] 5) := ⟨_, rfl⟩
                  have hb5 : Below wr.heap.size wr W5 := by rw [hW5]; exact (Below.refl _ _).alloc (Nat.le_refl _) _
                  obtain ⟨v6, W6, hrun6, ho6, hts6⟩ := appb_run (m := 2) (c := 2) (HO.out.below hb5) HZ.out (Rd.of_block (l := [13, 10]) (show W5.heap[wr.heap.size]? = _ by rw [hW5]; exact heap_new _ _ _ rfl) (by simp)) rfl (Nat.le_trans HB.out.size hb5.size) (by rw [HLP.out]; simp; omega)
                  obtain ⟨n6, hn6⟩ : ∃ n6, n6 = (pre2 ++ [13, 10]).length := ⟨_, rfl⟩
                  obtain ⟨A6, c6, rfl, _⟩ := ho6.shpn hn6.symm
                  have HW5 := Lib.hid hW5; have HR6 := Lib.hid hrun6; have HO6 := Lib.hid ho6
                  have HB6 : Hid (Below w.heap.size w W6) := Lib.hid ((below_then HB.out HB.out.size hb5).trans hts6.1)
                  clear hW5 hb5 hrun6 ho6 hts6 hn6
                  go_wp2_with (at_builtin; rw [← HW5.out]; refine Lib.wpList_append_run _ rfl _ _ _ _ rfl _ _ rfl rfl _ _ HR6.out ?_)
                  go_roundw
                  case rel => exact ⟨pre2 ++ [13, 10], i + 3, N + 4, 0, by go_num, by go_num, by omega, by omega, by omega, by decide, by decide, fun h => by omega, fun _ => rfl, HEN.out, HO6.out, fun e => by simp at e, HB6.out⟩
                  case measure => simp [intOf]; omega
                · have h76b : ((((N + 4) % 76 : Nat) : Int) == 0) = false := by rw [beq_eq_false_iff_ne]; omega
                  have hk2 : k + 4 = (N + 4) % 76 := by omega
                  have HQ := Lib.hid hk2
                  have hk76 : k + 4 < 76 := by omega
                  clear hk2
                  go_wp2
                  go_roundw
                  case rel => exact ⟨pre2, i + 3, N + 4, k + 4, by go_num, by go_num, by omega, by omega, by omega, hk76, by omega, fun _ => HQ.out, fun h => by omega, hp2.out, HO.out, HZ.out, HB.out⟩
                  case measure => simp [intOf]; omega
    · have hlti : ¬ (i : Int) < m := by omega
      have hnil : b.drop i = [] := List.drop_eq_nil_of_le (by rw [HM.out]; omega)
      have HRES : Hid (CodeMath.enc 0 b = pre) := Lib.hid (by rw [HE.out, hnil, hk0 (by omega), CodeMath.enc_nil, if_neg (by omega), List.append_nil])
      clear hnil
      go_wp2
      go_ret
      exact ⟨_, rfl, by rw [HRES.out]; exact HO.out, HB.out⟩
end Go.Proofs.YtgaccogekmaijaaDoor
