/- CrcLinear: the walk of the law. -/
import Derived.Test.YthhdkhgafeaehaaCrcSays
import Derived.Test.YthhdkhgafeaehaaCrcParts
import Derived.Test.YthhdkhgafeaehaaRel
import Derived.StillTailTactics
import Derived.OpenShut
namespace Go.Proofs.Ythhdkhgafeaehaa
set_option linter.unusedVariables false
set_option linter.unusedSimpArgs false
open Go.RowKit

theorem xor8 (x y : UInt8) : bits .xor .u8 (x.toNat : Int) (y.toNat : Int) = ((x ^^^ y).toNat : Int) := by
  have hx := x.toNat_lt
  have hy := y.toNat_lt
  simp only [bits, BitVec.ofInt_natCast]
  rw [IntKind.wrap_u8]
  have h : (BitVec.ofNat IntKind.u8.bits x.toNat ^^^ BitVec.ofNat IntKind.u8.bits y.toNat).toNat = (x ^^^ y).toNat := by
    rw [BitVec.toNat_xor, BitVec.toNat_ofNat, BitVec.toNat_ofNat, UInt8.toNat_xor]
    rw [Nat.mod_eq_of_lt (by simpa [IntKind.bits] using hx), Nat.mod_eq_of_lt (by simpa [IntKind.bits] using hy)]
  rw [h]
  have := (x ^^^ y).toNat_lt
  omega
theorem xor3_length (a b c : List UInt8) (h1 : b.length = a.length) (h2 : c.length = a.length) : (CrcMath.xor3 a b c).length = a.length := by simp [CrcMath.xor3, h1, h2]
theorem xor3_at (a b c : List UInt8) (j : Nat) (ha : j < a.length) (hb : j < b.length) (hc : j < c.length) (h : j < (CrcMath.xor3 a b c).length) : (CrcMath.xor3 a b c)[j] = a[j] ^^^ b[j] ^^^ c[j] := by simp [CrcMath.xor3]

def linTbl (x a b c : Int) : Nat → Option Sp
  | 1 | 4 | 7 | 11 => some (.lit 22)
  | 2 => some (.val (.int .u32 x))
  | 5 => some (.val (.int .u32 a))
  | 8 => some (.val (.int .u32 b))
  | 12 => some (.val (.int .u32 c))
  | _ => none

theorem CrcLinear_ok (A0 : Option Addr) (c0 : Nat) (l0 : List UInt8) (A1 : Option Addr) (c1 : Nat) (l1 : List UInt8) (A2 : Option Addr) (c2 : Nat) (l2 : List UInt8) (w : World)
    (r0 : Rd w A0 l0) (lc0 : l0.length ≤ c0) (r1 : Rd w A1 l1) (lc1 : l1.length ≤ c1) (r2 : Rd w A2 l2) (lc2 : l2.length ≤ c2) (h1 : l1.length = l0.length) (h2 : l2.length = l0.length) (hn : l0.length ≤ 200) :
    Calls Try.prog 5 #[.slice A0 l0.length c0, .slice A1 l0.length c1, .slice A2 l0.length c2] w fun e w' => e = .returned (.bool true) ∧ Below w.heap.size w w' := by
  obtain ⟨n, hnn⟩ : ∃ n, n = l0.length := ⟨_, rfl⟩
  have hx := xor3_length l0 l1 l2 h1 h2
  have hv : CrcMath.of [CrcMath.xor3 l0 l1 l2] = CrcMath.of [l0] ^^^ CrcMath.of [l1] ^^^ CrcMath.of [l2] := by
    rw [CrcMath.of_eq, CrcMath.of_eq, CrcMath.of_eq, CrcMath.of_eq]
    simpa using CrcMath.add_xor3 l0 l1 l2 h1 h2
  rw [← hnn] at hn lc0 h1 h2 hx ⊢
  rw [h1] at lc1
  rw [h2] at lc2
  have HN := Lib.hid hnn; have H1 := Lib.hid h1; have H2 := Lib.hid h2; have HX := Lib.hid hx; have HV := Lib.hid hv
  clear hnn h1 h2 hx hv
  have hmk := make_bytes (P := Try.prog) 22 5 Try.underlying22 info_u8 n (by omega)
  go_enter Try.func5, Try.ntmps5
  go_wp2_with fail
  refine (awake_any _).mono ?_
  rintro e w1 ⟨rfl, hb1⟩
  go_wp2_with fail
  have hb2 := hb1.alloc hb1.size (.cells (madeCells #[.int .u8 0] n) 5)
  have hm2 := Mb.made w1 5 n (by omega)
  have hg1 := hb1.size
  generalize w1.alloc (.cells (madeCells #[.int .u8 0] n) 5) = w2 at hb2 hm2 ⊢
  generalize w1.heap.size = g at hm2 hg1 ⊢
  go_loopw [8] (fun i wr => ∃ k : Nat, k ≤ n ∧ i = .int .i64 k ∧ Below w.heap.size w wr ∧ Mb wr g 5 ((CrcMath.xor3 l0 l1 l2).take k ++ List.replicate (n - k) 0)) (fun i _ => n - (intOf i).toNat)
  case atStart => exact ⟨0, by omega, rfl, hb2, by simpa using hm2⟩
  case round =>
    obtain ⟨k, hk, rfl, hb, hm⟩ := hrel
    clear hmk
    by_cases hlt : k < n
    · obtain ⟨a0, rfl, hc0⟩ := (r0.below hb).at_ k (by rw [← HN.out]; exact hlt)
      obtain ⟨a1, rfl, hc1⟩ := (r1.below hb).at_ k (by rw [H1.out]; exact hlt)
      obtain ⟨a2, rfl, hc2⟩ := (r2.below hb).at_ k (by rw [H2.out]; exact hlt)
      have hlen : ((CrcMath.xor3 l0 l1 l2).take k ++ List.replicate (n - k) 0).length = n := by
        rw [List.length_append, List.length_take, HX.out, List.length_replicate]; omega
      obtain ⟨vg, hcg, hfg⟩ : ∃ v, wr.cell? ⟨g, k, none⟩ = some v ∧ wr.frozen? ⟨g, k, none⟩ = false := ⟨_, hm.cell k (by rw [hlen]; exact hlt)⟩
      have hset : ((CrcMath.xor3 l0 l1 l2).take k ++ List.replicate (n - k) 0).set k (l0[k]'(by rw [← HN.out]; exact hlt) ^^^ l1[k]'(by rw [H1.out]; exact hlt) ^^^ l2[k]'(by rw [H2.out]; exact hlt)) = (CrcMath.xor3 l0 l1 l2).take (k + 1) ++ List.replicate (n - (k + 1)) 0 := by
        rw [take_succ_at _ k (by rw [HX.out]; exact hlt), xor3_at l0 l1 l2 k (by rw [← HN.out]; exact hlt) (by rw [H1.out]; exact hlt) (by rw [H2.out]; exact hlt), List.set_append_right _ _ (by rw [List.length_take, HX.out]; omega)]
        rw [List.length_take, HX.out, show k - min k n = 0 by omega, show n - k = (n - (k + 1)) + 1 by omega, List.replicate_succ, List.set_cons_zero, List.append_assoc]
        rfl
      have hnew := hm.set k (l0[k]'(by rw [← HN.out]; exact hlt) ^^^ l1[k]'(by rw [H1.out]; exact hlt) ^^^ l2[k]'(by rw [H2.out]; exact hlt))
      rw [hset] at hnew
      generalize l0[k]'(by rw [← HN.out]; exact hlt) = x0 at hc0 hnew
      generalize l1[k]'(by rw [H1.out]; exact hlt) = x1 at hc1 hnew
      generalize l2[k]'(by rw [H2.out]; exact hlt) = x2 at hc2 hnew
      have e1 := xor8 x0 x1
      have e2 := xor8 (x0 ^^^ x1) x2
      generalize x0 ^^^ x1 ^^^ x2 = z at hnew e2
      generalize x0 ^^^ x1 = y at e1 e2
      have hx0 := x0.toNat_lt
      have HM := Lib.hid hnew; have HL := Lib.hid hlen; have HB := Lib.hid hb; have HM0 := Lib.hid hm
      clear hnew hlen hset hb hm
      go_wp2_with fail
      go_still_tail 17, (by kernel_rfl)
      change wpList _ _ _ _ _ _
      go_wp2
      go_roundw
      case rel => exact ⟨k + 1, by omega, by go_num, (HB.out.setCell (p := ⟨g, k, none⟩) hg1 _).drew, HM.out⟩
      case measure => simp [intOf]; omega
    · obtain rfl : k = n := by omega
      have hm' : Mb wr g 5 (CrcMath.xor3 l0 l1 l2) := by
        have e : (CrcMath.xor3 l0 l1 l2).take k ++ List.replicate (k - k) 0 = CrcMath.xor3 l0 l1 l2 := by
          rw [List.take_of_length_le (by rw [HX.out]; exact Nat.le_refl _)]; simp
        rwa [e] at hm
      have HM := Lib.hid hm'
      clear hm hm'
      have hs := hb.size
      obtain ⟨X, hX⟩ : ∃ X, X = CrcMath.of [CrcMath.xor3 l0 l1 l2] := ⟨_, rfl⟩
      obtain ⟨Y0, hY0⟩ : ∃ X, X = CrcMath.of [l0] := ⟨_, rfl⟩
      obtain ⟨Y1, hY1⟩ : ∃ X, X = CrcMath.of [l1] := ⟨_, rfl⟩
      obtain ⟨Y2, hY2⟩ : ∃ X, X = CrcMath.of [l2] := ⟨_, rfl⟩
      have e1 := xor32 Y0 Y1
      have e2 := xor32 (Y0 ^^^ Y1) Y2
      have e3 : X = Y0 ^^^ Y1 ^^^ Y2 := by rw [hX, hY0, hY1, hY2]; exact HV.out
      rw [← e3] at e2
      generalize Y0 ^^^ Y1 = Z at e1 e2
      clear e3
      have HX' := Lib.hid hX; have HY0 := Lib.hid hY0; have HY1 := Lib.hid hY1; have HY2 := Lib.hid hY2
      clear hX hY0 hY1 hY2
      go_wp2_with fail
      refine (crcof_rel (B := w.heap.size) _ _ 1 [.slice (some ⟨g, 0, none⟩) k k] [CrcMath.xor3 l0 l1 l2] (by simp; omega) (heap_new _ _ _ rfl) ⟨⟨_, _, by rw [HX.out], by rw [HX.out]; exact Nat.le_refl _, HM.out.rd.alloc _⟩, trivial⟩ rfl (by decide) X HX').mono ?_
      rintro e w3 ⟨_, rfl, hg3, rfl⟩
      have hb3 := hb.trans (((Below.refl _ wr).alloc hs _).trans hg3.1)
      have hs3 := hb3.size
      go_wp2_with fail
      refine (crcof_rel (B := w.heap.size) _ _ 1 [.slice A0 k c0] [l0] (by simp; omega) (heap_new _ _ _ rfl) ⟨⟨_, _, by rw [← HN.out], by rw [← HN.out]; exact lc0, (r0.below hb3).alloc _⟩, trivial⟩ rfl (by decide) Y0 HY0).mono ?_
      rintro e w4 ⟨_, rfl, hg4, rfl⟩
      have hb4 := hb3.trans (((Below.refl _ w3).alloc hs3 _).trans hg4.1)
      have hs4 := hb4.size
      go_wp2_with fail
      refine (crcof_rel (B := w.heap.size) _ _ 1 [.slice A1 k c1] [l1] (by simp; omega) (heap_new _ _ _ rfl) ⟨⟨_, _, by rw [H1.out], by rw [H1.out]; exact lc1, (r1.below hb4).alloc _⟩, trivial⟩ rfl (by decide) Y1 HY1).mono ?_
      rintro e w5 ⟨_, rfl, hg5, rfl⟩
      have hb5 := hb4.trans (((Below.refl _ w4).alloc hs4 _).trans hg5.1)
      have hs5 := hb5.size
      go_wp2_with fail
      refine (crcof_rel (B := w.heap.size) _ _ 1 [.slice A2 k c2] [l2] (by simp; omega) (heap_new _ _ _ rfl) ⟨⟨_, _, by rw [H2.out], by rw [H2.out]; exact lc2, (r2.below hb5).alloc _⟩, trivial⟩ rfl (by decide) Y2 HY2).mono ?_
      rintro e w6 ⟨_, rfl, hg6, rfl⟩
      have hb6 := hb5.trans (((Below.refl _ w5).alloc hs5 _).trans hg6.1)
      go_wp2_with fail
      go_ret
      exact ⟨rfl, hb6⟩

theorem CrcLinear_walk (A0 : Option Addr) (c0 : Nat) (l0 : List UInt8) (A1 : Option Addr) (c1 : Nat) (l1 : List UInt8) (A2 : Option Addr) (c2 : Nat) (l2 : List UInt8) (w : World)
    (r0 : Rd w A0 l0) (lc0 : l0.length ≤ c0) (lm0 : l0.length ≤ 140737488351232) (r1 : Rd w A1 l1) (lc1 : l1.length ≤ c1) (lm1 : l1.length ≤ 140737488351232) (r2 : Rd w A2 l2) (lc2 : l2.length ≤ c2) (lm2 : l2.length ≤ 140737488351232) :
    Calls Try.prog 5 #[.slice A0 l0.length c0, .slice A1 l1.length c1, .slice A2 l2.length c2] w fun e w' => e = .returned (.bool true) ∧ Below w.heap.size w w' := by
  by_cases hn : l0.length ≤ 200
  · by_cases h1 : l1.length = l0.length
    · by_cases h2 : l2.length = l0.length
      · rw [h1, h2]
        exact CrcLinear_ok A0 c0 l0 A1 c1 l1 A2 c2 l2 w r0 lc0 r1 lc1 r2 lc2 h1 h2 hn
      · generalize l0.length = n0 at *
        generalize l2.length = n2 at *
        have H1 := Lib.hid h1
        rw [h1]
        have g1 : ((n2 : Int) == (n0 : Int)) = false := by rw [beq_eq_false_iff_ne]; omega
        have g2 : ((n2 : Int) != (n0 : Int)) = true := by rw [bne_iff_ne]; omega
        clear h1 h2 lc1 lm1 r1 r2 r0
        go_enter Try.func5, Try.ntmps5
        go_wp2_with fail
        refine (awake_any _).mono ?_
        rintro e w1 ⟨rfl, hb1⟩
        go_wp2_with fail
        go_ret
        exact ⟨rfl, hb1⟩
    · generalize l0.length = n0 at *
      generalize l1.length = n1 at *
      generalize l2.length = n2 at *
      have g1 : ((n1 : Int) == (n0 : Int)) = false := by rw [beq_eq_false_iff_ne]; omega
      have g2 : ((n1 : Int) != (n0 : Int)) = true := by rw [bne_iff_ne]; omega
      clear h1
      go_enter Try.func5, Try.ntmps5
      go_wp2_with fail
      refine (awake_any _).mono ?_
      rintro e w1 ⟨rfl, hb1⟩
      go_wp2_with fail
      go_ret
      exact ⟨rfl, hb1⟩
  · generalize l0.length = n0 at *
    generalize l1.length = n1 at *
    generalize l2.length = n2 at *
    go_enter Try.func5, Try.ntmps5
    go_wp2_with fail
    refine (awake_any _).mono ?_
    rintro e w1 ⟨rfl, hb1⟩
    go_wp2_with fail
    go_ret
    exact ⟨rfl, hb1⟩
end Go.Proofs.Ythhdkhgafeaehaa
