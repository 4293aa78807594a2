/- CrcBurst: the walk of the law. -/
import Derived.Test.YthhdkhgafeaehaaCrcLinear
namespace Go.Proofs.Ythhdkhgafeaehaa
set_option linter.unusedVariables false
set_option linter.unusedSimpArgs false
open Go.RowKit

theorem mask1 (y : Nat) (h : y < 4294967296) : bits .and .u32 (y : Int) 1 = (y : Int) % 2 :=
  bits_mask .u32 32 (by decide) (fun n h0 h1 => by rw [IntKind.wrap_u32]; omega) 1 (by decide) _ (by omega) (by omega)
theorem test_bit (x k : Nat) (hx : x < 4294967296) : (bits BinOp.and IntKind.u32 ((x : Int) / 2 ^ k) 1 == 1) = x.testBit k := by
  have e : ((x : Int) / 2 ^ k) = ((x / 2 ^ k : Nat) : Int) := by rw [Int.natCast_ediv]; simp
  have hlt : x / 2 ^ k < 4294967296 := Nat.lt_of_le_of_lt (Nat.div_le_self _ _) hx
  rw [e, Nat.testBit_eq_decide_div_mod_eq]
  generalize x / 2 ^ k = y at hlt
  rw [mask1 y hlt]
  by_cases h : y % 2 = 1
  · rw [decide_eq_true h, beq_iff_eq]; omega
  · rw [decide_eq_false h, beq_eq_false_iff_ne]; omega
theorem pow8 (m : Nat) : ((2 : Int) ^ m % 256) = (((UInt8.ofNat (2 ^ m)).toNat : Nat) : Int) := by
  have h : (UInt8.ofNat (2 ^ m)).toNat = 2 ^ m % 256 := rfl
  rw [h, Int.natCast_emod]; simp
theorem CrcBurst_ok (A0 : Option Addr) (c0 : Nat) (l0 : List UInt8) (at_ : Nat) (x : Nat) (w : World) (r0 : Rd w A0 l0) (lc0 : l0.length ≤ c0) (h5 : 5 ≤ l0.length) (h300 : l0.length ≤ 300) (hx : x < 4294967296) (hx0 : x ≠ 0) (hat : at_ ≤ 9223372036854775807) :
    Calls Try.prog 4 #[.slice A0 l0.length c0, .int .i64 at_, .int .u32 x] w fun e w' => e = .returned (.bool true) ∧ Below w.heap.size w w' := by
  obtain ⟨n, hnn⟩ : ∃ n, n = l0.length := ⟨_, rfl⟩
  obtain ⟨f, hf⟩ : ∃ f, f = at_ % ((n - 4) * 8) := ⟨_, rfl⟩
  have hfl : f < (n - 4) * 8 := by rw [hf]; exact Nat.mod_lt _ (by omega)
  have hburst := CrcMath.burst l0 x f (by omega) hx0 (by rw [← hnn]; exact hfl)
  have hrem : (at_ : Int).tmod (((n : Int) - 4) * 8) = (f : Int) := by
    rw [show ((n : Int) - 4) * 8 = (((n - 4) * 8 : Nat) : Int) by omega, ← Int.ofNat_tmod, hf]
  have hrem2 : (at_ : Int) % (((n : Int) - 4) * 8) = (f : Int) := by
    rw [show ((n : Int) - 4) * 8 = (((n - 4) * 8 : Nat) : Int) by omega, hf]; omega
  have g0 : ((x : Int) == 0) = false := by rw [beq_eq_false_iff_ne]; omega
  rw [← hnn] at lc0 h5 h300 ⊢
  have HN := Lib.hid hnn; have HBu := Lib.hid hburst; have HF := Lib.hid hf
  clear hnn hburst hf hx0
  have ht := Try.underlying22
  have hi := info_u8
  go_enter Try.func4, Try.ntmps4
  go_wp2_with fail
  refine (awake_any _).mono ?_
  rintro e w1 ⟨rfl, hb1⟩
  go_wp2_with (at_builtin; refine wpList_appn (w0 := w) w.heap.size rfl (.tmp 28) (.tmp 29) 22 5 rfl ht hi _ [] l0 A0 n c0 rfl rfl HN.out.symm (Ob.empty w1 _ _ hb1.size) ((r0.below hb1).alloc _) (hb1.alloc hb1.size _) (by simp; have := hb1.size; omega) (by simp; omega) ?_)
  intro v2 w2 ho2 hb2 _ _
  obtain ⟨g, c2, rfl, hg2, hc2, hm2⟩ := Ob.mb ho2 (by simp [← HN.out]; omega)
  rw [← HN.out] at hc2 ⊢
  have HM2 := Lib.hid hm2
  clear ho2 hm2
  go_wp2_with fail
  go_loopw [9] (fun i wr => ∃ k : Nat, k ≤ 32 ∧ i = .int .i64 k ∧ Below w.heap.size w wr ∧ Mb wr g 5 (CrcMath.turned l0 ((x % 2 ^ k) * 2 ^ (f % 8)) (f / 8))) (fun i _ => 32 - (intOf i).toNat)
  case atStart => exact ⟨0, by omega, rfl, hb2, by rw [Nat.pow_zero, Nat.mod_one, Nat.zero_mul, CrcMath.turned_zero]; exact HM2.out⟩
  case round =>
    obtain ⟨k, hk, rfl, hb, hm⟩ := hrel
    by_cases hlt : k < 32
    · have hsucc := CrcMath.turned_succ l0 x f k hlt
      have htb := test_bit x k hx
      have hlen : (CrcMath.turned l0 ((x % 2 ^ k) * 2 ^ (f % 8)) (f / 8)).length = n := by rw [CrcMath.turned_length]; exact HN.out.symm
      have hin : (f + k) / 8 < n := by omega
      obtain ⟨b, hbb⟩ : ∃ b, b = (CrcMath.turned l0 ((x % 2 ^ k) * 2 ^ (f % 8)) (f / 8))[(f + k) / 8]! := ⟨_, rfl⟩
      obtain ⟨hcg, hfg⟩ := hm.cell ((f + k) / 8) (by rw [hlen]; exact hin)
      have hbe : (CrcMath.turned l0 ((x % 2 ^ k) * 2 ^ (f % 8)) (f / 8))[(f + k) / 8]'(by rw [hlen]; exact hin) = b := by
        rw [hbb, List.getElem!_eq_getElem?_getD, List.getElem?_eq_getElem (by rw [hlen]; exact hin)]; rfl
      rw [hbe] at hcg
      rw [← hbb] at hsucc
      have hnew := hm.set ((f + k) / 8) (b ^^^ UInt8.ofNat (2 ^ ((f + k) % 8)))
      have HS := Lib.hid hsucc
      clear hsucc hbb hbe hlen
      cases hbit : x.testBit k with
      | true =>
        rw [hbit] at htb
        have HNew := Lib.hid hnew; have HT := Lib.hid hbit; have HB := Lib.hid hb
        clear hm hnew hbit hb
        go_wp2
        rw [pow8, xor8]
        go_roundw
        case rel => exact ⟨k + 1, by omega, by go_num, HB.out.setCell (p := ⟨g, (f + k) / 8, none⟩) hg2 _, by rw [HS.out, HT.out, if_pos rfl]; exact HNew.out⟩
        case measure => simp [intOf]; omega
      | false =>
        rw [hbit] at htb
        have HM := Lib.hid hm; have HT := Lib.hid hbit; have HB := Lib.hid hb
        clear hm hnew hbit hb hcg hfg
        go_wp2
        go_roundw
        case rel => exact ⟨k + 1, by omega, by go_num, HB.out, by rw [HS.out, HT.out]; exact HM.out⟩
        case measure => simp [intOf]; omega
    · obtain rfl : k = 32 := by omega
      have hm' : Mb wr g 5 (CrcMath.turned l0 (x * 2 ^ (f % 8)) (f / 8)) := by
        rwa [Nat.mod_eq_of_lt (show x < 2 ^ 32 by omega)] at hm
      have hs := hb.size
      have hlen : (CrcMath.turned l0 (x * 2 ^ (f % 8)) (f / 8)).length = n := by rw [CrcMath.turned_length]; exact HN.out.symm
      have hne : CrcMath.of [CrcMath.turned l0 (x * 2 ^ (f % 8)) (f / 8)] ≠ CrcMath.of [l0] := by
        rw [CrcMath.of_eq, CrcMath.of_eq]; simpa using HBu.out
      generalize CrcMath.turned l0 (x * 2 ^ (f % 8)) (f / 8) = t at hm' hlen hne
      obtain ⟨X, hX⟩ : ∃ X, X = CrcMath.of [t] := ⟨_, rfl⟩
      obtain ⟨Y, hY⟩ : ∃ X, X = CrcMath.of [l0] := ⟨_, rfl⟩
      rw [← hX, ← hY] at hne
      have gne : ((X.toNat : Int) == (Y.toNat : Int)) = false := by
        rw [beq_eq_false_iff_ne]
        intro h
        exact hne (BitVec.eq_of_toNat_eq (by omega))
      have gne2 : ((X.toNat : Int) != (Y.toNat : Int)) = true := by simpa [bne] using gne
      have HX := Lib.hid hX; have HY := Lib.hid hY; have HM := Lib.hid hm'; have HL := Lib.hid hlen
      clear hX hY hne hm hm' hlen
      go_wp2_with fail
      refine (crcof_rel (B := w.heap.size) _ _ 1 [.slice (some ⟨g, 0, none⟩) n c2] [t] (by simp; omega) (heap_new _ _ _ rfl) ⟨⟨_, _, by rw [HL.out], by rw [HL.out]; exact hc2, HM.out.rd.alloc _⟩, trivial⟩ rfl (by decide) X HX).mono ?_
      rintro e w3 ⟨_, rfl, hg3, rfl⟩
      have hb3 := hb.trans (((Below.refl _ wr).alloc hs _).trans hg3.1)
      have hs3 := hb3.size
      go_wp2_with fail
      refine (crcof_rel (B := w.heap.size) _ _ 1 [.slice A0 n c0] [l0] (by simp; omega) (heap_new _ _ _ rfl) ⟨⟨_, _, by rw [← HN.out], by rw [← HN.out]; exact lc0, (r0.below hb3).alloc _⟩, trivial⟩ rfl (by decide) Y HY).mono ?_
      rintro e w4 ⟨_, rfl, hg4, rfl⟩
      have hb4 := hb3.trans (((Below.refl _ w3).alloc hs3 _).trans hg4.1)
      go_wp2_with fail
      go_ret
      exact ⟨rfl, hb4⟩

theorem CrcBurst_walk (A0 : Option Addr) (c0 : Nat) (l0 : List UInt8) (a1 a2 : Int) (w : World) (r0 : Rd w A0 l0) (lc0 : l0.length ≤ c0) (lm0 : l0.length ≤ 140737488351232) (w1 : (Lit.int .i64 a1).wf = true) (w2 : (Lit.int .u32 a2).wf = true) :
    Calls Try.prog 4 #[.slice A0 l0.length c0, .int .i64 a1, .int .u32 a2] w fun e w' => e = .returned (.bool true) ∧ Below w.heap.size w w' := by
  have b1 := bounds_i64 w1
  have b2 := bounds_u32 w2
  clear w1 w2
  by_cases h5 : 5 ≤ l0.length
  · by_cases h300 : l0.length ≤ 300
    · by_cases hz : a2 = 0
      · subst hz
        generalize l0.length = n at *
        go_enter Try.func4, Try.ntmps4
        go_wp2_with fail
        refine (awake_any _).mono ?_
        rintro e w1 ⟨rfl, hb1⟩
        go_wp2_with fail
        go_ret
        exact ⟨rfl, hb1⟩
      · by_cases hn : a1 < 0
        · have g0 : (a2 == 0) = false := by rw [beq_eq_false_iff_ne]; exact hz
          clear hz
          generalize l0.length = n at *
          go_enter Try.func4, Try.ntmps4
          go_wp2_with fail
          refine (awake_any _).mono ?_
          rintro e w1 ⟨rfl, hb1⟩
          go_wp2_with fail
          go_ret
          exact ⟨rfl, hb1⟩
        · obtain ⟨m, rfl⟩ := Int.eq_ofNat_of_zero_le (show 0 ≤ a1 by omega)
          obtain ⟨x, rfl⟩ := Int.eq_ofNat_of_zero_le (show 0 ≤ a2 by omega)
          exact CrcBurst_ok A0 c0 l0 m x w r0 lc0 h5 h300 (by omega) (by omega) (by omega)
    · generalize l0.length = n at *
      go_enter Try.func4, Try.ntmps4
      go_wp2_with fail
      refine (awake_any _).mono ?_
      rintro e w1 ⟨rfl, hb1⟩
      go_wp2_with fail
      go_ret
      exact ⟨rfl, hb1⟩
  · generalize l0.length = n at *
    go_enter Try.func4, Try.ntmps4
    go_wp2_with fail
    refine (awake_any _).mono ?_
    rintro e w1 ⟨rfl, hb1⟩
    go_wp2_with fail
    go_ret
    exact ⟨rfl, hb1⟩
end Go.Proofs.Ythhdkhgafeaehaa
