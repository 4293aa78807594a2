/- The walks of the functions of records. -/
import Derived.Test.YtbpecfbliglboaaWCrc
import Derived.Test.YtbpecfbliglboaaClone
import Derived.Test.YtbpecfbliglboaaRecMath
import Derived.Deep.RegionLaw
import Derived.Lib.EndianBits
namespace Go.Proofs.Ytbpecfbliglboaa
open Go.RowKit
set_option linter.unusedVariables false
set_option linter.unusedSimpArgs false

theorem number_any (base : Nat) (w : World) (v : Value) (l : List UInt8) (x n : Nat) (hx : x < 18446744073709551616) (hn : n ≤ 8) (ho : Ob w base 5 v l) (hb : base ≤ w.heap.size) (hl : l.length ≤ 1000000) :
    Calls Try.prog 67 #[v, .int .u64 x, .int .i64 n] w fun e w' => ∃ v', e = .returned v' ∧ Ob w' base 5 v' (l ++ RecMath.be n x) ∧ Wrote w w' v v' := by
  have ht := Try.underlying33
  have hi := info_u8
  go_enter Try.func67, Try.ntmps67
  go_wp2
  go_loopw [0, 7] (fun vr i wr => ∃ r : Nat, r ≤ n ∧ i = .int .i64 ((r : Int) - 1) ∧ Ob wr base 5 vr (l ++ RecMath.bePart n x (n - r)) ∧ Wrote w wr v vr) (fun _ i _ => (intOf i + 1).toNat)
  case atStart => exact ⟨n, Nat.le_refl _, rfl, by simpa [RecMath.bePart] using ho, Wrote.refl _ _⟩
  case round =>
    obtain ⟨r, hr, rfl, hO, hW⟩ := hrel
    cases r with
    | zero =>
      have HO := Lib.hid hO; have HW := Lib.hid hW
      clear hO hW
      go_wp2
      go_ret
      exact ⟨_, rfl, HO.out, HW.out⟩
    | succ m =>
      rw [show (((m + 1 : Nat) : Int) - 1) = (m : Int) by omega]
      obtain ⟨b, hbb⟩ : ∃ b, b = UInt8.ofNat (x / 256 ^ m) := ⟨_, rfl⟩
      have e1 : (x : Int) / 2 ^ (8 * m) % 256 = (b.toNat : Int) := by
        have h1 : b.toNat = x / 256 ^ m % 256 := by rw [hbb]; rfl
        rw [h1, show (256 : Nat) ^ m = 2 ^ (8 * m) by rw [show (256 : Nat) = 2 ^ 8 by decide, ← Nat.pow_mul]]
        rw [Int.natCast_emod, Int.natCast_ediv]; simp
      have hfin : l ++ (RecMath.bePart n x (n - (m + 1)) ++ [b]) = l ++ RecMath.bePart n x (n - m) := by
        rw [show n - m = (n - (m + 1)) + 1 by omega, RecMath.bePart_succ, show n - 1 - (n - (m + 1)) = m by omega, hbb]
      have hlen : (l ++ RecMath.bePart n x (n - (m + 1))).length ≤ 1000008 := by
        rw [List.length_append, RecMath.bePart_length]; omega
      have HF := Lib.hid hfin; have HL := Lib.hid hlen; have HO := Lib.hid hO; have HW := Lib.hid hW
      clear hbb hfin hlen hO hW
      have hsz := HW.out.1.size
      go_wp2_with (at_builtin; go_loud (refine wpList_app1 base rfl (.tmp 14) (.tmp 20) 33 5 rfl ht hi u0 _ b rfl rfl HO.out (Nat.le_trans hb hsz) (by have := HL.out; omega) ?_))
      intro v1 w1 ho1 hw1
      rw [HF.out] at ho1
      have HO1 := Lib.hid ho1
      have HW1 := Lib.hid (HW.out.trans hw1)
      clear ho1 hw1
      go_wp2
      go_roundw
      case rel => exact ⟨m, by omega, rfl, HO1.out, HW1.out⟩
      case measure => simp [intOf]

theorem rd_lt8 (l : List UInt8) (h : l.length ≤ 8) : RecMath.rd l < 18446744073709551616 := by
  have h1 := RecMath.rd_lt l
  have h2 : (256 : Nat) ^ l.length ≤ 256 ^ 8 := Nat.pow_le_pow_right (by decide) h
  have h3 : (256 : Nat) ^ 8 = 18446744073709551616 := by decide
  omega
theorem rd_step (n : Nat) (b : UInt8) (h : n * 256 + b.toNat < 18446744073709551616) : bits .or .u64 ((n : Int) * 256 % 18446744073709551616) (b.toNat : Int) = ((n * 256 + b.toNat : Nat) : Int) := by
  have hb := b.toNat_lt
  rw [Int.emod_eq_of_lt (by omega) (by omega), bits_join .u64 64 (by decide) wraps_u64 8 _ _ (by omega) (by omega) (by omega) (by omega) (by omega) (by omega)]
  simp

theorem rd_step' (n : Nat) (b : UInt8) (h : n * 256 + b.toNat < 18446744073709551616) : bits .or .u64 ((n : Int) * 256) (b.toNat : Int) = ((n * 256 + b.toNat : Nat) : Int) := by
  rw [← rd_step n b h, Int.emod_eq_of_lt (by omega) (by omega)]
theorem recread_any (w : World) (A : Option Addr) (c : Nat) (l : List UInt8) (hr : Rd w A l) (h8 : l.length ≤ 8) :
    Calls Try.prog 75 #[.slice A l.length c] w fun e w' => e = .returned (.int .u64 (RecMath.rd l)) ∧ w = w' := by
  have hn := hr.1
  obtain ⟨n, hnn⟩ : ∃ n, n = l.length := ⟨_, rfl⟩
  rw [← hnn] at hn h8 ⊢
  have HN := Lib.hid hnn; clear hnn
  go_enter Try.func75, Try.ntmps75
  go_wp2
  go_loop [3, 5, 8] (fun x _ i => ∃ k : Nat, k ≤ n ∧ i = .int .i64 k ∧ x = .int .u64 (RecMath.rd (l.take k))) (fun _ _ i => n - (intOf i).toNat)
  case atStart => exact ⟨0, by omega, rfl, rfl⟩
  case round =>
    obtain ⟨k, hk, rfl, rfl⟩ := hrel
    by_cases hlt : k < n
    · obtain ⟨a, rfl, hcell⟩ := hr.at_ k (by rw [← HN.out]; exact hlt)
      obtain ⟨b, hb⟩ : ∃ b, b = l[k]'(by rw [← HN.out]; exact hlt) := ⟨_, rfl⟩
      rw [← hb] at hcell
      have h2 : RecMath.rd (l.take (k + 1)) = RecMath.rd (l.take k) * 256 + b.toNat := by
        rw [take_succ_at l k (by rw [← HN.out]; exact hlt), RecMath.rd_snoc, hb]
      have h3 : RecMath.rd (l.take k) * 256 + b.toNat < 18446744073709551616 := by
        rw [← h2]; exact rd_lt8 _ (by rw [List.length_take, ← HN.out]; omega)
      generalize RecMath.rd (l.take k) = X at h2 h3 ⊢
      have HB := Lib.hid hb; clear hb
      have H2 := Lib.hid h2; clear h2
      have hb8 : b.toNat < 256 := b.toNat_lt
      go_wp2
      go_round
      case rel => exact ⟨k + 1, by omega, by go_num, by rw [H2.out]; exact val_int (rd_step' X b h3)⟩
      case measure => simp [intOf]; omega
    · go_wp2
      go_ret
      have e : l.take k = l := List.take_of_length_le (by rw [← HN.out]; omega)
      rw [e]; exact ⟨rfl, rfl⟩
theorem ret_dec {p q : Prop} [Decidable p] [Decidable q] (h : p ↔ q) : Ending.returned (.bool (decide p)) = .returned (.bool (decide q)) := by
  rw [decide_eq_decide.2 h]
theorem ret_no {q : Prop} [Decidable q] (h : ¬ q) : Ending.returned (.bool false) = .returned (.bool (decide q)) := by
  rw [decide_eq_false h]
theorem ret_yes {q : Prop} [Decidable q] (h : q) : Ending.returned (.bool true) = .returned (.bool (decide q)) := by
  rw [decide_eq_true h]
theorem good_any (num : Int) (A : Option Addr) (n c : Nat) (w : World) (wf : (Lit.int .i64 num).wf = true) (hn : n ≤ 140737488351232) : Calls Try.prog 66 #[.agg #[.int .i64 num, .slice A n c]] w fun e w' => e = .returned (.bool (decide (1 ≤ num ∧ n ≤ 200000))) ∧ Below w.heap.size w w' := by
  have h63 := bounds_i64 wf
  by_cases h1 : 1 ≤ num
  · go_enter Try.func66, Try.ntmps66
    go_wp2
    go_ret
    exact ⟨ret_dec (by omega), (Below.refl _ w).alloc (Nat.le_refl _) _⟩
  · go_enter Try.func66, Try.ntmps66
    go_wp2
    go_ret
    refine ⟨?_, (Below.refl _ w).alloc (Nat.le_refl _) _⟩
    simp; omega
theorem Ob.base {w : World} {b0 b1 e : Nat} {v : Value} {l : List UInt8} (h : Ob w b1 e v l) (hb : b0 ≤ b1) : Ob w b0 e v l := by
  refine ⟨h.1, ?_⟩
  rcases h.2 with h | ⟨g, cap, cur, h1, h2, h3⟩
  · exact .inl h
  · exact .inr ⟨g, cap, cur, h1, Nat.le_trans hb h2, h3⟩
theorem Ob.own {w : World} {base e : Nat} {v : Value} {l : List UInt8} (h : Ob w base e v l) (k : Nat) (hk : v.ownBlock = some k) : base ≤ k := own_base h k hk
theorem Ob.wrote {w w1 : World} {base e : Nat} {v v1 : Value} {l : List UInt8} (h : Ob w base e v l) (hb : base ≤ w.heap.size) (hw : Wrote w w1 v v1) : Below base w w1 := hw.below hb h.own
theorem step_enter {P : Program} {ops : Array Oper} {o : Oper} {a : Act} {K : Act → World → Prop} {Q : Exit → Act → World → Prop} {E : Prop} {w : World} {f : FuncId} {args : Array Value} {R : Ending → World → Prop}
    (hgd : o.guard = none) (hx : (execOp a.eval o).run P w = .ok (.enter f args) w) (hc : Calls P f args w R) (h : ∀ e w', R e w' → ∃ v, e = .returned v ∧ K (a.put o.dst v) w') :
    if Region.wanted o (yielded ops a.tmps) = true then Oper.wp P o a w K Q else E := by
  have hw : Region.wanted o (yielded ops a.tmps) = true := by simp [Region.wanted, hgd]
  rw [if_pos hw]
  unfold Oper.wp
  rw [hx]
  refine hc.mono fun e w' hr => ?_
  obtain ⟨v, rfl, hk⟩ := h e w' hr
  exact hk
def putE (num : Int) (n : Nat) : Int := if 1 ≤ num ∧ n ≤ 200000 then 0 else 1
def putB (l : List UInt8) (num : Int) (body : List UInt8) : List UInt8 := if 1 ≤ num ∧ body.length ≤ 200000 then l ++ RecMath.recB num.toNat body else []
theorem put_any (w : World) (A : Option Addr) (c : Nat) (l : List UInt8) (num : Int) (B : Option Addr) (c2 : Nat) (body : List UInt8) (hr : Rd w A l) (hl : l.length ≤ 140737488000000) (hr2 : Rd w B body) (hl2 : body.length ≤ 140737488351232) (wf : (Lit.int .i64 num).wf = true) :
    Calls Try.prog 54 #[.slice A l.length c, .agg #[.int .i64 num, .slice B body.length c2]] w fun e w' => ∃ v, e = .returned (.tuple #[v, .int .i64 (putE num body.length)]) ∧ Ob w' w.heap.size 5 v (putB l num body) ∧ Below w.heap.size w w' := by
  have h63 := bounds_i64 wf
  obtain ⟨n, hnn⟩ : ∃ n, n = l.length := ⟨_, rfl⟩
  obtain ⟨m, hmm⟩ : ∃ m, m = body.length := ⟨_, rfl⟩
  unfold putB
  rw [← hnn] at hl ⊢
  rw [← hmm] at hl2 ⊢
  by_cases hg : 1 ≤ num ∧ m ≤ 200000
  · have hE : putE num m = 0 := if_pos hg
    rw [hE, if_pos hg]
    obtain ⟨h1, hm⟩ := hg
    obtain ⟨N, rfl⟩ := Int.eq_ofNat_of_zero_le (show 0 ≤ num by omega)
    clear hE
    have HN := Lib.hid hnn; have HM := Lib.hid hmm
    clear hnn hmm
    have ht := Try.underlying33
    have hi := info_u8
    obtain ⟨W0, hW0⟩ : ∃ W0, W0 = w.alloc (.cells #[.int .i64 N, .slice B m c2] 91) := ⟨_, rfl⟩
    have hs0 : W0.heap.size = w.heap.size + 1 := by rw [hW0]; simp
    have hc0 : W0.cell? ⟨w.heap.size, 0, none⟩ = some (.int .i64 N) ∧ W0.cell? ⟨w.heap.size, 1, none⟩ = some (.slice B m c2) := by
      have hh : W0.heap[w.heap.size]? = some (.cells #[.int .i64 N, .slice B m c2] 91) := by rw [hW0]; exact heap_new w _ _ rfl
      exact ⟨by rw [cell_of_row W0 w.heap.size 0 _ _ _ hh]; rfl, by rw [cell_of_row W0 w.heap.size 1 _ _ _ hh]; rfl⟩
    have hB0 : Below w.heap.size w W0 := by rw [hW0]; exact (Below.refl _ w).alloc (Nat.le_refl _) _
    have hbx : ∀ W, Below W0.heap.size W0 W → W.cell? ⟨w.heap.size, 0, none⟩ = some (.int .i64 N) ∧ W.cell? ⟨w.heap.size, 1, none⟩ = some (.slice B m c2) := fun W h => ⟨cell_below h hc0.1, cell_below h hc0.2⟩
    go_enter Try.func54, Try.ntmps54
    go_wp2_with fail
    rw [← hW0]
    clear hW0
    refine (good_any _ B m c2 W0 wf hl2).mono ?_
    rintro e w1 ⟨rfl, hb1⟩
    have hx1 := hbx w1 hb1
    have hd : decide (1 ≤ (N : Int) ∧ m ≤ 200000) = true := decide_eq_true ⟨h1, hm⟩
    rw [hd]
    have hs1 := hb1.size
    have HB1 := Lib.hid hb1
    clear hb1
    go_wp2_with fail
    refine (number_any W0.heap.size w1 (.slice none 0 0) [] m 4 (by omega) (by omega) (Ob.nil _ _ _) hs1 (by simp)).mono ?_
    rintro e w2 ⟨x1, rfl, ho1, hw1⟩
    have hb2 : Below W0.heap.size W0 w2.drew := Below.drew (HB1.out.trans (hw1.below hs1 (by simp [ownBlock_nil])))
    have hx2 := hbx w2.drew hb2
    replace ho1 : Ob w2.drew W0.heap.size 5 x1 ([] ++ RecMath.be 4 m) := ho1.below (Below.drew (Below.refl _ _))
    have hwN : IntKind.u64.wrap (N : Int) = N := u64_wrap_id _ (by omega) (by omega)
    have HO1 := Lib.hid ho1
    have HB2 := Lib.hid hb2
    have hs2 := hb2.size
    clear ho1 hw1 hb2 HB1
    go_wp2_with fail
    go_region_law (first
      | (refine step_appw W0.heap.size rfl (.tmp 19) (.tmp 21) 33 5 rfl ht hi x2 _ body B m c2 rfl rfl HM.out.symm HO2.out (hr2.below (below_then hB0 (by omega) HB3.out)) hs3 (by simp [RecMath.be_length] <;> omega) ?_
         intro x3 w4 ho3 hw3
         have hb4 := HB3.out.trans (HO2.out.wrote hs3 hw3)
         have HB4 := Lib.hid hb4
         have HO3 := Lib.hid ho3
         clear ho3 hw3 hb4)
      | (refine step_enter rfl (by go_simp) (number_any W0.heap.size _ x1 _ N 8 (by omega) (by omega) HO1.out hs2 (by simp [RecMath.be_length])) ?_
         rintro e w3 ⟨x2, rfl, ho2, hw2⟩
         have hb3 := HB2.out.trans (HO1.out.wrote hs2 hw2)
         have hx3 := hbx w3 hb3
         have HB3 := Lib.hid hb3
         have HO2 := Lib.hid ho2
         clear ho2 hw2 hb3
         have hs3 := HB3.out.size
         refine ⟨_, rfl, ?_⟩))
    all_goals (
      have hs4 := HB4.out.size
      obtain ⟨A3, c3, rfl, hle3, hrd3⟩ := HO3.out.rd
      obtain ⟨hd, hhd⟩ : ∃ hd, hd = RecMath.headB N body := ⟨_, rfl⟩
      have e3 : [] ++ RecMath.be 4 m ++ RecMath.be 8 N ++ body = hd := by rw [hhd, RecMath.headB, HM.out]; simp
      have HL : Hid (hd.length = 12 + m) := by rw [hhd, HM.out]; exact Lib.hid (RecMath.headB_length _ _)
      rw [e3] at hrd3 hle3 HO3 ⊢
      rw [HL.out] at hle3 HO3 ⊢
      have HD := Lib.hid hhd
      clear hhd e3
      go_wp2_with fail
      have hb5 := (Below.refl w4.heap.size w4).alloc (Nat.le_refl _) (.cells #[.slice A3 (12 + m) c3] 33)
      have hlk : (w4.alloc (.cells #[.slice A3 (12 + m) c3] 33)).heap[w4.heap.size]? = some (.cells [Value.slice A3 (12 + m) c3].toArray 33 (0, 0)) := heap_new w4 _ _ rfl
      refine (crcof_any _ (some ⟨w4.heap.size, 0, none⟩) 1 [hd] (Rdl.of_block hlk (by simp) ⟨⟨A3, c3, by rw [HL.out], by rw [HL.out]; exact hle3, hrd3.below hb5⟩, trivial⟩)).mono ?_
      rintro e w5 ⟨rfl, hb6⟩
      have HO5 := Lib.hid (((HO3.out : Ob w4 W0.heap.size 5 (.slice A3 (12 + m) c3) hd).below hb5).below hb6)
      have hb7 : Below W0.heap.size W0 w5 := below_then HB4.out hs4 (below_add hb5 hb6)
      have hs5 := hb7.size
      obtain ⟨X, hX⟩ : ∃ X, X = CrcMath.of [hd] := ⟨_, rfl⟩
      rw [← hX]
      have hX2 := X.isLt
      have HX := Lib.hid hX; clear hX
      have HB5 := Lib.hid hb7
      clear hb5 hb6 hb7 hlk
      go_wp2_with fail
      refine (number_any W0.heap.size w5 _ hd X.toNat 4 (by omega) (by omega) HO5.out hs5 (by rw [HL.out]; omega)).mono ?_
      rintro e w6 ⟨x4, rfl, ho4, hw4⟩
      have hb8 : Below W0.heap.size W0 w6 := HB5.out.trans (HO5.out.wrote hs5 hw4)
      have HO6 := Lib.hid ho4
      have HB6 := Lib.hid hb8
      have hs6 := hb8.size
      clear ho4 hw4 hb8
      go_wp2_with fail
      rw [HN.out]
      refine (clone_any w6 A c l (hr.below (below_then hB0 (by omega) HB6.out)) (by have := HN.out; omega)).mono ?_
      rintro e w7 ⟨x5, rfl, ho5, hb9⟩
      have hb10 : Below W0.heap.size W0 w7 := below_then HB6.out hs6 hb9
      have hs7 := hb10.size
      have HO7 := Lib.hid (ho5.base hs6)
      obtain ⟨A8, c8, rfl, hle8, hrd8⟩ := (HO6.out.below hb9).rd
      have hl8 : (hd ++ RecMath.be 4 X.toNat).length = 16 + m := by rw [List.length_append, HL.out, RecMath.be_length]; omega
      rw [hl8] at hle8 ⊢
      have HL8 := Lib.hid hl8
      have HB7 := Lib.hid hb10
      clear ho5 hb9 hb10 hl8
      go_wp2_with (at_builtin; go_loud (refine wpList_appn (w0 := W0) W0.heap.size rfl (.tmp 30) (.tmp 31) 33 5 rfl ht hi _ l (hd ++ RecMath.be 4 X.toNat) A8 (16 + m) c8 rfl rfl HL8.out HO7.out hrd8 HB7.out hs7 (by have := HN.out; omega) ?_))
      intro v1 w8 ho hb _ _
      go_wp2
      go_ret2
      refine ⟨_, rfl, ?_, below_then hB0 (by omega) (by rw [hs0]; exact hb)⟩
      have e9 : l ++ RecMath.recB (N : Int).toNat body = l ++ (hd ++ RecMath.be 4 X.toNat) := by
        rw [HX.out, CrcMath.of_eq, HD.out]; simp [RecMath.recB]
      rw [e9]
      exact ho.base (by omega))
  · have hE : putE num m = 1 := if_neg hg
    rw [hE, if_neg hg]
    clear hE hnn hmm
    go_enter Try.func54, Try.ntmps54
    go_wp2_with fail
    refine (good_any num B m c2 _ wf hl2).mono ?_
    rintro e w1 ⟨rfl, hb1⟩
    rw [decide_eq_false hg]
    go_wp2
    go_ret2
    exact ⟨_, rfl, Ob.nil _ _ _, below_then ((Below.refl _ w).alloc (Nat.le_refl _) _) (by simp) hb1⟩
end Go.Proofs.Ytbpecfbliglboaa
