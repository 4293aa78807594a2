/- The document's functions of records. -/
import Derived.Test.YthhdkhgafeaehaaRecGet
import Derived.Deep.Cut
import Derived.Deep.CutRange
namespace Go.Proofs.Ythhdkhgafeaehaa
open Go.RowKit
set_option linter.unusedVariables false
set_option linter.unusedSimpArgs false
theorem big_any (base : Nat) (w : World) (v : Value) (l : List UInt8) (x n : Nat) (hx : x < 18446744073709551616) (hn : n ≤ 8) (ho : Ob w base 5 v l) (hb : base ≤ w.heap.size) (hl : l.length ≤ 1000000) :
    Calls Try.prog 28 #[v, .int .u64 x, .int .i64 n] w fun e w' => ∃ v', e = .returned v' ∧ Ob w' base 5 v' (l ++ RecMath.be n x) ∧ Wrote w w' v v' := by
  have ht := Try.underlying22
  have hi := info_u8
  go_enter Try.func28, Try.ntmps28
  go_wp2
  go_loopw [0, 7] (fun vr i wr => ∃ r : Nat, r ≤ n ∧ i = .int .i64 r ∧ Ob wr base 5 vr (l ++ RecMath.bePart n x r) ∧ Wrote w wr v vr) (fun _ i _ => n - (intOf i).toNat)
  case atStart => exact ⟨0, Nat.zero_le _, rfl, by simpa [RecMath.bePart] using ho, Wrote.refl _ _⟩
  case round =>
    obtain ⟨r, hr, rfl, hO, hW⟩ := hrel
    by_cases hlt : r < n
    · obtain ⟨m, hm⟩ : ∃ m, m = n - 1 - r := ⟨_, rfl⟩
      obtain ⟨b, hbb⟩ : ∃ b, b = UInt8.ofNat (x / 256 ^ m) := ⟨_, rfl⟩
      have e1 : (x : Int) / 2 ^ (8 * m) % 256 = (b.toNat : Int) := by
        have h1 : b.toNat = x / 256 ^ m % 256 := by rw [hbb]; rfl
        rw [h1, show (256 : Nat) ^ m = 2 ^ (8 * m) by rw [show (256 : Nat) = 2 ^ 8 by decide, ← Nat.pow_mul]]
        rw [Int.natCast_emod, Int.natCast_ediv]; simp
      have hfin : l ++ (RecMath.bePart n x r ++ [b]) = l ++ RecMath.bePart n x (r + 1) := by
        rw [RecMath.bePart_succ, ← hm, hbb]
      have hlen : (l ++ RecMath.bePart n x r).length ≤ 1000008 := by
        rw [List.length_append, RecMath.bePart_length]; omega
      have HF := Lib.hid hfin; have HL := Lib.hid hlen; have HO := Lib.hid hO; have HW := Lib.hid hW
      have e2 : (n : Int) - 1 - r = m := by omega
      have HM := Lib.hid hm
      clear hbb hfin hlen hO hW hm
      have hsz := HW.out.1.size
      go_wp2_with (at_builtin; go_loud (refine wpList_app1 base rfl (.tmp 17) (.tmp 27) 22 5 rfl ht hi u0 _ b rfl rfl HO.out (Nat.le_trans hb hsz) (by have := HL.out; omega) ?_))
      intro v1 w1 ho1 hw1
      rw [HF.out] at ho1
      have HO1 := Lib.hid ho1
      have HW1 := Lib.hid (HW.out.trans hw1)
      clear ho1 hw1
      go_wp2
      go_roundw
      case rel => exact ⟨r + 1, by omega, by go_num, HO1.out, HW1.out⟩
      case measure => simp [intOf]; omega
    · have HO := Lib.hid hO; have HW := Lib.hid hW
      clear hO hW
      obtain rfl : r = n := by omega
      go_wp2
      go_ret
      exact ⟨_, rfl, HO.out, HW.out⟩

theorem Ob.other {w w1 : World} {base e : Nat} {v u u1 : Value} {l : List UInt8} (h : Ob w base e v l) (hw : Wrote w w1 u u1) (hne : ∀ k, v.ownBlock = some k → u.ownBlock ≠ some k) : Ob w1 base e v l :=
  World.ownsRow.kept h hw.1 (by
    cases hv : v.ownBlock with
    | none => simp
    | some k => exact .inr (fun h2 => hne k hv h2.symm))
set_option maxHeartbeats 2000000 in
theorem putrec_any (w : World) (A : Option Addr) (c : Nat) (l : List UInt8) (num : Int) (B : Option Addr) (c2 : Nat) (body : List UInt8) (hr : Rd w A l) (hl : l.length ≤ 140737488000000) (hr2 : Rd w B body) (hl2 : body.length ≤ 140737488351232) (wf : (Lit.int .i64 num).wf = true) :
    Calls Try.prog 18 #[.slice A l.length c, .agg #[.int .i64 num, .slice B body.length c2]] w fun e w' => ∃ v, e = .returned (.tuple #[v, .int .i64 (putE num body.length)]) ∧ Ob w' w.heap.size 5 v (putB l num body) ∧ Below w.heap.size w w' := by
  have h63 := bounds_i64 wf
  obtain ⟨n, hnn⟩ : ∃ n, n = l.length := ⟨_, rfl⟩
  obtain ⟨m, hmm⟩ : ∃ m, m = body.length := ⟨_, rfl⟩
  unfold putB
  rw [← hnn] at hl ⊢
  rw [← hmm] at hl2 ⊢
  by_cases hg : 1 ≤ num ∧ m ≤ 200000
  · have hE : putE num m = 0 := if_pos hg
    rw [hE, if_pos hg]
    obtain ⟨h1, hm⟩ := hg
    obtain ⟨N, rfl⟩ := Int.eq_ofNat_of_zero_le (show 0 ≤ num by omega)
    clear hE
    have HN := Lib.hid hnn; have HM := Lib.hid hmm
    clear hnn hmm
    have ht := Try.underlying22
    have hi := info_u8
    obtain ⟨W0, hW0⟩ : ∃ W0, W0 = w.alloc (.cells #[.int .i64 N, .slice B m c2] 40) := ⟨_, rfl⟩
    have hs0 : W0.heap.size = w.heap.size + 1 := by rw [hW0]; simp
    have hc0 : W0.cell? ⟨w.heap.size, 0, none⟩ = some (.int .i64 N) ∧ W0.cell? ⟨w.heap.size, 1, none⟩ = some (.slice B m c2) := by
      have hh : W0.heap[w.heap.size]? = some (.cells #[.int .i64 N, .slice B m c2] 40) := by rw [hW0]; exact heap_new w _ _ rfl
      exact ⟨by rw [cell_of_row W0 w.heap.size 0 _ _ _ hh]; rfl, by rw [cell_of_row W0 w.heap.size 1 _ _ _ hh]; rfl⟩
    have hB0 : Below w.heap.size w W0 := by rw [hW0]; exact (Below.refl _ w).alloc (Nat.le_refl _) _
    have hbx : ∀ W, Below W0.heap.size W0 W → W.cell? ⟨w.heap.size, 0, none⟩ = some (.int .i64 N) ∧ W.cell? ⟨w.heap.size, 1, none⟩ = some (.slice B m c2) := fun W h => ⟨cell_below h hc0.1, cell_below h hc0.2⟩
    have hwN : IntKind.u64.wrap (N : Int) = N := u64_wrap_id _ (by omega) (by omega)
    have hwM : IntKind.u64.wrap (m : Int) = m := u64_wrap_id _ (by omega) (by omega)
    have hs1 : W0.heap.size ≤ W0.drew.heap.size := Nat.le_refl _
    have hb1 : (decide ((N : Int) < 1)) = false := decide_eq_false (by omega)
    have hb2 : (decide (200000 < (m : Int))) = false := decide_eq_false (by omega)
    have hx1 := hbx W0.drew (Below.drew (Below.refl _ _))
    go_enter Try.func18, Try.ntmps18
    go_upto_region 3 with fail
    rw [← hW0]
    clear hW0
    go_cut [6] from 16 to 27 (fun v wx => Ob wx W0.heap.size 5 v (RecMath.headB N body) ∧ Below W0.heap.size W0 wx)
    case first =>
      go_region_law (first
        | (refine step_enter rfl (by go_simp) (big_any W0.heap.size _ (.slice none 0 0) [] m 4 (by omega) (by omega) (Ob.nil _ _ _) hs1 (by simp)) ?_
           rintro e w2 ⟨x1, rfl, ho1, hw1⟩
           have hb2 : Below W0.heap.size W0 w2 := (Below.drew (Below.refl _ W0)).trans (hw1.below hs1 (by simp [ownBlock_nil]))
           have hx2 := hbx w2 hb2
           have HO1 := Lib.hid ho1
           have HB2 := Lib.hid hb2
           have hs2 := hb2.size
           clear ho1 hw1 hb2
           refine ⟨_, rfl, ?_⟩)
        | (refine step_enter rfl (by go_simp) (big_any W0.heap.size _ x1 _ N 8 (by omega) (by omega) HO1.out hs2 (by simp [RecMath.be_length])) ?_
           rintro e w3 ⟨x2, rfl, ho2, hw2⟩
           have hb3 := HB2.out.trans (HO1.out.wrote hs2 hw2)
           have hx3 := hbx w3 hb3
           have HB3 := Lib.hid hb3
           have HO2 := Lib.hid ho2
           clear ho2 hw2 hb3
           have hs3 := HB3.out.size
           refine ⟨_, rfl, ?_⟩)
        | (refine step_appw W0.heap.size rfl (.tmp 24) (.tmp 26) 22 5 rfl ht hi x2 _ body B m c2 rfl rfl HM.out.symm HO2.out (hr2.below (below_then hB0 (by omega) HB3.out)) hs3 (by simp [RecMath.be_length] <;> omega) ?_
           intro x3 w4 ho3 hw3
           have hb4 := HB3.out.trans (HO2.out.wrote hs3 hw3)
           have HB4 := Lib.hid hb4
           have HO3 := Lib.hid ho3
           clear ho3 hw3 hb4))
      all_goals (
        go_wp2_with fail
        go_meet
        case rel =>
          refine ⟨?_, HB4.out⟩
          have e3 : [] ++ RecMath.be 4 m ++ RecMath.be 8 N ++ body = RecMath.headB N body := by rw [RecMath.headB, HM.out]; simp
          rw [← e3]; exact HO3.out)
    case rest =>
      obtain ⟨ho, hb⟩ := hcut
      have hs4 := hb.size
      have HB4 := Lib.hid hb; have HO3 := Lib.hid ho
      clear ho hb hx1
      have hbe : Below W0.heap.size W0 (wc.alloc (.cells #[] 5)) := HB4.out.alloc hs4 _
      have hOe : Ob (wc.alloc (.cells #[] 5)) W0.heap.size 5 (.slice (some ⟨wc.heap.size, 0, none⟩) 0 0) [] := Ob.empty wc _ _ hs4
      have HBe := Lib.hid hbe; have HOe := Lib.hid hOe
      clear hbe hOe
      have hse : W0.heap.size ≤ (wc.alloc (.cells #[] 5)).heap.size := HBe.out.size
      go_wp2_with (at_builtin; go_loud (refine wpList_appn (w0 := wc) wc.heap.size rfl (.tmp 28) (.tmp 29) 22 5 rfl ht hi _ [] l A n c rfl rfl HN.out.symm (Ob.empty wc _ _ (Nat.le_refl _)) (hr.below (below_then hB0 (by omega) HBe.out)) ((Below.refl _ wc).alloc (Nat.le_refl _) _) (by simp) (by simp; omega) ?_))
      intro v5 w5 ho5 hb5 _ _
      obtain ⟨A3, c3, rfl, hle3, hrd3⟩ := HO3.out.rd
      have hl3 : (RecMath.headB N body).length = 12 + m := by rw [HM.out]; exact RecMath.headB_length _ _
      have HL := Lib.hid hl3
      rw [hl3] at hle3
      clear hl3
      obtain ⟨hd, hhd⟩ : ∃ hd, hd = RecMath.headB N body := ⟨_, rfl⟩
      rw [← hhd] at hrd3 HO3 HL ⊢
      rw [HL.out] at HO3 ⊢
      have HD := Lib.hid hhd
      have HO5 := Lib.hid ho5
      have HB5 := Lib.hid (below_then HB4.out hs4 hb5)
      have HO6 := Lib.hid ((HO3.out : Ob wc W0.heap.size 5 (.slice A3 (12 + m) c3) hd).below hb5)
      have HR6 := Lib.hid (hrd3.below hb5)
      have hs5 := HB5.out.size
      have hs5c := hb5.size
      have hA3 : ∀ k, (Value.slice A3 (12 + m) c3).ownBlock = some k → k < wc.heap.size := fun k hk => (World.ownsRow.lt (HO3.out : Ob wc W0.heap.size 5 (.slice A3 (12 + m) c3) hd) k hk).2
      have HA3 := Lib.hid hA3
      clear ho5 hb5 hrd3 hhd HBe HOe HO3 hse hA3
      obtain ⟨X, hX⟩ : ∃ X, X = CrcMath.add 0 hd := ⟨_, rfl⟩
      have hX2 := X.isLt
      have hcr := refcrc_any 0 w5 A3 c3 hd HR6.out
      rw [HL.out, ← hX] at hcr
      have HX := Lib.hid hX; clear hX
      have HCR := Lib.hid hcr; clear hcr
      go_wp2_with fail
      refine HCR.out.mono ?_
      rintro e w6 ⟨rfl, rfl⟩
      have hwX : IntKind.u64.wrap (X.toNat : Int) = X.toNat := u64_wrap_id _ (by omega) (by omega)
      go_wp2_with fail
      refine (big_any W0.heap.size w5 _ hd X.toNat 4 (by omega) (by omega) HO6.out hs5 (by rw [HL.out]; omega)).mono ?_
      rintro e w7 ⟨x4, rfl, ho4, hw4⟩
      have ho7 := HO5.out.other hw4 (by
        intro k hk h2
        have h3 := HA3.out k h2
        have h4 := HO5.out.own k hk
        omega)
      have hb7 : Below W0.heap.size W0 w7 := HB5.out.trans (HO6.out.wrote hs5 hw4)
      have hs7c : wc.heap.size ≤ w7.heap.size := Nat.le_trans hs5c hw4.1.size
      obtain ⟨A8, c8, rfl, hle8, hrd8⟩ := ho4.rd
      have hl8 : (hd ++ RecMath.be 4 X.toNat).length = 16 + m := by rw [List.length_append, HL.out, RecMath.be_length]; omega
      rw [hl8] at hle8 ⊢
      have HL8 := Lib.hid hl8
      have HB7 := Lib.hid hb7
      have HO7 := Lib.hid ho7
      clear ho4 hw4 hb7 hl8 ho7
      go_wp2_with (at_builtin; go_loud (refine wpList_appn (w0 := w7) wc.heap.size rfl (.tmp 30) (.tmp 35) 22 5 rfl ht hi _ l (hd ++ RecMath.be 4 X.toNat) A8 (16 + m) c8 rfl rfl HL8.out HO7.out hrd8 (Below.refl _ _) hs7c (by have := HN.out; omega) ?_))
      intro v1 w8 ho hb _ _
      go_wp2
      go_ret2
      refine ⟨_, rfl, ?_, below_then hB0 (by omega) (HB7.out.trans (hb.mono hs4))⟩
      have e9 : l ++ RecMath.recB (N : Int).toNat body = l ++ (hd ++ RecMath.be 4 X.toNat) := by
        rw [HX.out, HD.out]; simp [RecMath.recB]
      rw [e9]
      exact ho.base (by omega)
  · have hE : putE num m = 1 := if_neg hg
    rw [hE, if_neg hg]
    clear hE hnn hmm
    by_cases h1 : num < 1
    · have hb1 : decide (num < 1) = true := decide_eq_true h1
      go_enter Try.func18, Try.ntmps18
      go_wp2
      go_ret2
      exact ⟨_, rfl, Ob.nil _ _ _, (Below.refl _ w).alloc (Nat.le_refl _) _⟩
    · have hb1 : decide (num < 1) = false := decide_eq_false h1
      have h2 : 200000 < (m : Int) := by omega
      go_enter Try.func18, Try.ntmps18
      go_wp2
      go_ret2
      exact ⟨_, rfl, Ob.nil _ _ _, (Below.refl _ w).alloc (Nat.le_refl _) _⟩
end Go.Proofs.Ythhdkhgafeaehaa
