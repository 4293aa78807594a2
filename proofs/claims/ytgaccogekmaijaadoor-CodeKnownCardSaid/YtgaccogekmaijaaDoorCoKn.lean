/- The law CodeKnown: the walk. -/
import Derived.Test.YtgaccogekmaijaaDoorCoDc
namespace Go.Proofs.YtgaccogekmaijaaDoor
open Go.RowKit Go.Maps
set_option linter.unusedVariables false
set_option linter.unusedSimpArgs false
theorem decode_blk (w : World) (how : ByteArray) (l r : List UInt8) (n k : Nat) (fr : Nat × Nat) (hn : l.length = n) (hl : n ≤ 1000) (hh : how.size ≤ 100) (hr : CodeMath.decodeS how.data.toList l = r) (hk : r.length = k) :
    Calls Tryd.prog 13 #[.string how, .slice (some ⟨w.heap.size, 0, none⟩) n n] (w.alloc (.cells (bv l) 5 fr)) fun e w' => ∃ A c, e = .returned (.slice A k c) ∧ k ≤ c ∧ Rd w' A r ∧ Below w.heap.size w w' := by
  subst hn
  obtain ⟨h1, h2⟩ := blk_rd w l fr hl
  refine (decode_any _ how _ _ _ l (by omega) h1 rfl (Nat.le_refl _) (by omega) (by omega)).mono ?_
  rintro e w' ⟨v, rfl, ho, hb⟩
  rw [hr] at ho
  obtain ⟨A, c, rfl, hc, hd⟩ := ho.shp hk
  exact ⟨A, c, rfl, hc, hd, below_then h2 h2.size hb⟩
theorem dec_nil (w : World) : Calls Tryd.prog 10 #[.slice none 0 0] w fun e w' => ∃ A c, e = .returned (.tuple #[.slice A 0 c, .int .i64 0]) ∧ Below w.heap.size w w' := by
  refine (dec64_any w none 0 [] (Rd.nil _ _) (Nat.le_refl _) (by decide)).mono ?_
  rintro e w' ⟨hb, ⟨l', v, q1, rfl, ho⟩ | ⟨q1, rfl⟩⟩
  · have h : CodeMath.dec [] = some [] := by decide
    rw [h] at q1
    injection q1 with q1
    subst q1
    obtain ⟨A, c, rfl, _, _⟩ := ho.rd
    exact ⟨A, c, rfl, hb⟩
  · have h : CodeMath.dec [] = some [] := by decide
    rw [h] at q1; cases q1
theorem b64_nil (w : World) : Calls Tryd.prog 8 #[.slice none 0 0] w fun e w' => ∃ A c, e = .returned (.slice A 0 c) ∧ Below w.heap.size w w' := by
  refine (b64_any w none 0 [] (Rd.nil _ _) (Nat.le_refl _) (by decide)).mono ?_
  rintro e w' ⟨v, rfl, ho, hb⟩
  have h : CodeMath.enc 0 [] = [] := by decide
  rw [h] at ho
  obtain ⟨A, c, rfl, _, _⟩ := ho.rd
  exact ⟨A, c, rfl, hb⟩
set_option maxRecDepth 100000 in
set_option maxHeartbeats 16000000 in
theorem CodeKnown_walk (w : World) : Calls Tryd.prog 4 #[] w fun e w' => e = .returned (.bool true) ∧ Below w.heap.size w w' := by
  have kc := conv_const Tryd.underlying22 Tryd.underlying5
  have H1 := Lib.hid (fun W => dec_blk_none W [89, 87, 74] 3 (3, 4) rfl (by decide) (by decide +kernel))
  have H2 := Lib.hid (fun W => dec_blk_none W [89, 87, 75, 61] 4 (4, 5) rfl (by decide) (by decide +kernel))
  have H3 := Lib.hid (fun W => dec_blk_none W [89, 81, 61, 61, 89, 81, 61, 61] 8 (8, 9) rfl (by decide) (by decide +kernel))
  have H4 := Lib.hid (fun W => dec_blk_none W [89, 33, 61, 61] 4 (4, 5) rfl (by decide) (by decide +kernel))
  have H5 := Lib.hid dec_nil
  have H6 := Lib.hid b64_nil
  have H7 := Lib.hid (fun W => b64_blk W [97] [89, 81, 61, 61, 13, 10] 1 6 (1, 2) rfl (by decide) (by decide +kernel) rfl)
  have H8 := Lib.hid (fun W => quo_blk W [97, 32, 13, 10, 98, 9] [97, 61, 50, 48, 13, 10, 98, 61, 48, 57] 6 10 (6, 7) rfl (by decide) (by decide +kernel) rfl)
  have H9 := Lib.hid (fun W => quo_blk W [13, 233] [61, 48, 68, 61, 69, 57] 2 6 (2, 3) rfl (by decide) (by decide +kernel) rfl)
  have H10 := Lib.hid (fun W => fq_blk W [97, 61, 13, 10, 98, 61, 51, 100, 61, 52, 120, 61, 32, 13, 10, 99, 32, 9] [97, 98, 61, 61, 52, 120, 61, 13, 10, 99] 18 10 (18, 19) rfl (by decide) (by decide +kernel) rfl)
  have H11 := Lib.hid (fun W => decode_blk W ⟨#[66, 65, 83, 69, 54, 52]⟩ [89, 81, 61, 61] [97] 4 1 (4, 5) rfl (by decide) (by decide) (by decide +kernel) rfl)
  have H12 := Lib.hid (fun W => decode_blk W ⟨#[98, 97, 115, 101, 54, 52]⟩ [33] [33] 1 1 (1, 2) rfl (by decide) (by decide) (by decide +kernel) rfl)
  have H13 := Lib.hid (fun W => decode_blk W ⟨#[55, 98, 105, 116]⟩ [61, 52, 49] [61, 52, 49] 3 3 (3, 4) rfl (by decide) (by decide) (by decide +kernel) rfl)
  go_enter Tryd.func4, Tryd.ntmps4
  go_wp2_with fail
  refine (awake13_any _).mono ?_
  rintro e w0 ⟨rfl, hb0⟩
  have HB0 := Lib.hid hb0
  clear hb0
  go_wp2_with fail
  refine Calls.mono (H1.out w0) ?_
  rintro e w1 ⟨rfl, hb1⟩
  have HB1 := Lib.hid (below_then HB0.out HB0.out.size hb1)
  clear H1 hb1 HB0
  go_wp2_with fail
  refine Calls.mono (H2.out w1) ?_
  rintro e w2 ⟨rfl, hb1⟩
  have HB2 := Lib.hid (below_then HB1.out HB1.out.size hb1)
  clear H2 hb1 HB1
  go_wp2_with fail
  refine Calls.mono (H3.out w2) ?_
  rintro e w3 ⟨rfl, hb1⟩
  have HB3 := Lib.hid (below_then HB2.out HB2.out.size hb1)
  clear H3 hb1 HB2
  go_wp2_with fail
  refine Calls.mono (H4.out w3) ?_
  rintro e w4 ⟨rfl, hb1⟩
  have HB4 := Lib.hid (below_then HB3.out HB3.out.size hb1)
  clear H4 hb1 HB3
  go_wp2_with fail
  refine Calls.mono (H5.out w4) ?_
  rintro e w5 ⟨A5, c5, rfl, hb5⟩
  have HB5 := Lib.hid (below_then HB4.out HB4.out.size hb5)
  clear H5 hb5 HB4
  go_wp2_with fail
  refine Calls.mono (H6.out w5) ?_
  rintro e w6 ⟨A6, c6, rfl, hb6⟩
  have HB6 := Lib.hid (below_then HB5.out HB5.out.size hb6)
  clear H6 hb6 HB5
  go_wp2_with fail
  refine Calls.mono (H7.out w6) ?_
  rintro e w7 ⟨A1, c1, rfl, hc1, hr1, hb1⟩
  have hs1 := hr1.str 6 c1 rfl
  have HB7 := Lib.hid (below_then HB6.out HB6.out.size hb1)
  clear H7 hr1 hb1 HB6
  go_wp2_with fail
  refine Calls.mono (H8.out w7) ?_
  rintro e w8 ⟨A1, c1, rfl, hc1, hr1, hb1⟩
  have hs1 := hr1.str 10 c1 rfl
  have HB8 := Lib.hid (below_then HB7.out HB7.out.size hb1)
  clear H8 hr1 hb1 HB7
  go_wp2_with fail
  refine Calls.mono (H9.out w8) ?_
  rintro e w9 ⟨A1, c1, rfl, hc1, hr1, hb1⟩
  have hs1 := hr1.str 6 c1 rfl
  have HB9 := Lib.hid (below_then HB8.out HB8.out.size hb1)
  clear H9 hr1 hb1 HB8
  go_wp2_with fail
  refine Calls.mono (H10.out w9) ?_
  rintro e w10 ⟨A1, c1, rfl, hc1, hr1, hb1⟩
  have hs1 := hr1.str 10 c1 rfl
  have HB10 := Lib.hid (below_then HB9.out HB9.out.size hb1)
  clear H10 hr1 hb1 HB9
  go_wp2_with fail
  refine Calls.mono (H11.out w10) ?_
  rintro e w11 ⟨A1, c1, rfl, hc1, hr1, hb1⟩
  have hs1 := hr1.str 1 c1 rfl
  have HB11 := Lib.hid (below_then HB10.out HB10.out.size hb1)
  clear H11 hr1 hb1 HB10
  go_wp2_with fail
  refine Calls.mono (H12.out w11) ?_
  rintro e w12 ⟨A1, c1, rfl, hc1, hr1, hb1⟩
  have hs1 := hr1.str 1 c1 rfl
  have HB12 := Lib.hid (below_then HB11.out HB11.out.size hb1)
  clear H12 hr1 hb1 HB11
  go_wp2_with fail
  refine Calls.mono (H13.out w12) ?_
  rintro e w13 ⟨A1, c1, rfl, hc1, hr1, hb1⟩
  have hs1 := hr1.str 3 c1 rfl
  have HB13 := Lib.hid (below_then HB12.out HB12.out.size hb1)
  clear H13 hr1 hb1 HB12
  go_wp2
  go_ret
  exact ⟨rfl, HB13.out⟩
end Go.Proofs.YtgaccogekmaijaaDoor
