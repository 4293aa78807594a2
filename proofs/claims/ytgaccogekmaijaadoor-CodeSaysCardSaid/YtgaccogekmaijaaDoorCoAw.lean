/- awake: three letters; constants handed to the code. -/
import Derived.Test.YtgaccogekmaijaaDoorCoFq
import Derived.Test.YtgaccogekmaijaaDoorCoDec
import Derived.Test.YtgaccogekmaijaaDoorCoQu
namespace Go.Proofs.YtgaccogekmaijaaDoor
open Go.RowKit Go.Maps
set_option linter.unusedVariables false
set_option linter.unusedSimpArgs false
theorem Ob.sl' {w : World} {base : Nat} {v : Value} {l : List UInt8} {n : Nat} (h : Ob w base 5 v l) (hn : l.length = n) : ∃ A c, v = .slice A n c ∧ n ≤ c ∧ Rd w A l := by
  obtain ⟨A, c, h1, h2, h3⟩ := h.rd
  exact ⟨A, c, by rw [h1, hn], by omega, h3⟩
theorem blk_rd (w : World) (l : List UInt8) (fr : Nat × Nat) (hl : l.length ≤ 1000) : Rd (w.alloc (.cells (bv l) 5 fr)) (some ⟨w.heap.size, 0, none⟩) l ∧ Below w.heap.size w (w.alloc (.cells (bv l) 5 fr)) :=
  ⟨Rd.of_block (t := 5) (fr := fr) (heap_new _ _ _ rfl) (Nat.le_trans hl (by decide)), (Below.refl _ w).alloc (Nat.le_refl _) _⟩
theorem b64_blk (w : World) (l r : List UInt8) (n k : Nat) (fr : Nat × Nat) (hn : l.length = n) (hl : n ≤ 1000) (hr : CodeMath.enc 0 l = r) (hk : r.length = k) :
    Calls Tryd.prog 8 #[.slice (some ⟨w.heap.size, 0, none⟩) n n] (w.alloc (.cells (bv l) 5 fr)) fun e w' => ∃ A c, e = .returned (.slice A k c) ∧ k ≤ c ∧ Rd w' A r ∧ Below w.heap.size w w' := by
  subst hn
  obtain ⟨h1, h2⟩ := blk_rd w l fr hl
  refine (b64_any _ _ _ l h1 (Nat.le_refl _) (by omega)).mono ?_
  rintro e w' ⟨v, rfl, ho, hb⟩
  rw [hr] at ho
  obtain ⟨A, c, rfl, hc, hd⟩ := ho.sl' hk
  exact ⟨A, c, rfl, hc, hd, below_then h2 h2.size hb⟩
theorem quo_blk (w : World) (l r : List UInt8) (n k : Nat) (fr : Nat × Nat) (hn : l.length = n) (hl : n ≤ 1000) (hr : CodeMath.qpS 0 l = r) (hk : r.length = k) :
    Calls Tryd.prog 9 #[.slice (some ⟨w.heap.size, 0, none⟩) n n] (w.alloc (.cells (bv l) 5 fr)) fun e w' => ∃ A c, e = .returned (.slice A k c) ∧ k ≤ c ∧ Rd w' A r ∧ Below w.heap.size w w' := by
  subst hn
  obtain ⟨h1, h2⟩ := blk_rd w l fr hl
  refine (quoted_any _ _ _ l h1 (Nat.le_refl _) (by omega)).mono ?_
  rintro e w' ⟨v, rfl, ho, hb⟩
  rw [hr] at ho
  obtain ⟨A, c, rfl, hc, hd⟩ := ho.sl' hk
  exact ⟨A, c, rfl, hc, hd, below_then h2 h2.size hb⟩
theorem fq_blk (w : World) (l r : List UInt8) (n k : Nat) (fr : Nat × Nat) (hn : l.length = n) (hl : n ≤ 1000) (hr : CodeMath.fqS l = r) (hk : r.length = k) :
    Calls Tryd.prog 11 #[.slice (some ⟨w.heap.size, 0, none⟩) n n] (w.alloc (.cells (bv l) 5 fr)) fun e w' => ∃ A c, e = .returned (.slice A k c) ∧ k ≤ c ∧ Rd w' A r ∧ Below w.heap.size w w' := by
  subst hn
  obtain ⟨h1, h2⟩ := blk_rd w l fr hl
  refine (fromq_any _ _ _ l h1 (Nat.le_refl _) (by omega) (by omega)).mono ?_
  rintro e w' ⟨v, rfl, ho, hb⟩
  rw [hr] at ho
  obtain ⟨A, c, rfl, hc, hd⟩ := ho.sl' hk
  exact ⟨A, c, rfl, hc, hd, below_then h2 h2.size hb⟩
theorem dec_blk (w : World) (l r : List UInt8) (n k : Nat) (fr : Nat × Nat) (hn : l.length = n) (hl : n ≤ 1000) (hr : CodeMath.dec l = some r) (hk : r.length = k) :
    Calls Tryd.prog 10 #[.slice (some ⟨w.heap.size, 0, none⟩) n n] (w.alloc (.cells (bv l) 5 fr)) fun e w' => ∃ A c, e = .returned (.tuple #[.slice A k c, .int .i64 0]) ∧ k ≤ c ∧ Rd w' A r ∧ Below w.heap.size w w' := by
  subst hn
  obtain ⟨h1, h2⟩ := blk_rd w l fr hl
  refine (dec64_any _ _ _ l h1 (Nat.le_refl _) (by omega)).mono ?_
  rintro e w' ⟨hb, ⟨l', v, q1, rfl, ho⟩ | ⟨q1, rfl⟩⟩
  · rw [hr] at q1
    injection q1 with q1
    subst q1
    obtain ⟨A, c, rfl, hc, hd⟩ := ho.sl' hk
    exact ⟨A, c, rfl, hc, hd, below_then h2 h2.size hb⟩
  · rw [hr] at q1; cases q1
theorem dec_blk_none (w : World) (l : List UInt8) (n : Nat) (fr : Nat × Nat) (hn : l.length = n) (hl : n ≤ 1000) (hr : CodeMath.dec l = none) :
    Calls Tryd.prog 10 #[.slice (some ⟨w.heap.size, 0, none⟩) n n] (w.alloc (.cells (bv l) 5 fr)) fun e w' => e = .returned (.tuple #[.slice none 0 0, .int .i64 3]) ∧ Below w.heap.size w w' := by
  subst hn
  obtain ⟨h1, h2⟩ := blk_rd w l fr hl
  refine (dec64_any _ _ _ l h1 (Nat.le_refl _) (by omega)).mono ?_
  rintro e w' ⟨hb, ⟨l', v, q1, rfl, ho⟩ | ⟨q1, rfl⟩⟩
  · rw [hr] at q1; cases q1
  · exact ⟨rfl, below_then h2 h2.size hb⟩
set_option maxRecDepth 20000 in
set_option maxHeartbeats 4000000 in
theorem awake13_any (w : World) : Calls Tryd.prog 7 #[] w fun e w' => e = .returned (.bool true) ∧ Below w.heap.size w w' := by
  have kc := conv_const Tryd.underlying22 Tryd.underlying5
  have H1 := Lib.hid (dec_blk w [89, 87, 32, 74, 106, 13, 10] [97, 98, 99] 7 3 (7, 8) rfl (by decide) (by decide +kernel) rfl)
  have H2 := Lib.hid (fun W => b64_blk W [97, 98, 99] [89, 87, 74, 106, 13, 10] 3 6 (3, 4) rfl (by decide) (by decide +kernel) rfl)
  have H3 := Lib.hid (fun W => quo_blk W [97, 61, 98] [97, 61, 51, 68, 98] 3 5 (3, 4) rfl (by decide) (by decide +kernel) rfl)
  go_enter Tryd.func7, Tryd.ntmps7
  go_wp2_with fail
  refine Calls.mono H1.out ?_
  rintro e w1 ⟨A1, c1, rfl, hc1, hr1, hb1⟩
  have HR1 := Lib.hid hr1; have HB1 := Lib.hid hb1
  clear H1 hr1 hb1
  go_wp2_with fail
  refine Calls.mono (H2.out w1) ?_
  rintro e w2 ⟨A2, c2, rfl, hc2, hr2, hb2⟩
  have hs1 := (HR1.out.below hb2).str 3 c1 rfl
  have hs2 := hr2.str 6 c2 rfl
  have HB2 := Lib.hid (below_then HB1.out HB1.out.size hb2)
  clear H2 hr2 hb2
  go_wp2_with fail
  refine Calls.mono (H3.out w2) ?_
  rintro e w3 ⟨A3, c3, rfl, hc3, hr3, hb3⟩
  have hs3 := hr3.str 5 c3 rfl
  have HB3 := Lib.hid (below_then HB2.out HB2.out.size hb3)
  clear H3 hr3 hb3
  go_wp2
  go_ret
  exact ⟨rfl, HB3.out⟩
end Go.Proofs.YtgaccogekmaijaaDoor
