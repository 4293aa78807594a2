/- awake: two rooms; []byte(s) of a string. -/
import Derived.Test.YthecekkophbceaaQueue
import Derived.Laws.IdiomStrings
namespace Go.Proofs.Ythecekkophbceaa
open Go.RowKit Go.Conc
set_option linter.unusedVariables false
set_option linter.unusedSimpArgs false
/-- '[]byte(s)': a new block of bytes -/
theorem str_bytes (w : World) (s : ByteArray) (hl : s.size ≤ 140737488351232) : ∃ c W, (convert 9 28 (.string s)).run Try.prog w = .ok (.slice (some ⟨w.heap.size, 0, none⟩) s.size c) W ∧ Rd W (some ⟨w.heap.size, 0, none⟩) s.data.toList ∧ Below w.heap.size w W ∧ w.heap.size < W.heap.size := by
  refine ⟨_, _, run_bytes_of_string w 9 28 5 s Try.underlying9 Try.underlying28 Try.underlying5, ?_, ?_, by simp⟩
  · refine ⟨by simpa using Nat.le_trans hl (by decide), fun hp => ⟨_, rfl, fun j hj => ?_⟩⟩
    have ha : (⟨w.heap.size, 0, none⟩ : Addr).add j = ⟨w.heap.size, j, none⟩ := by unfold Addr.add; split <;> simp_all
    have hnew : ∀ C fr, (w.drew.alloc (.cells C 5 fr)).heap[w.heap.size]? = some (.cells C 5 fr) := fun C fr => heap_new w.drew _ _ rfl
    rw [ha, cell_of_row _ w.heap.size j _ _ _ (hnew _ _)]
    have hj2 : j < s.size := by simpa using hj
    have hj3 : j < s.data.size := hj2
    simp [bytesRow, Array.getElem?_append, hj3]
    rw [if_pos hj2, Array.getElem?_eq_getElem hj3]
    rfl
  · exact (Below.drew (Below.refl _ w)).alloc (Nat.le_refl _) _
theorem put_blk (w : World) (g ch cap : Nat) (ls : List (List UInt8)) (closed : Bool) (h : Qu w g ch cap ls closed) (l : List UInt8) (n : Nat) (fr : Nat × Nat) (hn : l.length = n) (hl : n ≤ 140737488351232) :
    Calls Try.prog 10 #[.pointer (some ⟨g, 0, none⟩), .slice (some ⟨w.heap.size, 0, none⟩) n n] (w.alloc (.cells (bv l) 5 fr)) fun e w' => e = .returned (.bool (may cap ls closed)) ∧ Qu w' g ch cap (if may cap ls closed then ls ++ [l] else ls) closed ∧ Chg (· = ch) w w' := by
  subst hn
  have hb : Below w.heap.size w (w.alloc (.cells (bv l) 5 fr)) := (Below.refl _ w).alloc (Nat.le_refl _) _
  refine (put_any _ g ch cap ls closed (h.below hb) _ _ l (Rd.of_block (t := 5) (fr := fr) (heap_new _ _ _ rfl) (by omega)) hl).mono ?_
  rintro e w' ⟨rfl, h1, h2⟩
  exact ⟨rfl, h1, (Chg.of_below hb).trans h2⟩
theorem awake2_any (w : World) : Calls Try.prog 8 #[] w fun e w' => e = .returned (.bool true) ∧ Below w.heap.size w w' := by
  have kc := conv_const Try.underlying28 Try.underlying5
  go_enter Try.func8, Try.ntmps8
  go_wp2_with fail
  refine (new_any w 2 (by decide) (by decide)).mono ?_
  rintro e w1 ⟨rfl, hq1, hb1⟩
  have HB1 := Lib.hid hb1; have HQ1 := Lib.hid hq1
  clear hb1 hq1
  go_wp2_with fail
  refine (put_blk w1 _ _ 2 [] false HQ1.out [120] 1 (1, 2) rfl (by decide)).mono ?_
  rintro e w2 ⟨rfl, hq2, hc2⟩
  have HQ2 := Lib.hid hq2; have HC2 := Lib.hid hc2
  rw [show may 2 [] false = true by decide]
  clear hq2 hc2
  go_wp2_with fail
  refine (put_blk w2 _ _ 2 [[120]] false HQ2.out [121] 1 (1, 2) rfl (by decide)).mono ?_
  rintro e w3 ⟨rfl, hq3, hc3⟩
  have HQ3 := Lib.hid hq3; have HC3 := Lib.hid (HC2.out.trans hc3)
  rw [show may 2 [[120]] false = true by decide]
  clear hq3 hc3
  go_wp2_with fail
  refine (put_blk w3 _ _ 2 [[120], [121]] false HQ3.out [122] 1 (1, 2) rfl (by decide)).mono ?_
  rintro e w4 ⟨rfl, hq4, hc4⟩
  have HQ4 := Lib.hid hq4; have HC4 := Lib.hid (HC3.out.trans hc4)
  rw [show may 2 [[120], [121]] false = false by decide]
  clear hq4 hc4
  go_wp2_with fail
  refine (take_any w4 _ _ 2 [120] [[121]] false HQ4.out).mono ?_
  rintro e w5 ⟨v5, rfl, hs5, hq5, hc5⟩
  have HC5 := Lib.hid (HC4.out.trans hc5)
  have hlen := len_any w5 _ _ 2 [[121]] false hq5
  obtain ⟨A5, c5, rfl, _, hr5⟩ := hs5.rd
  have hstr := hr5.str 1 c5 rfl
  clear hs5 hc5 hr5 hq5
  go_wp2_with fail
  refine hlen.mono ?_
  rintro e w6 ⟨rfl, rfl⟩
  go_wp2
  go_ret
  exact ⟨rfl, HC5.out.below HB1.out HB1.out.size (fun k hk => by omega)⟩
end Go.Proofs.Ythecekkophbceaa
