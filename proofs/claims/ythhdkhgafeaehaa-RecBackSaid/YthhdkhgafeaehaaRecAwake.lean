/- awake: two letters, written and read. -/
import Derived.Test.YthhdkhgafeaehaaRecScan2
import Derived.Test.YthhdkhgafeaehaaRecPlain
import Derived.Test.YthhdkhgafeaehaaStr
namespace Go.Proofs.Ythhdkhgafeaehaa
open Go.RowKit
set_option linter.unusedVariables false
set_option linter.unusedSimpArgs false
set_option maxHeartbeats 1000000 in
theorem awake5_any (w : World) : Calls Try.prog 15 #[] w fun e w' => e = .returned (.bool true) ∧ Below w.heap.size w w' := by
  have kc := conv_const Try.underlying22 Try.underlying5
  go_enter Try.func15, Try.ntmps15
  go_wp2_with fail
  have hb0 : Below w.heap.size w (w.alloc (.cells #[.int .u8 97, .int .u8 98] 5 (2, 3))) := (Below.refl _ w).alloc (Nat.le_refl _) _
  have hr0 : Rd (w.alloc (.cells #[.int .u8 97, .int .u8 98] 5 (2, 3))) (some ⟨w.heap.size, 0, none⟩) [97, 98] := Rd.of_block (t := 5) (fr := (2, 3)) (heap_new w _ _ rfl) (by decide)
  have hp := put_any (w.alloc (.cells #[.int .u8 97, .int .u8 98] 5 (2, 3))) none 0 [] 1 (some ⟨w.heap.size, 0, none⟩) 2 [97, 98] (Rd.nil _ _) (by decide) hr0 (by decide) (by decide)
  have e1 : putB [] 1 [97, 98] = RecMath.recB 1 [97, 98] := by unfold putB; rw [if_pos (by decide)]; rfl
  have e2 : putE 1 ([97, 98] : List UInt8).length = 0 := by unfold putE; rw [if_pos (by decide)]
  rw [e1, e2] at hp
  refine Calls.mono hp ?_
  rintro e w1 ⟨v1, rfl, ho1, hb1⟩
  have HB1 := Lib.hid (below_then hb0 hb0.size hb1)
  obtain ⟨A, c, rfl, hle, hrd⟩ := ho1.rd
  have e3 : (RecMath.recB 1 [97, 98]).length = 18 := RecMath.recB_length _ _
  have hg := RecMath.get_recB 1 [97, 98] [] (by decide) (by decide) (by decide)
  rw [List.append_nil] at hg
  have hget := get_any w1 A c (RecMath.recB 1 [97, 98]) hrd hle (by rw [e3]; decide)
  rw [hg, e3] at hget
  rw [e3] at hle ⊢
  have HG := Lib.hid hget
  clear hp hget hg ho1 hb1 hrd e1 e2 e3 hr0 hb0
  go_wp2_with fail
  refine HG.out.mono ?_
  rintro e w2 ⟨v2, rfl, hs2, hb2⟩
  obtain ⟨A2, c2, rfl, hle2, hrd2⟩ := hs2.rd
  have hbb : Below w2.heap.size w2 (w2.alloc (.cells #[.int .i64 1, .slice A2 2 c2] 32)) := (Below.refl _ _).alloc (Nat.le_refl _) _
  have hstr := (hrd2.below hbb).str 2 c2 rfl
  have HB2 := Lib.hid (below_then HB1.out HB1.out.size hb2)
  clear hs2 hb2 hrd2
  go_wp2
  go_ret
  exact ⟨rfl, below_then HB2.out HB2.out.size hbb⟩
end Go.Proofs.Ythhdkhgafeaehaa
