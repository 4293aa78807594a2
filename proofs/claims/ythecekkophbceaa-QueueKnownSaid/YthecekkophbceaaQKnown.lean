/- QueueKnown: the walk of the law. -/
import Derived.Test.YthecekkophbceaaQOrder
namespace Go.Proofs.Ythecekkophbceaa
open Go.RowKit Go.Conc
set_option linter.unusedVariables false
set_option linter.unusedSimpArgs false
theorem three_ptrs (w : World) (g1 g2 : Nat) : Rdp (w.alloc (.cells #[.pointer (some ⟨g1, 0, none⟩), .pointer none, .pointer (some ⟨g2, 0, none⟩)] 24)) (some ⟨w.heap.size, 0, none⟩) [some g1, none, some g2] := by
  intro _
  refine ⟨_, rfl, fun j hj => ?_⟩
  have ha : (⟨w.heap.size, 0, none⟩ : Addr).add j = ⟨w.heap.size, j, none⟩ := by unfold Addr.add; split <;> simp_all
  rw [ha, cell_of_row _ w.heap.size j _ _ _ (heap_new w _ _ rfl)]
  have : j = 0 ∨ j = 1 ∨ j = 2 := by simp at hj; omega
  rcases this with rfl | rfl | rfl <;> rfl
theorem al (w : World) (o : Obj) : Below w.heap.size w (w.alloc o) := (Below.refl _ _).alloc (Nat.le_refl _) _
set_option maxRecDepth 20000 in
set_option maxHeartbeats 2000000 in
theorem QueueKnown_walk (w : World) : Calls Try.prog 6 #[] w fun e w' => e = .returned (.bool true) ∧ Below w.heap.size w w' := by
  have kc := conv_const Try.underlying28 Try.underlying5
  go_enter Try.func6, Try.ntmps6
  go_wp2_with fail
  refine (awake2_any _).mono ?_
  rintro e w1 ⟨rfl, hb1⟩
  have HB1 := Lib.hid hb1
  clear hb1
  go_wp2_with fail
  refine (new_bad w1 0 (by decide)).mono ?_
  rintro e w2 ⟨rfl, hb⟩
  have HB2 := Lib.hid (below_then HB1.out HB1.out.size hb)
  clear hb HB1
  go_wp2_with fail
  refine (new_bad w2 65 (by decide)).mono ?_
  rintro e w3 ⟨rfl, hb⟩
  have HB3 := Lib.hid (below_then HB2.out HB2.out.size hb)
  clear hb HB2
  go_wp2_with fail
  refine (new_any w3 1 (by decide) (by decide)).mono ?_
  rintro e w4 ⟨rfl, hq, hb⟩
  obtain ⟨p, hp⟩ : ∃ g, g = w3.heap.size + 1 := ⟨_, rfl⟩
  obtain ⟨cp, hcp⟩ : ∃ g, g = w3.heap.size := ⟨_, rfl⟩
  have HB4 := Lib.hid (below_then HB3.out HB3.out.size hb)
  rw [← hp, ← hcp] at hq
  rw [← hp]
  have HP4 := Lib.hid hq
  have hcp0 : w.heap.size ≤ cp := by have := HB3.out.size; omega
  have hp0 : w.heap.size ≤ p := by have := HB3.out.size; omega
  clear hb hq hp hcp HB3
  go_wp2_with fail
  refine (new_any w4 2 (by decide) (by decide)).mono ?_
  rintro e w5 ⟨rfl, hq, hb⟩
  obtain ⟨q, hg⟩ : ∃ g, g = w4.heap.size + 1 := ⟨_, rfl⟩
  obtain ⟨cq, hch⟩ : ∃ g, g = w4.heap.size := ⟨_, rfl⟩
  have HB5 := Lib.hid (below_then HB4.out HB4.out.size hb)
  rw [← hg, ← hch] at hq
  rw [← hg]
  have HQ5 := Lib.hid hq
  have HP5 := Lib.hid (HP4.out.below hb)
  have hcq0 : w.heap.size ≤ cq := by have := HB4.out.size; omega
  have hq0 : w.heap.size ≤ q := by have := HB4.out.size; omega
  have hpq : p ≠ q := by have := HP4.out.lt; omega
  have hcpq : cp ≠ cq := by have := HP4.out.lt; omega
  clear hb hq hg hch HB4 HP4
  go_wp2_with fail
  -- Ready(p, q): none
  refine Calls.mono (ready_none _ _ 2 [some p, some q] (two_ptrs w5 p q) (by simp) (by simp) (fun i hi => by
    have : i = 0 ∨ i = 1 := by simp at hi; omega
    rcases this with rfl | rfl
    · intro g' e; injection e with e; subst e; exact ⟨_, _, _, HP5.out.below (al _ _)⟩
    · intro g' e; injection e with e; subst e; exact ⟨_, _, _, HQ5.out.below (al _ _)⟩)) ?_
  rintro e w6 ⟨rfl, rfl⟩
  obtain ⟨w6, hw6⟩ : ∃ W, W = w5.alloc (.cells #[.pointer (some ⟨p, 0, none⟩), .pointer (some ⟨q, 0, none⟩)] 24) := ⟨_, rfl⟩
  have hb : Below w5.heap.size w5 w6 := by rw [hw6]; exact al _ _
  have HB6 := Lib.hid (below_then HB5.out HB5.out.size hb)
  have HP6 := Lib.hid (HP5.out.below hb)
  have HQ6 := Lib.hid (HQ5.out.below hb)
  rw [← hw6]
  clear hw6 hb HB5 HP5 HQ5
  go_wp2_with fail
  refine (put_blk w6 _ _ 2 [] false HQ6.out [120] 1 (1, 2) rfl (by decide)).mono ?_
  rintro e w7 ⟨rfl, hq, hc⟩
  have HB7 := Lib.hid (Chg.below HB6.out hc HB6.out.size (fun k hk => by omega))
  have HQ7 : Hid (Qu w7 q cq 2 [[120]] false) := Lib.hid hq
  have HP7 := Lib.hid (HP6.out.other HQ6.out hcpq hc)
  rw [show may 2 [] false = true by decide]
  clear hq hc HB6 HP6 HQ6
  go_wp2_with fail
  refine (close_any w7 q cq 2 _ false HQ7.out).mono ?_
  rintro e w8 ⟨rfl, hq, hc⟩
  have HB8 := Lib.hid (Chg.below HB7.out hc HB7.out.size (fun k hk => by omega))
  have HQ8 := Lib.hid hq
  have HP8 := Lib.hid (HP7.out.chg hc hpq (fun e => (HQ7.out.gc HP7.out) e.symm) HQ7.out.not8g)
  clear hq hc HB7 HP7 HQ7
  go_wp2_with fail
  refine (close_any w8 q cq 2 _ true HQ8.out).mono ?_
  rintro e w9 ⟨rfl, hq, hc⟩
  have HB9 := Lib.hid (Chg.below HB8.out hc HB8.out.size (fun k hk => by omega))
  have HQ9 := Lib.hid hq
  have HP9 := Lib.hid (HP8.out.chg hc hpq (fun e => (HQ8.out.gc HP8.out) e.symm) HQ8.out.not8g)
  clear hq hc HB8 HP8 HQ8
  go_wp2_with fail
  obtain ⟨w10, hw⟩ : ∃ W, W = w9.alloc (.cells #[.int .u8 121] 5 (1, 2)) := ⟨_, rfl⟩
  have hb : Below w9.heap.size w9 w10 := by rw [hw]; exact al _ _
  have HB10 := Lib.hid (below_then HB9.out HB9.out.size hb)
  have HP10 := Lib.hid (HP9.out.below hb)
  have HQ10 := Lib.hid (HQ9.out.below hb)
  rw [← hw]
  clear hw hb HB9 HP9 HQ9
  refine Calls.mono (put_closed w10 q cq 2 _ HQ10.out _ _ _) ?_
  rintro e w10' ⟨rfl, rfl⟩
  go_wp2_with fail
  have hb : Below w10'.heap.size w10' (w10'.alloc (.cells #[.pointer (some ⟨p, 0, none⟩), .pointer none, .pointer (some ⟨q, 0, none⟩)] 24)) := al _ _
  refine Calls.mono (ready_hit _ _ 3 [some p, none, some q] 2 q cq 2 _ _ true (three_ptrs w10' p q) (by simp) (by simp) (by simp) rfl (HQ10.out.below hb) (fun i hi => by
    have : i = 0 ∨ i = 1 := by omega
    rcases this with rfl | rfl
    · intro g' e; injection e with e; subst e; exact ⟨_, _, _, HP10.out.below hb⟩
    · intro g' e; cases e)) ?_
  rintro e w11 ⟨v11, rfl, hs, hq, hc⟩
  have HB11 := Lib.hid (Chg.below (below_then HB10.out HB10.out.size hb) hc (Nat.le_trans HB10.out.size hb.size) (fun k hk => by omega))
  have HQ11 := Lib.hid hq
  have HP11 := Lib.hid ((HP10.out.below hb).other (HQ10.out.below hb) hcpq hc)
  have HS11 := Lib.hid hs
  clear hs hq hc hb HB10 HP10 HQ10
  go_wp2_with fail
  refine Calls.mono (move_none w11 q cq 2 p cp 1 _ true false HQ11.out HP11.out (fun e => hpq e.symm)) ?_
  rintro e w12 ⟨rfl, hb⟩
  have HB12 := Lib.hid (below_then HB11.out HB11.out.size hb)
  have HP12 := Lib.hid (HP11.out.below hb)
  have HQ12 := Lib.hid (HQ11.out.below hb)
  have HS12 := Lib.hid (HS11.out.below hb)
  clear hb HB11 HP11 HQ11 HS11
  go_wp2_with fail
  refine (put_blk w12 p cp 1 [] false HP12.out [122] 1 (1, 2) rfl (by decide)).mono ?_
  rintro e w13 ⟨rfl, hq, hc⟩
  have HB13 := Lib.hid (Chg.below HB12.out hc HB12.out.size (fun k hk => by omega))
  have HP13 : Hid (Qu w13 p cp 1 [[122]] false) := Lib.hid hq
  have HQ13 := Lib.hid (HQ12.out.other HP12.out (fun e => hcpq e.symm) hc)
  have HS13 := Lib.hid (HS12.out.chg hc HP12.out.not8c)
  clear hq hc HB12 HP12 HQ12 HS12
  go_wp2_with fail
  refine (new_any w13 1 (by decide) (by decide)).mono ?_
  rintro e w14 ⟨rfl, hq, hb⟩
  obtain ⟨r, hg⟩ : ∃ g, g = w13.heap.size + 1 := ⟨_, rfl⟩
  obtain ⟨cr, hch⟩ : ∃ g, g = w13.heap.size := ⟨_, rfl⟩
  have HB14 := Lib.hid (below_then HB13.out HB13.out.size hb)
  rw [← hg, ← hch] at hq
  rw [← hg]
  have HR14 := Lib.hid hq
  have HP14 := Lib.hid (HP13.out.below hb)
  have HQ14 := Lib.hid (HQ13.out.below hb)
  have HS14 := Lib.hid (HS13.out.below hb)
  have hcr0 : w.heap.size ≤ cr := by have := HB13.out.size; omega
  have hpr : p ≠ r := by have := HP13.out.lt; omega
  have hcpr : cp ≠ cr := by have := HP13.out.lt; omega
  have hcqr : cq ≠ cr := by have := HQ13.out.lt; omega
  clear hb hq hg hch HB13 HP13 HQ13 HS13
  go_wp2_with fail
  refine (put_blk w14 r cr 1 [] false HR14.out [119] 1 (1, 2) rfl (by decide)).mono ?_
  rintro e w15 ⟨rfl, hq, hc⟩
  have HB15 := Lib.hid (Chg.below HB14.out hc HB14.out.size (fun k hk => by omega))
  have HR15 : Hid (Qu w15 r cr 1 [[119]] false) := Lib.hid hq
  have HP15 := Lib.hid (HP14.out.other HR14.out hcpr hc)
  have HQ15 := Lib.hid (HQ14.out.other HR14.out hcqr hc)
  have HS15 := Lib.hid (HS14.out.chg hc HR14.out.not8c)
  clear hq hc HB14 HP14 HQ14 HS14 HR14
  go_wp2_with fail
  refine Calls.mono (move_full w15 p cp 1 r cr 1 1 [[122]] [[119]] false HP15.out HR15.out hpr rfl (by decide) rfl) ?_
  rintro e w16 ⟨rfl, hb⟩
  have HB16 := Lib.hid (below_then HB15.out HB15.out.size hb)
  have HP16 := Lib.hid (HP15.out.below hb)
  have HQ16 := Lib.hid (HQ15.out.below hb)
  have HS16 := Lib.hid (HS15.out.below hb)
  clear hb HB15 HP15 HQ15 HS15 HR15
  go_wp2_with fail
  refine Calls.mono (move_self w16 p) ?_
  rintro e w17 ⟨rfl, hb⟩
  have HB17 := Lib.hid (below_then HB16.out HB16.out.size hb)
  have HP17 := Lib.hid (HP16.out.below hb)
  have HQ17 := Lib.hid (HQ16.out.below hb)
  have HS17 := Lib.hid (HS16.out.below hb)
  clear hb HB16 HP16 HQ16 HS16
  go_wp2_with fail
  refine Calls.mono (take_any w17 p cp 1 [122] [] false HP17.out) ?_
  rintro e w18 ⟨v18, rfl, hs, hq, hc⟩
  have HB18 := Lib.hid (Chg.below HB17.out hc HB17.out.size (fun k hk => by omega))
  have HP18 := Lib.hid hq
  have HQ18 := Lib.hid (HQ17.out.other HP17.out (fun e => hcpq e.symm) hc)
  have hS18 := HS17.out.chg hc HP17.out.not8c
  obtain ⟨A1, c1, rfl, _, hr1⟩ := hs.rd
  obtain ⟨A2, c2, rfl, _, hr2⟩ := hS18.rd
  have HR1 := Lib.hid hr1; have HR2 := Lib.hid hr2
  clear hs hq hc hS18 hr1 hr2 HB17 HP17 HQ17 HS17
  go_wp2_with fail
  refine Calls.mono (ready_none w18 none 0 [] (fun h => absurd h (by simp)) (by simp) (by simp) (fun i hi => absurd hi (by simp))) ?_
  rintro e w19 ⟨rfl, rfl⟩
  have t1 := HR1.out.str 1 c1 rfl
  have t2 := HR2.out.str 1 c2 rfl
  go_wp2_with fail
  refine Calls.mono (closed_any _ q cq 2 _ true HQ18.out) ?_
  rintro e w20 ⟨rfl, rfl⟩
  go_wp2_with fail
  refine Calls.mono (closed_any _ p cp 1 _ false HP18.out) ?_
  rintro e w21 ⟨rfl, rfl⟩
  go_wp2_with fail
  refine Calls.mono (len_any _ q cq 2 _ true HQ18.out) ?_
  rintro e w22 ⟨rfl, rfl⟩
  clear t1 t2
  go_wp2_with fail
  go_ret
  exact ⟨rfl, HB18.out⟩
end Go.Proofs.Ythecekkophbceaa
