/- QueuePlays: the walk of the law, but for the loop. -/
import Derived.Test.YthecekkophbceaaQPm
import Derived.Deep.RegionLaw
import Derived.Deep.CutRange
namespace Go.Proofs.Ythecekkophbceaa
open Go.RowKit Go.Conc
set_option linter.unusedVariables false
set_option linter.unusedSimpArgs false
attribute [local irreducible] wpR relOp
theorem results_tmp1 {fn : Func} {u : Tmp} (h : fn.results = #[.tmp u]) (tmps : Array Value) (P : Program) (w : World) : (results fn tmps).run P w = .ok (tmps.getD u undef) w := by
  simp only [results, h]
  simp
set_option maxRecDepth 1000000 in
set_option maxHeartbeats 4000000 in
theorem QueuePlays_ok (A : Option Addr) (c : Nat) (acts : List (Int × Int × Int × ByteArray × Unit)) (room : Nat) (w : World) (hA : Row KAct 4 w A acts) (hc : acts.length ≤ c) (hn80 : acts.length ≤ 80) (hr1 : 1 ≤ room) (hr2 : room ≤ 64) :
    Calls Try.prog 7 #[.int .i64 room, .slice A acts.length c] w fun e w' => e = .returned (.bool true) ∧ Below w.heap.size w w' := by
  obtain ⟨n, hnn⟩ : ∃ n, n = acts.length := ⟨_, rfl⟩
  rw [← hnn] at hc hn80 ⊢
  have HN := Lib.hid hnn
  clear hnn
  go_enter Try.func7, Try.ntmps7
  go_wp2_with fail
  refine (awake2_any _).mono ?_
  rintro e w1 ⟨rfl, hb1⟩
  have HB1 := Lib.hid hb1
  clear hb1
  go_wp2_with fail
  refine (new_any w1 room hr1 hr2).mono ?_
  rintro e w2 ⟨rfl, hq2, hb2⟩
  have HQ2 := Lib.hid hq2; have HB2 := Lib.hid hb2
  clear hq2 hb2
  go_wp2_with fail
  refine (new_any w2 room hr1 hr2).mono ?_
  rintro e w3 ⟨rfl, hq3, hb3⟩
  have HQ3 := Lib.hid hq3; have HB3 := Lib.hid hb3
  clear hq3 hb3
  go_wp2_with fail
  refine (new_any w3 room hr1 hr2).mono ?_
  rintro e w4 ⟨rfl, hq4, hb4⟩
  have HQ4 := Lib.hid hq4; have HB4 := Lib.hid hb4
  clear hq4 hb4
  obtain ⟨g, hg0, hg1, hg2⟩ : ∃ g : Nat → Nat, g 0 = w1.heap.size + 1 ∧ g 1 = w2.heap.size + 1 ∧ g 2 = w3.heap.size + 1 := ⟨fun i => if i = 0 then w1.heap.size + 1 else if i = 1 then w2.heap.size + 1 else w3.heap.size + 1, rfl, rfl, rfl⟩
  obtain ⟨ch, hc0, hc1, hc2⟩ : ∃ g : Nat → Nat, g 0 = w1.heap.size ∧ g 1 = w2.heap.size ∧ g 2 = w3.heap.size := ⟨fun i => if i = 0 then w1.heap.size else if i = 1 then w2.heap.size else w3.heap.size, rfl, rfl, rfl⟩
  have hq : QS w4 g ch room (fun _ => []) (fun _ => false) := three (by rw [hg0, hc0]; exact (HQ2.out.below HB3.out).below HB4.out) (by rw [hg1, hc1]; exact HQ3.out.below HB4.out) (by rw [hg2, hc2]; exact HQ4.out)
  have s1 := HQ2.out.lt; have s2 := HQ3.out.lt; have s3 := HQ4.out.lt; have s4 := HB1.out.size; have s5 := HB2.out.size; have s6 := HB3.out.size
  have hD : Dst w.heap.size g ch := by
    refine ⟨fun i j hi hj hij => ?_, fun i j hi hj hij => ?_, three ?_ ?_ ?_, three ?_ ?_ ?_⟩
    · have h1 : i = 0 ∨ i = 1 ∨ i = 2 := by omega
      have h2 : j = 0 ∨ j = 1 ∨ j = 2 := by omega
      rcases h1 with rfl | rfl | rfl <;> rcases h2 with rfl | rfl | rfl <;> omega
    · have h1 : i = 0 ∨ i = 1 ∨ i = 2 := by omega
      have h2 : j = 0 ∨ j = 1 ∨ j = 2 := by omega
      rcases h1 with rfl | rfl | rfl <;> rcases h2 with rfl | rfl | rfl <;> omega
    all_goals omega
  have hBw : Below w.heap.size w w4 := below_then HB1.out HB1.out.size (below_add HB2.out (below_add HB3.out HB4.out))
  rw [← hg0, ← hg1, ← hg2]
  have HQ := Lib.hid hq; have HD := Lib.hid hD; have HBw := Lib.hid hBw
  clear hq hD hBw hg0 hg1 hg2 hc0 hc1 hc2 HQ2 HQ3 HQ4 HB1 HB2 HB3 HB4 s1 s2 s3 s4 s5 s6
  go_wp2_with fail
  obtain ⟨W0, hW0⟩ : ∃ W, W = ((w4.alloc (.cells #[.pointer (some ⟨g 0, 0, none⟩), .pointer (some ⟨g 1, 0, none⟩), .pointer (some ⟨g 2, 0, none⟩)] 24)).alloc (.cells #[.slice none 0 0, .slice none 0 0, .slice none 0 0] 42)).alloc (.cells #[.bool false, .bool false, .bool false] 43) := ⟨_, rfl⟩
  have hb0 : Below w4.heap.size w4 W0 := by rw [hW0]; exact (((Below.refl _ w4).alloc (Nat.le_refl _) _).alloc (by simp) _).alloc (by simp; omega) _
  have hst : Stt w W0 w4.heap.size (w4.heap.size + 1) (w4.heap.size + 2) g ch room (fun _ => []) (fun _ => false) := by
    refine ⟨HQ.out.below hb0, ⟨fun _ => .slice none 0 0, ?_, fun q _ => StrV.nil _⟩, ?_, ?_, fun i _ => ⟨by simp, by simp⟩, below_then HBw.out HBw.out.size hb0⟩
    · rw [hW0]; exact heap_old (heap_new _ _ _ (by simp))
    · rw [hW0]; exact heap_new _ _ _ (by simp)
    · rw [hW0]; exact heap_old (heap_old (heap_new _ _ _ rfl))
  rw [← hW0]
  have hgb : w.heap.size ≤ w4.heap.size := HBw.out.size
  have hgw : w.heap.size ≤ w4.heap.size + 1 := by omega
  have hgc : w.heap.size ≤ w4.heap.size + 2 := by omega
  generalize w4.heap.size + 2 = gc at hst hgc ⊢
  generalize w4.heap.size + 1 = gw at hst hgw ⊢
  generalize w4.heap.size = gq at hst hgb ⊢
  have HSt := Lib.hid hst
  clear hst hb0 hW0 HQ HBw
  cases A with
  | none =>
    have hn0 : n = 0 := by
      have hnn := HN.out
      by_cases h : 0 < acts.length
      · obtain ⟨a, h1, _⟩ := hA h
        cases h1
      · omega
    subst hn0
    go_loopw [14] (fun i wr => i = .int .i64 0 ∧ ∃ ls cl, Stt w wr gq gw gc g ch room ls cl) (fun i _ => 0)
    case atStart => exact ⟨rfl, _, _, HSt.out⟩
    case round =>
      obtain ⟨rfl, ls, cl, hst⟩ := hrel
      have HB := Lib.hid hst.b
      clear hst
      go_wp2
      go_ret
      exact ⟨rfl, HB.out⟩
  | some A =>
    refine wp_loop (QI w A c n room gq gw gc g ch) (qpMu n) ?_ ?_
    · refine ⟨rfl, rfl, 0, _, _, ?_, by omega, HSt.out⟩
      unfold qpN
      simp only [List.forall_mem_cons, List.not_mem_nil, false_implies, implies_true, and_true]
      exact ⟨rfl, rfl, rfl, rfl, rfl, rfl, rfl, rfl, rfl⟩
    · intro a' w' hI
      refine qp_round w A c n room gq gw gc g ch acts hA HN.out HD.out hgw hgc hn80 hc hr2 _ ?_ ?_ a' w' hI
      · intro a1 w1 h4 hd hb
        (try simp only [Exit.inBlock, Exit.then])
        refine bodyPost_ret_by (by rw [results_tmp1 rfl, h4]) hd ?_
        exact ⟨rfl, hb⟩
      · intro a1 W hI1
        rename ∀ (a : Act) (w : World), _ → _ => hKK
        obtain ⟨hd, hsz, k, ls, cl, hnm, hkn, hst⟩ := hI1
        obtain ⟨tm, df⟩ := a1
        simp only at hd hsz hnm
        subst hd
        have he := frame_eq (qpN room n c gq gw gc A g k) tm 386 hsz hnm
        generalize (fun i => tm.getD i undef) = f at he
        rw [frame_lit] at he
        subst he
        have HB := Lib.hid hst.b
        clear hsz hnm hst hI
        (try simp only [Exit.inBlock, Exit.then])
        refine hKK _ _ ?_
        go_wp2
        go_ret
        exact ⟨rfl, HB.out⟩
set_option maxRecDepth 20000 in
theorem QueuePlays_walk (room : Int) (A : Option Addr) (c : Nat) (acts : List (Int × Int × Int × ByteArray × Unit)) (w : World) (w1 : (Lit.int .i64 room).wf = true) (hr : Row KAct 4 w A acts) (hc : acts.length ≤ c) (hl : acts.length * 40 ≤ 140737488351232) :
    Calls Try.prog 7 #[.int .i64 room, .slice A acts.length c] w fun e w' => e = .returned (.bool true) ∧ Below w.heap.size w w' := by
  by_cases hroom : room < 1 ∨ 64 < room
  · clear hr w1
    generalize acts.length = n at *
    go_enter Try.func7, Try.ntmps7
    go_wp2_with fail
    refine (awake2_any _).mono ?_
    rintro e w1 ⟨rfl, hb1⟩
    have HB1 := Lib.hid hb1
    clear hb1
    go_wp2_with fail
    refine (new_bad w1 room hroom).mono ?_
    rintro e w2 ⟨rfl, hb2⟩
    have HB2 := Lib.hid (below_then HB1.out HB1.out.size hb2)
    clear hb2 HB1
    by_cases h1 : room < 1
    · clear hroom
      go_wp2
      go_ret
      exact ⟨rfl, HB2.out⟩
    · have h2 : 64 < room := by omega
      clear hroom
      go_wp2
      go_ret
      exact ⟨rfl, HB2.out⟩
  · obtain ⟨rm, rfl⟩ := Int.eq_ofNat_of_zero_le (show 0 ≤ room by omega)
    have hr1 : 1 ≤ rm := by omega
    have hr2 : rm ≤ 64 := by omega
    by_cases h80 : acts.length ≤ 80
    · exact QueuePlays_ok A c acts rm w hr hc h80 hr1 hr2
    · clear hr w1 hroom
      generalize acts.length = n at *
      have h80i : (80 : Int) < n := by omega
      go_enter Try.func7, Try.ntmps7
      go_wp2_with fail
      refine (awake2_any _).mono ?_
      rintro e w1 ⟨rfl, hb1⟩
      have HB1 := Lib.hid hb1
      clear hb1
      go_wp2_with fail
      refine (new_any w1 rm hr1 hr2).mono ?_
      rintro e w2 ⟨rfl, -, hb2⟩
      have HB2 := Lib.hid (below_then HB1.out HB1.out.size hb2)
      clear hb2 HB1
      go_wp2_with fail
      refine (new_any w2 rm hr1 hr2).mono ?_
      rintro e w3 ⟨rfl, -, hb3⟩
      have HB3 := Lib.hid (below_then HB2.out HB2.out.size hb3)
      clear hb3 HB2
      go_wp2_with fail
      refine (new_any w3 rm hr1 hr2).mono ?_
      rintro e w4 ⟨rfl, -, hb4⟩
      have HB4 := Lib.hid (below_then HB3.out HB3.out.size hb4)
      clear hb4 HB3
      go_wp2_with fail
      go_ret
      exact ⟨rfl, HB4.out⟩
end Go.Proofs.Ythecekkophbceaa
