/- QueueOrder: the walk of the law. -/
import Derived.Test.YthecekkophbceaaQReady
namespace Go.Proofs.Ythecekkophbceaa
open Go.RowKit Go.Conc
set_option linter.unusedVariables false
set_option linter.unusedSimpArgs false
attribute [local irreducible] wpR relOp
theorem Qu.lt {w : World} {g ch cap : Nat} {ls : List (List UInt8)} {closed : Bool} (h : Qu w g ch cap ls closed) : g < w.heap.size ∧ ch < w.heap.size := by
  obtain ⟨b, s, r, h2, _⟩ := h.buf
  exact ⟨(Array.getElem?_eq_some_iff.1 h.st).1, (Array.getElem?_eq_some_iff.1 h2).1⟩
theorem Qu.gc {w : World} {g1 ch1 cap1 g2 ch2 cap2 : Nat} {ls1 ls2 : List (List UInt8)} {cl1 cl2 : Bool} (h1 : Qu w g1 ch1 cap1 ls1 cl1) (h2 : Qu w g2 ch2 cap2 ls2 cl2) : g1 ≠ ch2 := by
  intro e
  obtain ⟨b, s, r, h3, _⟩ := h2.buf
  have := h1.st
  rw [e, h3] at this
  injection this with this
  cases this
/-- another queue's change leaves this one -/
theorem Qu.other {w w1 : World} {g1 ch1 cap1 g2 ch2 cap2 : Nat} {ls1 ls2 : List (List UInt8)} {cl1 cl2 : Bool} (h1 : Qu w g1 ch1 cap1 ls1 cl1) (h2 : Qu w g2 ch2 cap2 ls2 cl2) (hne : ch1 ≠ ch2) (hc : Chg (· = ch2) w w1) : Qu w1 g1 ch1 cap1 ls1 cl1 :=
  h1.chg hc (h1.gc h2) hne h2.not8c
theorem two_ptrs (w : World) (g1 g2 : Nat) : Rdp (w.alloc (.cells #[.pointer (some ⟨g1, 0, none⟩), .pointer (some ⟨g2, 0, none⟩)] 24)) (some ⟨w.heap.size, 0, none⟩) [some g1, some g2] := by
  intro _
  refine ⟨_, rfl, fun j hj => ?_⟩
  have ha : (⟨w.heap.size, 0, none⟩ : Addr).add j = ⟨w.heap.size, j, none⟩ := by unfold Addr.add; split <;> simp_all
  rw [ha, cell_of_row _ w.heap.size j _ _ _ (heap_new w _ _ rfl)]
  have : j = 0 ∨ j = 1 := by simp at hj; omega
  rcases this with rfl | rfl <;> rfl
set_option maxRecDepth 20000 in
set_option maxHeartbeats 1000000 in
theorem QueueOrder_ok (A : Option Addr) (c : Nat) (ss : List ByteArray) (st : Nat) (w : World) (hr : Rds w A ss) (hsz : ∀ j, (h : j < ss.length) → ss[j].size ≤ 140737488351232) (hc : ss.length ≤ c) (hn50 : ss.length ≤ 50) (hs1 : 1 ≤ st) (hs10 : st ≤ 10) :
    Calls Try.prog 5 #[.slice A ss.length c, .int .i64 st] w fun e w' => e = .returned (.bool true) ∧ Below w.heap.size w w' := by
  obtain ⟨n, hnn⟩ : ∃ n, n = ss.length := ⟨_, rfl⟩
  rw [← hnn] at hc hn50 ⊢
  have HN := Lib.hid hnn
  have hst0 : ((st : Int) == 0) = false := by rw [beq_eq_false_iff_ne]; omega
  have hst1 : ¬ (st : Int) = 0 := by omega
  have hst2 : ¬ st = 0 := by omega
  clear hnn
  go_enter Try.func5, Try.ntmps5
  go_wp2_with fail
  refine (awake2_any _).mono ?_
  rintro e w1 ⟨rfl, hb1⟩
  have HB1 := Lib.hid hb1
  clear hb1
  go_wp2_with fail
  refine (new_any w1 64 (by decide) (by decide)).mono ?_
  rintro e w2 ⟨rfl, hq2, hb2⟩
  have HB2 := Lib.hid (below_then HB1.out HB1.out.size hb2)
  have HQ2 := Lib.hid hq2
  obtain ⟨g, hg⟩ : ∃ g, g = w1.heap.size + 1 := ⟨_, rfl⟩
  obtain ⟨ch, hch⟩ : ∃ g, g = w1.heap.size := ⟨_, rfl⟩
  have hch0 : w.heap.size ≤ ch := by have := HB1.out.size; omega
  rw [← hg, ← hch] at HQ2
  rw [← hg]
  clear hb2 hq2 hg hch
  go_wp2_with fail
  refine (new_any w2 64 (by decide) (by decide)).mono ?_
  rintro e w3 ⟨rfl, hq3, hb3⟩
  have HB3 := Lib.hid (below_then HB2.out HB2.out.size hb3)
  have HQ3a := Lib.hid (HQ2.out.below hb3)
  have HQ3 := Lib.hid hq3
  obtain ⟨g2, hg⟩ : ∃ g, g = w2.heap.size + 1 := ⟨_, rfl⟩
  obtain ⟨ch2, hch⟩ : ∃ g, g = w2.heap.size := ⟨_, rfl⟩
  have hch20 : w.heap.size ≤ ch2 := by have := HB2.out.size; omega
  have hgg : g ≠ g2 := by have := HQ2.out.lt; omega
  have hcc : ch ≠ ch2 := by have := HQ2.out.lt; omega
  rw [← hg, ← hch] at HQ3
  rw [← hg]
  clear hb3 hq3 hg hch
  go_wp2_with fail
  go_loopw [10] (fun i wr => ∃ k m : Nat, k ≤ n ∧ m ≤ k ∧ i = .int .i64 k ∧ Qu wr g ch 64 (((bys ss).take k).drop m) false ∧ Qu wr g2 ch2 64 ((bys ss).take m) false ∧ Below w.heap.size w wr) (fun i _ => n - (intOf i).toNat)
  case atStart => exact ⟨0, 0, by omega, by omega, rfl, HQ3a.out, HQ3.out, HB3.out⟩
  case round =>
    obtain ⟨k, m, hk, hmk, rfl, hq, hq', hb⟩ := hrel
    have hbl := bys_length ss
    rw [← HN.out] at hbl
    by_cases hlt : k < n
    · obtain ⟨a, rfl, hcell⟩ := hr.at_ k (by rw [← HN.out]; exact hlt)
      have hs1 := hsz k (by rw [← HN.out]; exact hlt)
      have hts := bys_take_succ ss k (by rw [← HN.out]; exact hlt)
      generalize ss[k]'(by rw [← HN.out]; exact hlt) = s at hcell hs1 hts
      have hcell1 := cell_below hb hcell
      obtain ⟨cs, W, hconv, hrd, hbW, _⟩ := str_bytes wr s hs1
      have hlenA : (((bys ss).take k).drop m).length = k - m := by rw [List.length_drop, List.length_take]; omega
      have hput := put_any W g ch 64 (((bys ss).take k).drop m) false (hq.below hbW) _ cs s.data.toList hrd (by simpa using hs1)
      have e1 : ((bys ss).take k).drop m ++ [s.data.toList] = ((bys ss).take (k + 1)).drop m := by
        rw [hts, List.drop_append_of_le_length (by rw [List.length_take]; omega)]
      rw [show may 64 (((bys ss).take k).drop m) false = true by simp only [may, hlenA]; simp; omega, if_pos rfl, e1] at hput
      have hbb := below_then hb hb.size hbW
      rw [show s.data.toList.length = s.size by simp] at hput
      have HPut := Lib.hid hput; have HB := Lib.hid hbb; have HQW := Lib.hid (hq.below hbW); have HQW' := Lib.hid (hq'.below hbW)
      have hmlt : m < ss.length := by rw [← HN.out]; omega
      have hx := hsz m hmlt
      have e2 : ((bys ss).take (k + 1)).drop m = ss[m].data.toList :: ((bys ss).take (k + 1)).drop (m + 1) := by
        rw [List.drop_eq_getElem_cons (by rw [List.length_take]; omega)]
        simp [bys]
      have e3 := bys_take_succ ss m hmlt
      generalize ss[m]'hmlt = x at hx e2 e3
      have HE2 := Lib.hid e2; have HE3 := Lib.hid e3; have HX := Lib.hid hx; have HBl := Lib.hid hbl
      clear hput hbb hcell hs1 hts hq hq' hb hrd hbW hlenA e1 e2 e3 hx hbl
      go_wp2_with fail
      refine HPut.out.mono ?_
      rintro e w4 ⟨rfl, hq3, hc3⟩
      have HQ4 := Lib.hid hq3; have HB4 := Lib.hid (Chg.below HB.out hc3 HB.out.size (fun k hk => by omega))
      have HQ4' := Lib.hid (HQW'.out.other HQW.out (fun e => hcc e.symm) hc3)
      clear hq3 hc3 hcell1 hconv
      by_cases hz : (k : Int).tmod (st : Int) = 0
      · have hz1 : ((k : Int).tmod (st : Int) == 0) = true := by rw [hz]; rfl
        have hz2 : (k : Int) % (st : Int) = 0 := by rw [← hz, Int.tmod_eq_emod_of_nonneg (by omega)]
        have hz3 : k % st = 0 := by omega
        have hq4 := HQ4.out
        rw [HE2.out] at hq4
        have hl1 : (((bys ss).take (k + 1)).drop (m + 1)).length = k - m := by rw [List.length_drop, List.length_take, HBl.out]; omega
        have hl2 : ((bys ss).take m).length = m := by rw [List.length_take, HBl.out]; omega
        have hmv := move_yes w4 g ch 64 g2 ch2 64 _ _ x.data.toList _ _ false hq4 HQ4'.out hgg rfl rfl (by rw [hl2]; omega) hcc (by simpa using HX.out)
        rw [← HE3.out] at hmv
        have HMv := Lib.hid hmv
        clear hmv hq4 hl1 hl2 hz
        go_wp2_with fail
        refine HMv.out.mono ?_
        rintro e w5 ⟨rfl, hq5, hq5', hc5⟩
        have HR := Lib.hid (And.intro hq5 (And.intro hq5' (Chg.below HB4.out hc5 HB4.out.size (fun k hk => by omega))))
        clear hq5 hq5' hc5 hz1 hz2 hz3
        go_wp2
        go_roundw
        case rel => exact ⟨k + 1, m + 1, by omega, by omega, by go_num, HR.out.1, HR.out.2.1, HR.out.2.2⟩
        case measure => simp [intOf]; omega
      · have hz1 : ((k : Int).tmod (st : Int) == 0) = false := by rw [beq_eq_false_iff_ne]; exact hz
        have hz2 : ¬ (k : Int) % (st : Int) = 0 := by rw [← Int.tmod_eq_emod_of_nonneg (by omega)]; exact hz
        have hz3 : ¬ k % st = 0 := by intro h; apply hz2; omega
        clear hz
        go_wp2
        go_roundw
        case rel => exact ⟨k + 1, m, by omega, by omega, by go_num, HQ4.out, HQ4'.out, HB4.out⟩
        case measure => simp [intOf]; omega
    · obtain rfl : k = n := by omega
      rw [show (bys ss).take k = bys ss from List.take_of_length_le (by rw [hbl]; exact Nat.le_refl _)] at hq
      have HQ := Lib.hid hq; have HQ' := Lib.hid hq'; have HB := Lib.hid hb; have HBl := Lib.hid hbl
      clear hq hq' hb hbl
      go_wp2_with fail
      go_loopw [9] (fun i wr => ∃ j : Nat, j ≤ k ∧ i = .int .i64 j ∧ Qu wr g ch 64 ((bys ss).drop (max m j)) false ∧ Qu wr g2 ch2 64 (((bys ss).take m).drop j) false ∧ Below w.heap.size w wr) (fun i _ => k - (intOf i).toNat)
      case atStart => exact ⟨0, by omega, rfl, by rw [Nat.max_eq_left (Nat.zero_le m)]; exact HQ.out, by rw [List.drop_zero]; exact HQ'.out, HB.out⟩
      case round =>
        obtain ⟨j, hj, rfl, hq, hq', hb⟩ := hrel
        have hb2 : Below wr.heap.size wr (wr.alloc (.cells #[.pointer (some ⟨g2, 0, none⟩), .pointer (some ⟨g, 0, none⟩)] 24)) := (Below.refl _ _).alloc (Nat.le_refl _) _
        by_cases hlt : j < k
        · obtain ⟨a, rfl, hcell⟩ := hr.at_ j (by rw [← HN.out]; exact hlt)
          have hdr := bys_drop ss j (by rw [← HN.out]; exact hlt)
          have hjl : j < (bys ss).length := by rw [HBl.out]; exact hlt
          have htd : j < m → ((bys ss).take m).drop j = (ss[j]'(by rw [← HN.out]; exact hlt)).data.toList :: ((bys ss).take m).drop (j + 1) := fun h => by
            rw [List.drop_eq_getElem_cons (by rw [List.length_take]; omega)]
            simp [bys]
          have hte : ¬ j < m → ((bys ss).take m).drop j = [] := fun h => List.drop_eq_nil_of_le (by rw [List.length_take]; omega)
          generalize ss[j]'(by rw [← HN.out]; exact hlt) = s at hcell hdr htd
          -- whichever queue gives it: the first that has one
          have hready : ∃ i, i ≤ 1 ∧ Calls Try.prog 16 #[.slice (some ⟨wr.heap.size, 0, none⟩) 2 2] (wr.alloc (.cells #[.pointer (some ⟨g2, 0, none⟩), .pointer (some ⟨g, 0, none⟩)] 24)) fun e w' => ∃ v, e = .returned (.tuple #[.int .i64 (i : Nat), v, .bool true]) ∧ Sl w' v s.data.toList ∧ Qu w' g ch 64 ((bys ss).drop (max m (j + 1))) false ∧ Qu w' g2 ch2 64 (((bys ss).take m).drop (j + 1)) false ∧ Below w.heap.size w w' := by
            by_cases hjm : j < m
            · rw [htd hjm] at hq'
              refine ⟨0, by omega, (ready_hit _ _ 2 [some g2, some g] 0 g2 ch2 64 _ _ false (two_ptrs wr g2 g) (by simp) (by simp) (by simp) rfl (hq'.below hb2) (fun i hi => by omega)).mono ?_⟩
              rintro e w' ⟨v, rfl, h1, h2, h3⟩
              refine ⟨v, rfl, h1, ?_, h2, Chg.below (below_then hb hb.size hb2) h3 (Nat.le_trans hb.size hb2.size) (fun k hk => by omega)⟩
              rw [show max m (j + 1) = max m j by omega]
              exact (hq.below hb2).other (hq'.below hb2) hcc h3
            · rw [hte hjm] at hq'
              rw [show max m j = j by omega, hdr] at hq
              refine ⟨1, by omega, (ready_hit _ _ 2 [some g2, some g] 1 g ch 64 _ _ false (two_ptrs wr g2 g) (by simp) (by simp) (by simp) rfl (hq.below hb2) (fun i hi => ?_)).mono ?_⟩
              · obtain rfl : i = 0 := by omega
                intro g' e
                injection e with e
                subst e
                exact ⟨_, _, _, hq'.below hb2⟩
              rintro e w' ⟨v, rfl, h1, h2, h3⟩
              refine ⟨v, rfl, h1, ?_, ?_, Chg.below (below_then hb hb.size hb2) h3 (Nat.le_trans hb.size hb2.size) (fun k hk => by omega)⟩
              · rw [show max m (j + 1) = j + 1 by omega]
                exact h2
              · rw [show ((bys ss).take m).drop (j + 1) = [] from List.drop_eq_nil_of_le (by rw [List.length_take]; omega)]
                exact (hq'.below hb2).other (hq.below hb2) (fun e => hcc e.symm) h3
          obtain ⟨ix, hix, hready⟩ := hready
          have HReady := Lib.hid hready; have HL1 := Lib.hid hcell
          have hix2 : decide (1 < (ix : Int)) = false := decide_eq_false (by omega)
          have hix3 : decide (1 < ix) = false := decide_eq_false (by omega)
          clear hq hq' hb hcell hdr htd hte hready hb2 hjl
          go_wp2_with fail
          refine HReady.out.mono ?_
          rintro e w7 ⟨v3, rfl, hs3, hq3, hq3', hb3⟩
          obtain ⟨A3, c3, rfl, _, hr3⟩ := hs3.rd
          obtain ⟨q, hq'⟩ : ∃ q, q = s.data.toList.length := ⟨_, rfl⟩
          rw [← hq']
          have HC : Hid (∀ W, Gr w7.heap.size w7.drew W → W.cell? (a.add j) = some (.string s) ∧ (convert 28 9 (.slice A3 q c3)).run Try.prog W = .ok (.string s) W) := Lib.hid fun W hW => by
            have h := gr_below hW
            have h0 := below_then hb3 hb3.size h
            exact ⟨cell_below h0 HL1.out, (hr3.below h).str2 _ _ hq'.symm⟩
          have HQ3 := Lib.hid hq3; have HQ3' := Lib.hid hq3'; have HB3 := Lib.hid hb3
          clear hs3 hq3 hq3' hr3 hb3 hq'
          go_wp2_with fail
          refine wp_region_tbl _ (fun _ => none) (w7.heap.size) (by kernel_rfl) (by kernel_rfl) (by kernel_rfl) ?_
          repeat (first
            | (refine wpR_plain ?_ (by rfl) (fun K hK => ?_); (focus (first | (simp only [Region.wanted]; done) | (go_simp; done))); apply Exists.intro; refine ⟨fun W hW => ?_, ?_⟩; (go_simp; (try simp only [plainUpon_value, true_and]); rfl); go_simp; refine hK _ ?_; clear hK K)
            | (refine wpR_plain ?_ (by rfl) (fun K hK => ?_); (focus (first | (simp only [Region.wanted]; done) | (go_simp; done))); apply Exists.intro; refine ⟨fun W hW => ?_, ?_⟩; (have hcw := HC.out W hW; go_simp; (try simp only [plainUpon_value, true_and]); rfl); go_simp; refine hK _ ?_; clear hK K)
            | (refine wpR_skip ?_ (fun K hK => ?_); (focus (first | (simp only [Region.wanted]; done) | (go_simp; done))); go_simp; refine hK _ ?_; clear hK K))
          refine wpR_nil (fun W hW hF => ?_)
          have hbW := gr_below hW
          have HR := Lib.hid (And.intro (HQ3.out.below hbW) (And.intro (HQ3'.out.below hbW) (below_then HB3.out HB3.out.size hbW)))
          clear hF hW hbW hix2 hix3
          go_wp2
          go_roundw
          case rel => exact ⟨j + 1, by omega, by go_num, HR.out.1, HR.out.2.1, HR.out.2.2⟩
          case measure => simp [intOf]; omega
        · obtain rfl : j = k := by omega
          have hb3 : Below wr.heap.size wr (wr.alloc (.cells #[.pointer (some ⟨g, 0, none⟩), .pointer (some ⟨g2, 0, none⟩)] 24)) := (Below.refl _ _).alloc (Nat.le_refl _) _
          rw [show (bys ss).drop (max m j) = [] from List.drop_eq_nil_of_le (by rw [HBl.out]; omega)] at hq
          rw [show ((bys ss).take m).drop j = [] from List.drop_eq_nil_of_le (by rw [List.length_take, HBl.out]; omega)] at hq'
          have hrn := ready_none _ _ 2 [some g, some g2] (two_ptrs wr g g2) (by simp) (by simp) (fun i hi => by
            have : i = 0 ∨ i = 1 := by simp at hi; omega
            rcases this with rfl | rfl
            · intro g' e; injection e with e; subst e; exact ⟨_, _, _, hq.below hb3⟩
            · intro g' e; injection e with e; subst e; exact ⟨_, _, _, hq'.below hb3⟩)
          have HBW := Lib.hid (below_then hb hb.size hb3)
          clear hq hq' hb hb2 hb3
          go_wp2_with fail
          refine Calls.mono hrn ?_
          rintro e w8 ⟨rfl, rfl⟩
          go_wp2
          go_ret
          exact ⟨rfl, HBW.out⟩
set_option maxRecDepth 20000 in
theorem QueueOrder_walk (A : Option Addr) (c : Nat) (ss : List ByteArray) (a1 : Int) (w : World) (hr : Row KStr 1 w A ss) (hc : ss.length ≤ c) (hl : ss.length * 16 ≤ 140737488351232) (w1 : (Lit.int .i64 a1).wf = true) :
    Calls Try.prog 5 #[.slice A ss.length c, .int .i64 a1] w fun e w' => e = .returned (.bool true) ∧ Below w.heap.size w w' := by
  by_cases h : ss.length ≤ 50 ∧ 1 ≤ a1 ∧ a1 ≤ 10
  · obtain ⟨h0, h3, h4⟩ := h
    obtain ⟨h1, h2⟩ := Rds.of_row hr
    obtain ⟨st, rfl⟩ := Int.eq_ofNat_of_zero_le (show 0 ≤ a1 by omega)
    exact QueueOrder_ok A c ss st w h1 h2 hc h0 (by omega) (by omega)
  · clear hr w1
    generalize ss.length = n at *
    by_cases h1 : 50 < n
    ·
      clear h
      go_enter Try.func5, Try.ntmps5
      go_wp2_with fail
      refine (awake2_any _).mono ?_
      rintro e w1 ⟨rfl, hb1⟩
      have HB1 := Lib.hid hb1
      clear hb1
      go_wp2_with fail
      go_ret
      exact ⟨rfl, HB1.out⟩
    · by_cases h2 : a1 < 1
      ·
        clear h
        go_enter Try.func5, Try.ntmps5
        go_wp2_with fail
        refine (awake2_any _).mono ?_
        rintro e w1 ⟨rfl, hb1⟩
        have HB1 := Lib.hid hb1
        clear hb1
        go_wp2_with fail
        go_ret
        exact ⟨rfl, HB1.out⟩
      · have h3 : 10 < a1 := by omega
        clear h
        go_enter Try.func5, Try.ntmps5
        go_wp2_with fail
        refine (awake2_any _).mono ?_
        rintro e w1 ⟨rfl, hb1⟩
        have HB1 := Lib.hid hb1
        clear hb1
        go_wp2_with fail
        go_ret
        exact ⟨rfl, HB1.out⟩
end Go.Proofs.Ythecekkophbceaa
