/- Pairs alike. -/
import Derived.Test.YtgaccogekmaijaaKvRg0
import Derived.Test.YtgaccogekmaijaaKvRange
namespace Go.Proofs.Ytgaccogekmaijaa
open Go.RowKit Go.Maps
set_option linter.unusedVariables false
set_option linter.unusedSimpArgs false
attribute [local irreducible] wpR relOp Stu.wpR Stu.relOp
theorem all_eq_take {α : Type} {a b : List α} {n : Nat} (ha : a.length = n) (hb : b.length = n) (h : a.take n = b.take n) : a = b := by
  rw [List.take_of_length_le (by omega), List.take_of_length_le (by omega)] at h
  exact h
set_option maxRecDepth 20000 in
set_option maxHeartbeats 2000000 in
theorem kv_pairs (w : World) (b0 b1 : Nat) (va vb : Value) (La Lb : List KvMath.Ent) (ha : Recs w b0 34 va La) (hb : w.ownsRow b1 82 2 vb Lb.length (pvl Lb)) (hl : La.length ≤ 100000) (hl2 : Lb.length ≤ 100000) :
    Calls Try.prog 23 #[va, vb] w fun e w' => e = .returned (.bool (decide (La = Lb))) ∧ Below w.heap.size w w' := by
  obtain ⟨A, c, rfl, hc, hrow⟩ := ha.rd
  obtain ⟨A2, c2, rfl, hc2, hrow2⟩ := prow_of hb
  obtain ⟨n, hn⟩ : ∃ n, n = La.length := ⟨_, rfl⟩
  obtain ⟨n2, hn2⟩ : ∃ n2, n2 = Lb.length := ⟨_, rfl⟩
  rw [← hn] at hc hl ⊢
  rw [← hn2] at hc2 hl2 ⊢
  have HN := Lib.hid hn; have HN2 := Lib.hid hn2; have HR := Lib.hid hrow; have HR2 := Lib.hid hrow2
  clear hn hn2 hrow hrow2 ha hb
  by_cases hnn : n = n2
  · subst hnn
    go_enter Try.func23, Try.ntmps23
    go_wp2_with fail
    go_loopw [5] (fun i wr => ∃ p : Nat, p ≤ n ∧ i = .int .i64 p ∧ La.take p = Lb.take p ∧ Below w.heap.size w wr) (fun i _ => n - (intOf i).toNat)
    case atStart => exact ⟨0, by omega, rfl, rfl, Below.refl _ _⟩
    case round =>
      rename World => wL
      obtain ⟨p, hp, rfl, heq, hbw⟩ := hrel
      by_cases hlt : p < n
      · have hltI : (p : Int) < n := by omega
        have h1 : p < La.length := by rw [← HN.out]; exact hlt
        have h2 : p < Lb.length := by rw [← HN2.out]; exact hlt
        obtain ⟨g, vv, rfl, x0, x1, hs⟩ := HR.out p h1
        obtain ⟨g2, rfl, hr2⟩ := HR2.out (by omega)
        obtain ⟨y0, y1⟩ := hr2 p h2
        have hsu1 : La.take (p + 1) = La.take p ++ [La[p]] := by rw [List.take_add_one, List.getElem?_eq_getElem h1]; rfl
        have hsu2 : Lb.take (p + 1) = Lb.take p ++ [Lb[p]] := by rw [List.take_add_one, List.getElem?_eq_getElem h2]; rfl
        have hne : La[p] ≠ Lb[p] → La ≠ Lb := fun h e => by subst e; exact h rfl
        obtain ⟨Av, cv, rfl, hcv, hrv⟩ := hs.rd
        generalize La[p] = ea at *
        generalize Lb[p] = eb at *
        obtain ⟨ka, la⟩ := ea
        obtain ⟨kb, lb⟩ := eb
        dsimp only at *
        obtain ⟨nv, hnv⟩ : ∃ nv, nv = la.length := ⟨_, rfl⟩
        rw [← hnv] at x1 hcv
        obtain ⟨za, hza⟩ : ∃ za : ByteArray, za = ⟨la.toArray⟩ := ⟨_, rfl⟩
        obtain ⟨zb, hzb⟩ : ∃ zb : ByteArray, zb = vS (kb, lb) := ⟨_, rfl⟩
        rw [← hzb] at y1
        have hzz : za = zb ↔ la = lb := by
          rw [hza, hzb]
          unfold vS
          constructor
          · intro h
            injection h with h
            injection h
          · intro h; rw [h]
        have hwp : IntKind.i64.wrap ((p : Int) + 1) = ((p + 1 : Nat) : Int) := by rw [IntKind.wrap_i64]; omega
        have hBW : ∀ W, Gr wL.heap.size wL.drew W → Below w.heap.size w W := fun W hW => hbw.trans ((Below.drew (Below.refl _ wL)).mono hbw.size |>.trans (hW.1.mono hbw.size))
        have HBW := Lib.hid hBW
        have HC : Hid (∀ W, Gr wL.heap.size wL.drew W → W.cell? ⟨g, p * 2, none⟩ = some (.string ka) ∧ W.cell? ⟨g, p * 2 + 1, none⟩ = some (.slice Av nv cv) ∧ W.cell? ⟨g2, p * 2, none⟩ = some (.string kb) ∧ W.cell? ⟨g2, p * 2 + 1, none⟩ = some (.string zb)) := Lib.hid fun W hW => ⟨cell_below (hBW W hW) x0, cell_below (hBW W hW) x1, cell_below (hBW W hW) y0, cell_below (hBW W hW) y1⟩
        have HV : Hid (∀ W, Gr wL.heap.size wL.drew W → (convert 32 9 (.slice Av nv cv)).run Try.prog W = .ok (.string za) W) := Lib.hid fun W hW => by
          rw [hza]
          exact Rd.str (hrv.below (hBW W hW)) nv cv hnv.symm
        have HEQ := Lib.hid heq; have HS1 := Lib.hid hsu1; have HS2 := Lib.hid hsu2; have HNE := Lib.hid hne; have HZZ := Lib.hid hzz
        obtain ⟨b1', hb1'⟩ : ∃ b, (ka.toList == kb.toList) = b := ⟨_, rfl⟩
        obtain ⟨b2', hb2'⟩ : ∃ b, (za.toList == zb.toList) = b := ⟨_, rfl⟩
        have HB1 : Hid (b1' = decide (ka = kb)) := Lib.hid (by rw [← hb1', Bool.eq_iff_iff, beq_iff_eq, decide_eq_true_eq]; exact ⟨KvMath.ba_ext, fun e => by rw [e]⟩)
        have HB2 : Hid (b2' = decide (za = zb)) := Lib.hid (by rw [← hb2', Bool.eq_iff_iff, beq_iff_eq, decide_eq_true_eq]; exact ⟨KvMath.ba_ext, fun e => by rw [e]⟩)
        clear hBW x0 x1 y0 y1 hs hr2 hsu1 hsu2 hne hnv hza hzb hzz heq hrv hbw
        cases b1' with
        | false =>
          have HD : Hid (decide (La = Lb) = false) := Lib.hid (decide_eq_false (HNE.out (fun e => by
            injection e with e1 e2
            have := HB1.out
            rw [decide_eq_true e1] at this
            cases this)))
          go_wp2_with fail
          refine wp_region_tbl _ (fun _ => none) (wL.heap.size) (by kernel_rfl) (by kernel_rfl) (by kernel_rfl) ?_
          repeat (first | (refine wpR_plain ?_ (by rfl) (fun K hK => ?_); (focus (first | (simp only [Region.wanted]; done) | (go_simp; done))); apply Exists.intro; refine ⟨fun W hW => ?_, ?_⟩; (go_simp; (try simp only [plainUpon_value, true_and]); rfl); go_simp; refine hK _ ?_; clear hK K) | (refine wpR_plain ?_ (by rfl) (fun K hK => ?_); (focus (first | (simp only [Region.wanted]; done) | (go_simp; done))); apply Exists.intro; refine ⟨fun W hW => ?_, ?_⟩; (have hcw := HC.out W hW; go_simp; (try simp only [plainUpon_value, true_and]); rfl); go_simp; refine hK _ ?_; clear hK K) | (refine wpR_plain ?_ (by rfl) (fun K hK => ?_); (focus (first | (simp only [Region.wanted]; done) | (go_simp; done))); apply Exists.intro; refine ⟨fun W hW => ?_, ?_⟩; (have hcw := HV.out W hW; go_simp; (try simp only [plainUpon_value, true_and]); rfl); go_simp; refine hK _ ?_; clear hK K) | (refine wpR_skip ?_ (fun K hK => ?_); (focus (first | (simp only [Region.wanted]; done) | (go_simp; done) | (simp [Region.wanted, yielded, undef]; done) | (go_simp; simp [undef]; done) | (go_simp; decide) | rfl)); go_simp; refine hK _ ?_; clear hK K))
          refine wpR_nil (fun W hW hF => ?_)
          have HBd := Lib.hid (HBW.out W hW)
          clear hW hF HC HV HBW
          go_wp2
          go_ret
          exact ⟨by rw [HD.out]; rfl, HBd.out⟩
        | true =>
          go_wp2_with fail
          refine wp_region_tbl _ (fun _ => none) (wL.heap.size) (by kernel_rfl) (by kernel_rfl) (by kernel_rfl) ?_
          repeat (first | (refine wpR_plain ?_ (by rfl) (fun K hK => ?_); (focus (first | (simp only [Region.wanted]; done) | (go_simp; done))); apply Exists.intro; refine ⟨fun W hW => ?_, ?_⟩; (go_simp; (try simp only [plainUpon_value, true_and]); rfl); go_simp; refine hK _ ?_; clear hK K) | (refine wpR_plain ?_ (by rfl) (fun K hK => ?_); (focus (first | (simp only [Region.wanted]; done) | (go_simp; done))); apply Exists.intro; refine ⟨fun W hW => ?_, ?_⟩; (have hcw := HC.out W hW; go_simp; (try simp only [plainUpon_value, true_and]); rfl); go_simp; refine hK _ ?_; clear hK K) | (refine wpR_plain ?_ (by rfl) (fun K hK => ?_); (focus (first | (simp only [Region.wanted]; done) | (go_simp; done))); apply Exists.intro; refine ⟨fun W hW => ?_, ?_⟩; (have hcw := HV.out W hW; go_simp; (try simp only [plainUpon_value, true_and]); rfl); go_simp; refine hK _ ?_; clear hK K) | (refine wpR_skip ?_ (fun K hK => ?_); (focus (first | (simp only [Region.wanted]; done) | (go_simp; done) | (simp [Region.wanted, yielded, undef]; done) | (go_simp; simp [undef]; done) | (go_simp; decide) | rfl)); go_simp; refine hK _ ?_; clear hK K))
          refine wpR_nil (fun W hW hF => ?_)
          have HBd := Lib.hid (HBW.out W hW)
          clear hW hF HC HV HBW
          cases b2' with
          | false =>
            have HD : Hid (decide (La = Lb) = false) := Lib.hid (decide_eq_false (HNE.out (fun e => by
              injection e with e1 e2
              have := HB2.out
              rw [decide_eq_true (HZZ.out.2 e2)] at this
              cases this)))
            go_wp2
            go_ret
            exact ⟨by rw [HD.out]; rfl, HBd.out⟩
          | true =>
            have HNX : Hid (La.take (p + 1) = Lb.take (p + 1)) := Lib.hid (by
              rw [HS1.out, HS2.out, HEQ.out, of_decide_eq_true HB1.out.symm, HZZ.out.1 (of_decide_eq_true HB2.out.symm)])
            go_wp2
            go_roundw
            case rel => exact ⟨p + 1, by omega, by go_num, HNX.out, HBd.out⟩
            case measure => simp [intOf]; omega
      · have hltI : ¬ (p : Int) < n := by omega
        have HD : Hid (decide (La = Lb) = true) := Lib.hid (decide_eq_true (all_eq_take HN.out.symm HN2.out.symm (by rw [show p = n by omega] at heq; exact heq)))
        have HBd := Lib.hid hbw
        clear heq hbw
        go_wp2
        go_ret
        exact ⟨by rw [HD.out]; rfl, HBd.out⟩
  · have hnI : ¬ (n : Int) = n2 := by omega
    have HD : Hid (decide (La = Lb) = false) := Lib.hid (decide_eq_false (fun e => hnn (by rw [HN.out, HN2.out, e])))
    have hdd : ((n : Int) == (n2 : Int)) = false := by rw [beq_eq_false_iff_ne]; exact hnI
    go_enter Try.func23, Try.ntmps23
    go_wp2
    go_ret
    exact ⟨by rw [HD.out]; rfl, Below.refl _ _⟩
end Go.Proofs.Ytgaccogekmaijaa
