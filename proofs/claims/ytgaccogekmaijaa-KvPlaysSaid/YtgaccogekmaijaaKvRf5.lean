/- The document's own: Encode. -/
import Derived.Test.YtgaccogekmaijaaKvRf0
import Derived.Test.YtgaccogekmaijaaKvRf1
namespace Go.Proofs.Ytgaccogekmaijaa
open Go.RowKit
set_option linter.unusedVariables false
set_option linter.unusedSimpArgs false
attribute [local irreducible] wpR relOp Stu.wpR Stu.relOp
set_option maxRecDepth 20000 in
set_option maxHeartbeats 4000000 in
theorem ref_encode (w : World) (A : Option Addr) (c : Nat) (xs : List PutD) (hr : Row KPut 3 w A xs) (hl : xs.length ≤ c) (hn : xs.length ≤ 1000) :
    Calls Try.prog 20 #[.slice A xs.length c] w fun e w' => ∃ v, e = .returned v ∧ Ob w' w.heap.size 5 v (if xs.all PutD.good then KvMath.encB (xs.map PutD.ent) else []) ∧ Below w.heap.size w w' := by
  have hal := ref_may w A c xs hr hl (by omega)
  obtain ⟨n, hnn⟩ : ∃ n, n = xs.length := ⟨_, rfl⟩
  rw [← hnn] at hl hn hal ⊢
  have HN := Lib.hid hnn; have HR := Lib.hid hr
  have hal := Lib.hid hal
  clear hnn hr
  cases hg : xs.all PutD.good with
  | false =>
    rw [hg] at hal
    rw [if_neg (by decide)]
    clear hg
    go_enter Try.func20, Try.ntmps20
    go_wp2_with fail
    refine hal.out.mono ?_
    rintro e w1 ⟨rfl, hb⟩
    have HB := Lib.hid hb
    clear hb hal
    go_wp2
    go_ret
    exact ⟨_, rfl, Ob.nil _ _ _, HB.out⟩
  | true =>
    rw [hg] at hal
    rw [if_pos rfl]
    have HG := Lib.hid hg
    clear hg
    go_enter Try.func20, Try.ntmps20
    go_wp2_with fail
    refine hal.out.mono ?_
    rintro e w1 ⟨rfl, hb⟩
    have HB := Lib.hid hb
    clear hb hal
    go_wp2_with fail
    rename World => wA
    go_loopw [3, 4] (fun vb i wr => ∃ p : Nat, p ≤ n ∧ i = .int .i64 p ∧ Ob wr w.heap.size 5 vb (KvMath.encB ((xs.take p).map PutD.ent)) ∧ (KvMath.encB ((xs.take p).map PutD.ent) = [] → vb = .slice none 0 0) ∧ Below w.heap.size w wr) (fun _ i _ => n - (intOf i).toNat)
    case atStart => exact ⟨0, by omega, rfl, Ob.nil _ _ _, fun _ => rfl, HB.out⟩
    case round =>
      rename World => wL
      obtain ⟨p, hp, rfl, ho, hz, hb⟩ := hrel
      clear HB
      have hgood : ∀ x ∈ xs, x.key.size ≤ 200 ∧ x.val.length ≤ 200000 := fun x hx => by
        have := List.all_eq_true.1 HG.out x hx
        simp only [PutD.good, Bool.and_eq_true, decide_eq_true_eq] at this
        exact ⟨this.1.1.2, this.1.2⟩
      have hle := (KvMath.encB_len ((xs.take p).map PutD.ent) (fun y hy => by
        obtain ⟨x, hx, rfl⟩ := List.mem_map.1 hy
        exact hgood x (List.mem_of_mem_take hx))).2
      rw [List.length_map, List.length_take] at hle
      by_cases hlt : p < n
      · have hpx : p < xs.length := by rw [← HN.out]; exact hlt
        have hxg := hgood xs[p] (List.getElem_mem hpx)
        have hta : KvMath.encB ((xs.take (p + 1)).map PutD.ent) = KvMath.encB ((xs.take p).map PutD.ent) ++ KvMath.encP (xs[p].key, xs[p].val, xs[p].gone) := by
          rw [List.take_add_one, List.getElem?_eq_getElem hpx]
          simp only [Option.toList, List.map_append, List.map_cons, List.map_nil]
          rw [KvMath.encB_snoc]
          rfl
        obtain ⟨a, Aj, cj, rfl, c0, c1, c2, hcj, hrd, _⟩ := put_at HR.out p hpx
        generalize xs[p] = x at *
        generalize KvMath.encB ((xs.take p).map PutD.ent) = b at *
        obtain ⟨xk, xv, xg⟩ := x
        dsimp only at *
        obtain ⟨bl, hbl⟩ : ∃ bl, bl = b.length := ⟨_, rfl⟩
        obtain ⟨A0, c00, hvb, hc00, _⟩ := ho.rd
        rw [← hbl] at hvb hc00
        subst hvb
        obtain ⟨nv, hnv⟩ : ∃ nv, nv = xv.length := ⟨_, rfl⟩
        rw [← hnv] at c1 hcj
        have hks : xk.data.toList.length = xk.size := by rw [Array.length_toList]; rfl
        have hbl9 : bl ≤ 250000000 := by
          have : min p xs.length ≤ 1000 := by omega
          have := Nat.mul_le_mul_right 200300 this
          omega
        have HBL := Lib.hid hbl; have HNV := Lib.hid hnv; have HKS := Lib.hid hks; have HZ := Lib.hid hz; have HTA := Lib.hid hta
        have hwp : IntKind.i64.wrap ((p : Int) + 1) = ((p + 1 : Nat) : Int) := by rw [IntKind.wrap_i64]; omega
        have hBw : w.heap.size ≤ wL.heap.size := hb.size
        obtain ⟨k1, k2⟩ := hxg
        rw [← hnv] at k2
        have hwk : IntKind.u64.wrap (xk.size : Int) = (xk.size : Int) := wraps_u64' _ (by omega) (by omega)
        have hwv : IntKind.u64.wrap (nv : Int) = (nv : Int) := wraps_u64' _ (by omega) (by omega)
        have HC0 := Lib.hid c0; have HC1 := Lib.hid c1; have HC2 := Lib.hid c2
        have HRd : Hid (∀ W, Below w.heap.size w W → Rd W Aj xv) := Lib.hid fun W hW => hrd.below hW
        have HBd := Lib.hid hb
        have HO := Lib.hid ho
        clear ho hz hta hbl hnv hks hrd hle hgood hb hpx
        cases xg with
        | true =>
          obtain ⟨b1, hb1⟩ : ∃ b1, b1 = b ++ [0] := ⟨_, rfl⟩
          obtain ⟨b2, hb2⟩ : ∃ b2, b2 = b1 ++ KvMath.numB xk.size 2 := ⟨_, rfl⟩
          obtain ⟨b3, hb3⟩ : ∃ b3, b3 = b2 ++ xk.data.toList := ⟨_, rfl⟩
          have hl1 : b1.length = bl + 1 := by rw [hb1, List.length_append, ← HBL.out]; rfl
          have hl2 : b2.length = bl + 3 := by rw [hb2, List.length_append, hl1, KvMath.numB_len]
          have hl3 : b3.length = bl + 3 + xk.size := by rw [hb3, List.length_append, hl2, HKS.out]
          obtain ⟨W1, hW1⟩ : ∃ W1, W1 = wL.alloc (.cells #[.int .u8 (0)] 5) := ⟨_, rfl⟩
          have hbA : Below wL.heap.size wL W1 := by rw [hW1]; exact (Below.refl _ wL).alloc (Nat.le_refl _) _
          obtain ⟨v1, W2, hrun1, ho1, hts1⟩ := appb_run (m := 1) (c := 1) (HO.out.below hbA) HZ.out (Rd.of_block (l := [0]) (show W1.heap[wL.heap.size]? = _ by rw [hW1]; exact heap_new wL _ _ rfl) (by simp)) rfl (Nat.le_trans hBw hbA.size) (by rw [← HBL.out]; simp; omega)
          rw [← hb1] at ho1
          obtain ⟨A1, c1', hv1, _⟩ := ho1.rd
          rw [hl1] at hv1
          subst hv1
          have hb2' : Below w.heap.size w W2 := below_then HBd.out hBw (hbA.mono (Nat.le_refl _)) |>.trans hts1.1
          have H1 := Lib.hid hb1; have H2 := Lib.hid hb2; have H3 := Lib.hid hb3
          have L1 := Lib.hid hl1; have L2 := Lib.hid hl2; have L3 := Lib.hid hl3
          have HRUN := Lib.hid hrun1; have HW1 := Lib.hid hW1; have HO1 := Lib.hid ho1; have HBW2 := Lib.hid hb2'
          clear hb1 hb2 hb3 hl1 hl2 hl3 hrun1 hW1 ho1 hts1 hbA hb2' c0 c1 c2
          have d2 := cell_below HBd.out HC2.out
          have HNe : Hid (KvMath.encB ((xs.take (p + 1)).map PutD.ent) = b3) := Lib.hid (by rw [HTA.out, H3.out, H2.out, H1.out]; unfold KvMath.encP; simp [List.append_assoc])
          have hdr : ∀ W, TS w.heap.size W2.drew W → TS w.heap.size W2 W := fun W hW => (Gs.ts _ _ ⟨Below.drew (Below.refl _ W2), HBW2.out.size⟩).trans _ _ _ hW
          have HBWW : Hid (∀ W, TS w.heap.size W2.drew W → Below w.heap.size w W) := Lib.hid fun W hW => HBW2.out.trans (hdr W hW).1
          have HC : Hid (∀ W, TS w.heap.size W2.drew W → W.cell? (a.add (p * 3)) = some (.string xk)) := Lib.hid fun W hW => cell_below (HBWW.out W hW) HC0.out
          have HSz : Hid (∀ W, TS w.heap.size W2.drew W → w.heap.size ≤ W.heap.size) := Lib.hid fun W hW => (HBWW.out W hW).size
          clear hdr
          go_wp2_with (at_builtin; rw [← HW1.out]; refine Lib.wpList_append_run _ rfl _ _ _ _ rfl _ _ rfl rfl _ _ HRUN.out ?_)
          refine Stu.wp_region_stu _ (Stu.mkT [(8, svO w.heap.size (bl + 3) b2), (14, svO w.heap.size (bl + 3 + xk.size) b3)]) (fun W => Ob W w.heap.size 5 (.slice A1 (bl + 1) c1') b1) [8, 14] (TS.refl _) TS.trans Gs.ts (fun _ _ h hg => h.below hg.1) (HO1.out.below (Below.drew (Below.refl _ _))) (Stu.mkT_ks _ (by show List.Nodup [8, 14]; decide) _ rfl) (by kernel_rfl) (by kernel_rfl) (by kernel_rfl) ?_
          repeat (first
            | (refine Stu.wpR_plain ?_ (by rfl) (by rfl) (fun K hK => ?_); (focus (first | (simp only [Region.wanted]; done) | (go_simp; done))); apply Exists.intro; refine ⟨fun W hW => ?_, ?_⟩; (go_simp; (try simp only [Stu.plainUpon_value, true_and]); rfl); go_simp; refine hK _ ?_; clear hK K)
            | (refine Stu.wpR_plain ?_ (by rfl) (by rfl) (fun K hK => ?_); (focus (first | (simp only [Region.wanted]; done) | (go_simp; done))); apply Exists.intro; refine ⟨fun W hW => ?_, ?_⟩; (have hcw := HC.out W hW; go_simp; (try simp only [Stu.plainUpon_value, true_and]); rfl); go_simp; refine hK _ ?_; clear hK K)
            | (refine Stu.wpR_spu (by rfl) (by rfl) ?_ ?_ (fun W hW hU hF => ?_) (fun K v hv hK => ?_); (focus (first | (simp only [Region.wanted]; done) | (go_simp; done))); (focus (exact ⟨_, none, _, rfl, Nat.le_refl _⟩)); (go_simp; simp only [Stu.relUpon_enter]; exact big_rel hU (by rw [L1.out]; omega) (HSz.out W hW) (by omega) (by decide) (by rw [L1.out]; omega) H2.out L2.out); (obtain ⟨A6, c6', rfl, hc6'⟩ := hv); go_simp; refine hK _ ?_; clear hK K)
            | (refine Stu.wpR_spu (by rfl) (by rfl) ?_ ?_ (fun W hW hU hF => ?_) (fun K v hv hK => ?_); (focus (first | (simp only [Region.wanted]; done) | (go_simp; done))); (focus (exact ⟨_, none, _, rfl, Nat.le_refl _⟩)); (exact apps_rel (v := .slice A6 (bl + 3) c6') (l := b2) (base := w.heap.size) rfl rfl rfl rfl hU (by rw [L2.out]; omega) (HSz.out W hW) (by rw [L2.out]; omega) H3.out L3.out); (obtain ⟨A9, c9', rfl, hc9'⟩ := hv); go_simp; refine hK _ ?_; clear hK K))
          refine Stu.wpR_nil (fun W hW hU hF => ?_)
          have ho3 : Ob W w.heap.size 5 (.slice A9 (bl + 3 + xk.size) c9') b3 := hU
          have HO3 := Lib.hid ho3
          have HB3 := Lib.hid (HBWW.out W hW)
          clear hF hW hU HC HSz HBWW ho3 d2
          have e2 := cell_below HB3.out HC2.out
          go_wp2
          go_roundw
          case rel =>
            refine ⟨p + 1, by omega, by go_num, by rw [HNe.out]; exact HO3.out, fun e => ?_, HB3.out⟩
            rw [HNe.out] at e
            have := L3.out
            rw [e] at this
            simp at this
            omega
          case measure => simp [intOf]; omega
        | false =>
          obtain ⟨b1, hb1⟩ : ∃ b1, b1 = b ++ [1] := ⟨_, rfl⟩
          obtain ⟨b2, hb2⟩ : ∃ b2, b2 = b1 ++ KvMath.numB xk.size 2 := ⟨_, rfl⟩
          obtain ⟨b3, hb3⟩ : ∃ b3, b3 = b2 ++ xk.data.toList := ⟨_, rfl⟩
          have hl1 : b1.length = bl + 1 := by rw [hb1, List.length_append, ← HBL.out]; rfl
          have hl2 : b2.length = bl + 3 := by rw [hb2, List.length_append, hl1, KvMath.numB_len]
          have hl3 : b3.length = bl + 3 + xk.size := by rw [hb3, List.length_append, hl2, HKS.out]
          obtain ⟨W1, hW1⟩ : ∃ W1, W1 = wL.alloc (.cells #[.int .u8 (1)] 5) := ⟨_, rfl⟩
          have hbA : Below wL.heap.size wL W1 := by rw [hW1]; exact (Below.refl _ wL).alloc (Nat.le_refl _) _
          obtain ⟨v1, W2, hrun1, ho1, hts1⟩ := appb_run (m := 1) (c := 1) (HO.out.below hbA) HZ.out (Rd.of_block (l := [1]) (show W1.heap[wL.heap.size]? = _ by rw [hW1]; exact heap_new wL _ _ rfl) (by simp)) rfl (Nat.le_trans hBw hbA.size) (by rw [← HBL.out]; simp; omega)
          rw [← hb1] at ho1
          obtain ⟨A1, c1', hv1, _⟩ := ho1.rd
          rw [hl1] at hv1
          subst hv1
          have hb2' : Below w.heap.size w W2 := below_then HBd.out hBw (hbA.mono (Nat.le_refl _)) |>.trans hts1.1
          have H1 := Lib.hid hb1; have H2 := Lib.hid hb2; have H3 := Lib.hid hb3
          have L1 := Lib.hid hl1; have L2 := Lib.hid hl2; have L3 := Lib.hid hl3
          have HRUN := Lib.hid hrun1; have HW1 := Lib.hid hW1; have HO1 := Lib.hid ho1; have HBW2 := Lib.hid hb2'
          clear hb1 hb2 hb3 hl1 hl2 hl3 hrun1 hW1 ho1 hts1 hbA hb2' c0 c1 c2
          have d2 := cell_below HBd.out HC2.out
          have hdr : ∀ W, TS w.heap.size W2.drew W → TS w.heap.size W2 W := fun W hW => (Gs.ts _ _ ⟨Below.drew (Below.refl _ W2), HBW2.out.size⟩).trans _ _ _ hW
          have HBWW : Hid (∀ W, TS w.heap.size W2.drew W → Below w.heap.size w W) := Lib.hid fun W hW => HBW2.out.trans (hdr W hW).1
          have HC : Hid (∀ W, TS w.heap.size W2.drew W → W.cell? (a.add (p * 3)) = some (.string xk)) := Lib.hid fun W hW => cell_below (HBWW.out W hW) HC0.out
          have HSz : Hid (∀ W, TS w.heap.size W2.drew W → w.heap.size ≤ W.heap.size) := Lib.hid fun W hW => (HBWW.out W hW).size
          clear hdr
          go_wp2_with (at_builtin; rw [← HW1.out]; refine Lib.wpList_append_run _ rfl _ _ _ _ rfl _ _ rfl rfl _ _ HRUN.out ?_)
          refine Stu.wp_region_stu _ (Stu.mkT [(8, svO w.heap.size (bl + 3) b2), (14, svO w.heap.size (bl + 3 + xk.size) b3)]) (fun W => Ob W w.heap.size 5 (.slice A1 (bl + 1) c1') b1) [8, 14] (TS.refl _) TS.trans Gs.ts (fun _ _ h hg => h.below hg.1) (HO1.out.below (Below.drew (Below.refl _ _))) (Stu.mkT_ks _ (by show List.Nodup [8, 14]; decide) _ rfl) (by kernel_rfl) (by kernel_rfl) (by kernel_rfl) ?_
          repeat (first
            | (refine Stu.wpR_plain ?_ (by rfl) (by rfl) (fun K hK => ?_); (focus (first | (simp only [Region.wanted]; done) | (go_simp; done))); apply Exists.intro; refine ⟨fun W hW => ?_, ?_⟩; (go_simp; (try simp only [Stu.plainUpon_value, true_and]); rfl); go_simp; refine hK _ ?_; clear hK K)
            | (refine Stu.wpR_plain ?_ (by rfl) (by rfl) (fun K hK => ?_); (focus (first | (simp only [Region.wanted]; done) | (go_simp; done))); apply Exists.intro; refine ⟨fun W hW => ?_, ?_⟩; (have hcw := HC.out W hW; go_simp; (try simp only [Stu.plainUpon_value, true_and]); rfl); go_simp; refine hK _ ?_; clear hK K)
            | (refine Stu.wpR_spu (by rfl) (by rfl) ?_ ?_ (fun W hW hU hF => ?_) (fun K v hv hK => ?_); (focus (first | (simp only [Region.wanted]; done) | (go_simp; done))); (focus (exact ⟨_, none, _, rfl, Nat.le_refl _⟩)); (go_simp; simp only [Stu.relUpon_enter]; exact big_rel hU (by rw [L1.out]; omega) (HSz.out W hW) (by omega) (by decide) (by rw [L1.out]; omega) H2.out L2.out); (obtain ⟨A6, c6', rfl, hc6'⟩ := hv); go_simp; refine hK _ ?_; clear hK K)
            | (refine Stu.wpR_spu (by rfl) (by rfl) ?_ ?_ (fun W hW hU hF => ?_) (fun K v hv hK => ?_); (focus (first | (simp only [Region.wanted]; done) | (go_simp; done))); (focus (exact ⟨_, none, _, rfl, Nat.le_refl _⟩)); (exact apps_rel (v := .slice A6 (bl + 3) c6') (l := b2) (base := w.heap.size) rfl rfl rfl rfl hU (by rw [L2.out]; omega) (HSz.out W hW) (by rw [L2.out]; omega) H3.out L3.out); (obtain ⟨A9, c9', rfl, hc9'⟩ := hv); go_simp; refine hK _ ?_; clear hK K))
          refine Stu.wpR_nil (fun W hW hU hF => ?_)
          have ho3 : Ob W w.heap.size 5 (.slice A9 (bl + 3 + xk.size) c9') b3 := hU
          have HO3 := Lib.hid ho3
          have HB3 := Lib.hid (HBWW.out W hW)
          clear hF hW hU HC HSz HBWW ho3 d2
          obtain ⟨b4, hb4⟩ : ∃ b4, b4 = b3 ++ KvMath.numB nv 4 := ⟨_, rfl⟩
          obtain ⟨b5, hb5⟩ : ∃ b5, b5 = b4 ++ xv := ⟨_, rfl⟩
          have hl4 : b4.length = bl + 7 + xk.size := by rw [hb4, List.length_append, L3.out, KvMath.numB_len]; omega
          have hl5 : b5.length = bl + 7 + xk.size + nv := by rw [hb5, List.length_append, hl4, HNV.out]
          have H4 := Lib.hid hb4; have H5 := Lib.hid hb5
          have L4 := Lib.hid hl4; have L5 := Lib.hid hl5
          have HNe : Hid (KvMath.encB ((xs.take (p + 1)).map PutD.ent) = b5) := Lib.hid (by rw [HTA.out, hb5, hb4, H3.out, H2.out, H1.out, HNV.out]; unfold KvMath.encP; simp [List.append_assoc])
          clear hb4 hb5 hl4 hl5
          obtain ⟨V, hV⟩ : ∃ V, V = W := ⟨_, rfl⟩
          rw [← hV] at HB3 HO3 ⊢
          have hdr : ∀ W, TS w.heap.size V.drew W → TS w.heap.size V W := fun W hW => (Gs.ts _ _ ⟨Below.drew (Below.refl _ V), HB3.out.size⟩).trans _ _ _ hW
          have HBWW : Hid (∀ W, TS w.heap.size V.drew W → Below w.heap.size w W) := Lib.hid fun W hW => HB3.out.trans (hdr W hW).1
          have HC : Hid (∀ W, TS w.heap.size V.drew W → W.cell? ⟨(a.add (p * 3)).block, (a.add (p * 3)).off + 1, none⟩ = some (.slice Aj nv cj)) := Lib.hid fun W hW => cell_below (HBWW.out W hW) HC1.out
          have HSz : Hid (∀ W, TS w.heap.size V.drew W → w.heap.size ≤ W.heap.size) := Lib.hid fun W hW => (HBWW.out W hW).size
          have HRd2 : Hid (∀ W, TS w.heap.size V.drew W → Rd W Aj xv) := Lib.hid fun W hW => HRd.out W (HBWW.out W hW)
          have d2 := cell_below HB3.out HC2.out
          clear hdr hV W
          go_wp2_with fail
          refine Stu.wp_region_stu _ (Stu.mkT [(8, svO w.heap.size (bl + 7 + xk.size) b4), (14, svO w.heap.size (bl + 7 + xk.size + nv) b5)]) (fun W => Ob W w.heap.size 5 (.slice A9 (bl + 3 + xk.size) c9') b3) [8, 14] (TS.refl _) TS.trans Gs.ts (fun _ _ h hg => h.below hg.1) (HO3.out.below (Below.drew (Below.refl _ _))) (Stu.mkT_ks _ (by show List.Nodup [8, 14]; decide) _ rfl) (by kernel_rfl) (by kernel_rfl) (by kernel_rfl) ?_
          repeat (first
            | (refine Stu.wpR_plain ?_ (by rfl) (by rfl) (fun K hK => ?_); (focus (first | (simp only [Region.wanted]; done) | (go_simp; done))); apply Exists.intro; refine ⟨fun W hW => ?_, ?_⟩; (go_simp; (try simp only [Stu.plainUpon_value, true_and]); rfl); go_simp; refine hK _ ?_; clear hK K)
            | (refine Stu.wpR_plain ?_ (by rfl) (by rfl) (fun K hK => ?_); (focus (first | (simp only [Region.wanted]; done) | (go_simp; done))); apply Exists.intro; refine ⟨fun W hW => ?_, ?_⟩; (have hcw := HC.out W hW; go_simp; (try simp only [Stu.plainUpon_value, true_and]); rfl); go_simp; refine hK _ ?_; clear hK K)
            | (refine Stu.wpR_spu (by rfl) (by rfl) ?_ ?_ (fun W hW hU hF => ?_) (fun K v hv hK => ?_); (focus (first | (simp only [Region.wanted]; done) | (go_simp; done))); (focus (exact ⟨_, none, _, rfl, Nat.le_refl _⟩)); (go_simp; simp only [Stu.relUpon_enter]; exact big_rel hU (by rw [L3.out]; omega) (HSz.out W hW) (by omega) (by decide) (by rw [L3.out]; omega) H4.out L4.out); (obtain ⟨A6, c6', rfl, hc6'⟩ := hv); go_simp; refine hK _ ?_; clear hK K)
            | (refine Stu.wpR_spu (by rfl) (by rfl) ?_ ?_ (fun W hW hU hF => ?_) (fun K v hv hK => ?_); (focus (first | (simp only [Region.wanted]; done) | (go_simp; done))); (focus (exact ⟨_, none, _, rfl, Nat.le_refl _⟩)); (exact appb_rel (v := .slice A6 (bl + 7 + xk.size) c6') (l := b4) (base := w.heap.size) (A := Aj) (c := cj) rfl rfl rfl rfl hU (fun e => by have := L4.out; rw [e] at this; simp at this; omega) (HRd2.out W hW) HNV.out (HSz.out W hW) (by rw [L4.out, ← HNV.out]; omega) H5.out L5.out); (obtain ⟨A8, c8', rfl, hc8'⟩ := hv); go_simp; refine hK _ ?_; clear hK K))
          refine Stu.wpR_nil (fun W hW hU hF => ?_)
          have ho5 : Ob W w.heap.size 5 (.slice A8 (bl + 7 + xk.size + nv) c8') b5 := hU
          have HO5 := Lib.hid ho5
          have HB5 := Lib.hid (HBWW.out W hW)
          clear hF hW hU HC HSz HBWW HRd2 ho5
          go_wp2
          go_roundw
          case rel =>
            refine ⟨p + 1, by omega, by go_num, by rw [HNe.out]; exact HO5.out, fun e => ?_, HB5.out⟩
            rw [HNe.out] at e
            have := L5.out
            rw [e] at this
            simp at this
            omega
          case measure => simp [intOf]; omega
      · have hpn : p = n := by omega
        have hfull : xs.take n = xs := by rw [HN.out]; exact List.take_length
        rw [hpn, hfull] at ho
        obtain ⟨A1, c1, rfl, _⟩ := ho.rd
        generalize (KvMath.encB (xs.map PutD.ent)).length = nn at *
        have HO := Lib.hid ho; have HB := Lib.hid hb
        clear ho hb hz hpn hfull hle
        go_wp2
        go_ret
        exact ⟨_, rfl, HO.out, HB.out⟩
end Go.Proofs.Ytgaccogekmaijaa
