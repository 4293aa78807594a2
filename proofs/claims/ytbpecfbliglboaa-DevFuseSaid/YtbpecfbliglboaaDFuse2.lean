/- The law DevFuse, walked. -/
import Derived.Test.YtbpecfbliglboaaDFuse
namespace Go.Proofs.Ytbpecfbliglboaa
open Go.RowKit Go.Maps
set_option linter.unusedVariables false
set_option linter.unusedSimpArgs false
attribute [local irreducible] wpR relOp Stg.wpR Stg.relOp
set_option maxRecDepth 20000 in
set_option maxHeartbeats 2000000 in
theorem DevFuse_ok (A1 Ak : Option Addr) (c1 ck : Nat) (xs : List ActD) (calls : Int) (keep : List Int) (torn : Int) (w : World) (hr1 : Row KAct 5 w A1 xs) (hk : IntR w (.slice Ak keep.length ck) keep) (wt : (Lit.int .i64 torn).wf = true) (h1 : xs.length ≤ 25) (hc1 : 1 ≤ calls) (hc2 : calls ≤ 30) (h3 : keep.length ≤ 25) :
    Calls Try.prog 5 #[.slice A1 xs.length c1, .int .i64 calls, .slice Ak keep.length ck, .int .i64 torn] w fun e w' => e = .returned (.bool true) ∧ Below w.heap.size w w' := by
  obtain ⟨n1, hn1⟩ : ∃ n, n = xs.length := ⟨_, rfl⟩
  obtain ⟨n3, hn3⟩ : ∃ n, n = keep.length := ⟨_, rfl⟩
  rw [← hn1] at h1 ⊢; rw [← hn3] at h3 hk ⊢
  have HN1 := Lib.hid hn1; have HR1 := Lib.hid hr1; have HN3 := Lib.hid hn3; have HK := Lib.hid hk; have HWT := Lib.hid wt
  have HWC : Hid ((Lit.int .i64 calls).wf = true) := Lib.hid (by simp [Lit.wf, IntKind.min, IntKind.max, IntKind.signed, IntKind.bits]; omega)
  clear hn1 hr1 hn3 hk wt
  go_enter Try.func5, Try.ntmps5
  go_wp2_with fail
  refine (awake4_any w).mono ?_
  rintro e w1 ⟨rfl, hb1⟩
  have HB1 := Lib.hid hb1
  clear hb1
  go_wp2_with fail
  refine (ds_new w1 8 (by decide) (by decide)).mono ?_
  rintro e w2 ⟨ga, rfl, hd2, -⟩
  have hcon := Lib.hid (dd_new (show DS w1 w2 w1.heap.size ga (DevMath.Dev.new 8) from hd2) 8 (by decide) (by decide))
  clear hd2
  go_wp2_with fail
  refine hcon.out.mono ?_
  rintro e w3 ⟨gb, rfl, hd3⟩
  have hcon2 := Lib.hid (dd_fuse hd3 calls torn HWC.out HWT.out (HK.out.below (below_then HB1.out HB1.out.size hd3.bel)) (by rw [← HN3.out]; omega))
  clear hd3 hcon
  go_wp2_with fail
  refine hcon2.out.mono ?_
  rintro e w4 ⟨rfl, hd4, -⟩
  have HD := Lib.hid hd4
  have HT0 : Hid (DevMath.Tw ((DevMath.Dev.new 8).fused calls keep torn) (DevMath.Dev.new 8) keep torn (calls - (0 : Nat)) 0) := Lib.hid ⟨rfl, rfl, rfl, rfl, Nat.le_refl _, rfl, .inl ⟨by omega, rfl, rfl, by show max calls 0 = _; omega, rfl, rfl⟩⟩
  clear hd4 hcon2
  go_wp2_with fail
  rename World => wA
  go_loopw [13, 14] (fun n i wr => ∃ k : Nat, k ≤ n1 ∧ n = .int .i64 k ∧ i = .int .i64 k ∧ ∃ a b, DD w1 wr w1.heap.size ga gb a b ∧ DevMath.Tw a b keep torn (calls - k) k) (fun _ i _ => n1 - (intOf i).toNat)
  case atStart => exact ⟨0, by omega, rfl, rfl, _, _, HD.out, HT0.out⟩
  case round =>
    obtain ⟨k, hk, rfl, rfl, da, db, hd, hT⟩ := hrel
    by_cases hlt : k < n1
    · have hkx : k < xs.length := by rw [← HN1.out]; exact hlt
      have hbw : Below w.heap.size w wr := below_then HB1.out HB1.out.size hd.bel
      obtain ⟨a, rfl, c0, c1, _, c3, _⟩ := act_at (acts_below HR1.out hbw) k hkx
      change wr.cell? (a.add (k * 5)) = some (.int .i64 (xs[k]'hkx).op) at c0
      change wr.cell? ⟨(a.add (k * 5)).block, (a.add (k * 5)).off + 1, none⟩ = some (.int .i64 (xs[k]'hkx).at_) at c1
      change wr.cell? ⟨(a.add (k * 5)).block, (a.add (k * 5)).off + 3, none⟩ = some (.int .u8 ((xs[k]'hkx).c.toNat : Int)) at c3
      obtain ⟨x, hx⟩ : ∃ x, xs[k]'hkx = x := ⟨_, rfl⟩
      rw [hx] at c0 c1 c3
      obtain ⟨op, at_, torn1, cb, keep1⟩ := x
      have HX := Lib.hid hx
      clear hx
      simp only at c0 c1 c3
      obtain ⟨q, hq⟩ : ∃ q : Nat, at_ % 8 = (q : Int) := ⟨(at_ % 8).toNat, by omega⟩
      have hq8 : q < 8 := by omega
      have hq8i : (q : Int) < 8 := by omega
      have hand : bits .and .i64 at_ 7 = (q : Int) := by rw [and7, hq]
      clear hq
      have HC : Hid (∀ W, Gr wr.heap.size wr.drew W → W.cell? (a.add (k * 5)) = some (.int .i64 op) ∧ W.cell? ⟨(a.add (k * 5)).block, (a.add (k * 5)).off + 1, none⟩ = some (.int .i64 at_) ∧ W.cell? ⟨(a.add (k * 5)).block, (a.add (k * 5)).off + 3, none⟩ = some (.int .u8 (cb.toNat : Int))) := Lib.hid fun W hW => by
        have h := Below.trans (Below.drew (Below.refl wr.heap.size wr)) hW.1
        exact ⟨cell_below h c0, cell_below h c1, cell_below h c3⟩
      have HT := Lib.hid hT
      have hwk : IntKind.i64.wrap ((k : Int) + 1) = ((k + 1 : Nat) : Int) := by rw [IntKind.wrap_i64]; omega
      by_cases hr1 : (k : Int) + 1 = calls
      · have hge : calls ≤ (k : Int) + 1 := by omega
        have HE : Hid ((if calls - (k : Int) ≤ 1 then (7 : Int) else 0) = 7) := Lib.hid (if_pos (by omega))
        have HXO : Hid (decide (calls - (k : Int) ≤ 1) = true) := Lib.hid (decide_eq_true (by omega))
        have hfa : DevMath.fallen db keep torn (calls - k) = db.crash keep torn := by unfold DevMath.fallen; rw [if_pos (by omega)]
        have hcon := dd_crash hd.swap (by have := HT.out.ca; rw [HT.out.cache] at this; omega) torn (fun W _ hb => HK.out.below (below_then HB1.out HB1.out.size hb)) (by rw [← HN3.out]; omega)
        rw [← hfa] at hcon
        have hcon := Lib.hid hcon; have HBW := Lib.hid hbw
        have hq1 : ((k : Int) + 1 == calls) = true := by rw [beq_iff_eq]; exact hr1
        have hq2 : decide ((k : Int) + 1 = calls) = true := decide_eq_true hr1
        clear hd hT hfa HC hr1 c0 c1 c3 hbw
        go_wp2_with fail
        refine hcon.out.mono ?_
        rintro e w0c ⟨rfl, hdc, -⟩
        have HDc := Lib.hid hdc.swap
        have hbw : Below w.heap.size w w0c := below_then HB1.out HB1.out.size hdc.bel
        obtain ⟨a', e', c0, c1, _, c3, _⟩ := act_at (acts_below HR1.out hbw) k hkx
        injection e' with e'
        subst e'
        have hxk : xs[k]'hkx = ⟨op, at_, torn1, cb, keep1⟩ := HX.out
        rw [hxk] at c0 c1 c3
        simp only at c0 c1 c3
        clear hxk
        clear hdc hcon
        have HCT : Hid (∀ W, TB w1.heap.size w0c.drew W → W.cell? (a.add (k * 5)) = some (.int .i64 op) ∧ W.cell? ⟨(a.add (k * 5)).block, (a.add (k * 5)).off + 1, none⟩ = some (.int .i64 at_) ∧ W.cell? ⟨(a.add (k * 5)).block, (a.add (k * 5)).off + 3, none⟩ = some (.int .u8 (cb.toNat : Int))) := Lib.hid fun W hW => by
          have hbW : Below w.heap.size w W := (Below.drew hbw).trans (hW.2.mono HB1.out.size)
          obtain ⟨a', e', d0, d1, _, d3, _⟩ := act_at (acts_below HR1.out hbW) k hkx
          injection e' with e'
          subst e'
          have hxk : xs[k]'hkx = ⟨op, at_, torn1, cb, keep1⟩ := HX.out
          rw [hxk] at d0 d1 d3
          exact ⟨d0, d1, d3⟩
        clear hbw
        by_cases hop : op = 0
        · obtain ⟨a1, b1, ha1, hb1e, hT1, ho1, ho2⟩ := HT.out.flush
          rw [HE.out] at ha1 hb1e
          rw [HXO.out] at ho1 ho2
          have hcon := dd_flush HDc.out (by have := HT.out.ca; omega)
          rw [ha1] at hcon
          have HCON := Lib.hid hcon; have HBE := Lib.hid hb1e; have HO1 := Lib.hid ho1; have HO2 := Lib.hid ho2; have HT1 := Lib.hid hT1
          clear hcon ha1 hb1e ho1 ho2 hT1
          subst hop
          go_wp2_with fail
          refine HCON.out.mono ?_
          rintro e w4 ⟨rfl, hd4, -⟩
          have hcon := dd_flush hd4.swap (by have := DevMath.fallen_cache db keep torn (calls - k); have := HT.out.ca; rw [HT.out.cache] at this; omega)
          rw [HBE.out] at hcon
          have HCON2 := Lib.hid hcon
          clear hcon hd4 HCON
          go_wp2_with fail
          refine HCON2.out.mono ?_
          rintro e w5 ⟨rfl, hd5, -⟩
          have HDe := Lib.hid hd5.swap
          clear hd5 HCON2 c0 c1 c3
          go_wp2_with fail
          refine (ds_off HDe.out.fst).mono ?_
          rintro e w6 ⟨rfl, rfl⟩
          rw [HO1.out]
          go_wp2_with fail
          refine (ds_off HDe.out.swap.fst).mono ?_
          rintro e w7 ⟨rfl, rfl⟩
          rw [HO2.out]
          go_wp2
          go_roundw
          case rel => exact ⟨k + 1, by omega, by go_num, by go_num, a1, b1, HDe.out, by have := HT1.out; rwa [show calls - (k : Int) - 1 = calls - ((k + 1 : Nat) : Int) by omega] at this⟩
          case measure => simp [intOf]; omega
        · obtain ⟨a1, b1, ha1, hb1e, hT1, ho1, ho2⟩ := HT.out.write q hq8 cb
          rw [HE.out] at ha1 hb1e
          rw [HXO.out] at ho1 ho2
          have hop1 : decide (op = 0) = false := decide_eq_false hop
          have hop2 : (op == 0) = false := by rw [beq_eq_false_iff_ne]; exact hop
          have HBE := Lib.hid hb1e; have HAE := Lib.hid ha1; have HO1 := Lib.hid ho1; have HO2 := Lib.hid ho2; have HT1 := Lib.hid hT1
          have HCA : Hid (da.cache.length ≤ 1000000) := Lib.hid (by have := HT.out.ca; omega)
          have HCB : Hid ((DevMath.fallen db keep torn (calls - k)).cache.length ≤ 1000000) := Lib.hid (by have := DevMath.fallen_cache db keep torn (calls - k); have := HT.out.ca; rw [HT.out.cache] at this; omega)
          clear ha1 hb1e ho1 ho2 hT1
          go_wp2_with fail
          refine Stg.wp_region_stg _ (fuTbl w1.heap.size cb 7) (fuJ w1 w1.heap.size ga gb da (DevMath.fallen db keep torn (calls - k)) a1 b1) [12, 13, 26, 27] (TB.refl _) TB.trans (HDc.out.below (Below.drew (Below.refl _ _))) (fuTbl_ks _ _ _) (by kernel_rfl) (by kernel_rfl) (by kernel_rfl) (by kernel_rfl) ?_
          repeat (first
            | (refine Stg.wpR_plain ?_ (by rfl) (fun K hK => ?_); (focus (first | (simp only [Region.wanted]; done) | (go_simp; done))); apply Exists.intro; refine ⟨fun W hW => ?_, ?_⟩; (go_simp; (try simp only [Stg.plainUpon_value, true_and]); rfl); go_simp; refine hK _ ?_; clear hK K)
            | (refine Stg.wpR_plain ?_ (by rfl) (fun K hK => ?_); (focus (first | (simp only [Region.wanted]; done) | (go_simp; done))); apply Exists.intro; refine ⟨fun W hW => ?_, ?_⟩; (have hcw := HCT.out W hW; go_simp; (try simp only [Stg.plainUpon_value, true_and]); rfl); go_simp; refine hK _ ?_; clear hK K)
            | (refine Stg.wpR_propS (by rfl) ?_ (fun W hW hJ hF => ?_) (fun K v hv hK => ?_); (focus (first | (simp only [Region.wanted]; done) | (go_simp; done))); (go_simp; simp only [Stg.relUpon_enter]; exact sect_dd (show DD w1 W w1.heap.size ga gb da (DevMath.fallen db keep torn (calls - k)) from hJ) cb); obtain ⟨A12, c12, rfl, hc12⟩ := hv; go_simp; refine hK _ ?_; clear hK K)
            | (refine Stg.wpR_valS (by rfl) ?_ (fun W hW hJ hF => ?_) (fun K hK => ?_); (focus (first | (simp only [Region.wanted]; done) | (go_simp; done))); (go_simp; simp only [Stg.relUpon_enter]; exact write_dd (show DD w1 W w1.heap.size ga gb da (DevMath.fallen db keep torn (calls - k)) from hJ) HCA.out q (show Sl W (.slice A12 512 c12) (DevMath.sec cb) from hF 12 rfl) HAE.out); go_simp; refine hK _ ?_; clear hK K)
            | (refine Stg.wpR_propS (by rfl) ?_ (fun W hW hJ hF => ?_) (fun K v hv hK => ?_); (focus (first | (simp only [Region.wanted]; done) | (go_simp; done))); (go_simp; simp only [Stg.relUpon_enter]; exact sect_dd (show DD w1 W w1.heap.size ga gb a1 (DevMath.fallen db keep torn (calls - k)) from hJ) cb); obtain ⟨A26, c26, rfl, hc26⟩ := hv; go_simp; refine hK _ ?_; clear hK K)
            | (refine Stg.wpR_valS (by rfl) ?_ (fun W hW hJ hF => ?_) (fun K hK => ?_); (focus (first | (simp only [Region.wanted]; done) | (go_simp; done))); (go_simp; simp only [Stg.relUpon_enter]; refine (write_dd (DD.swap (show DD w1 W w1.heap.size ga gb a1 (DevMath.fallen db keep torn (calls - k)) from hJ)) HCB.out q (show Sl W (.slice A26 512 c26) (DevMath.sec cb) from hF 26 rfl) HBE.out).mono ?_; rintro e1 w1' ⟨v, hv1, hv2, hv3, hv4⟩; exact ⟨v, hv1, hv2, hv3, hv4.swap⟩); go_simp; refine hK _ ?_; clear hK K))
          refine Stg.wpR_nil (fun W hW hJ hF => ?_)
          have HDe := Lib.hid (show DD w1 W w1.heap.size ga gb a1 b1 from hJ)
          clear hJ hF hW HCT c0 c1 c3
          go_wp2_with fail
          refine (ds_off HDe.out.fst).mono ?_
          rintro e w6 ⟨rfl, rfl⟩
          rw [HO1.out]
          go_wp2_with fail
          refine (ds_off HDe.out.swap.fst).mono ?_
          rintro e w7 ⟨rfl, rfl⟩
          rw [HO2.out]
          go_wp2
          go_roundw
          case rel => exact ⟨k + 1, by omega, by go_num, by go_num, a1, b1, HDe.out, by have := HT1.out; rwa [show calls - (k : Int) - 1 = calls - ((k + 1 : Nat) : Int) by omega] at this⟩
          case measure => simp [intOf]; omega
      · by_cases hr2 : (k : Int) + 1 < calls
        · have hge : ¬ calls ≤ (k : Int) + 1 := by omega
          have HE : Hid ((if calls - (k : Int) ≤ 1 then (7 : Int) else 0) = 0) := Lib.hid (if_neg (by omega))
          have HXO : Hid (decide (calls - (k : Int) ≤ 1) = false) := Lib.hid (decide_eq_false (by omega))
          have hfa : DevMath.fallen db keep torn (calls - k) = db := by unfold DevMath.fallen; rw [if_neg (by omega)]
          have HDc : Hid (DD w1 wr w1.heap.size ga gb da (DevMath.fallen db keep torn (calls - k))) := Lib.hid (by rw [hfa]; exact hd)
          clear hd hT hfa hr2 HC
          have HCT : Hid (∀ W, TB w1.heap.size wr.drew W → W.cell? (a.add (k * 5)) = some (.int .i64 op) ∧ W.cell? ⟨(a.add (k * 5)).block, (a.add (k * 5)).off + 1, none⟩ = some (.int .i64 at_) ∧ W.cell? ⟨(a.add (k * 5)).block, (a.add (k * 5)).off + 3, none⟩ = some (.int .u8 (cb.toNat : Int))) := Lib.hid fun W hW => by
            have hbW : Below w.heap.size w W := (Below.drew hbw).trans (hW.2.mono HB1.out.size)
            obtain ⟨a', e', d0, d1, _, d3, _⟩ := act_at (acts_below HR1.out hbW) k hkx
            injection e' with e'
            subst e'
            have hxk : xs[k]'hkx = ⟨op, at_, torn1, cb, keep1⟩ := HX.out
            rw [hxk] at d0 d1 d3
            exact ⟨d0, d1, d3⟩
          clear hbw
          by_cases hop : op = 0
          · obtain ⟨a1, b1, ha1, hb1e, hT1, ho1, ho2⟩ := HT.out.flush
            rw [HE.out] at ha1 hb1e
            rw [HXO.out] at ho1 ho2
            have hcon := dd_flush HDc.out (by have := HT.out.ca; omega)
            rw [ha1] at hcon
            have HCON := Lib.hid hcon; have HBE := Lib.hid hb1e; have HO1 := Lib.hid ho1; have HO2 := Lib.hid ho2; have HT1 := Lib.hid hT1
            clear hcon ha1 hb1e ho1 ho2 hT1
            subst hop
            go_wp2_with fail
            refine HCON.out.mono ?_
            rintro e w4 ⟨rfl, hd4, -⟩
            have hcon := dd_flush hd4.swap (by have := DevMath.fallen_cache db keep torn (calls - k); have := HT.out.ca; rw [HT.out.cache] at this; omega)
            rw [HBE.out] at hcon
            have HCON2 := Lib.hid hcon
            clear hcon hd4 HCON
            go_wp2_with fail
            refine HCON2.out.mono ?_
            rintro e w5 ⟨rfl, hd5, -⟩
            have HDe := Lib.hid hd5.swap
            clear hd5 HCON2 c0 c1 c3
            go_wp2_with fail
            refine (ds_off HDe.out.fst).mono ?_
            rintro e w6 ⟨rfl, rfl⟩
            rw [HO1.out]
            go_wp2_with fail
            refine (ds_off HDe.out.swap.fst).mono ?_
            rintro e w7 ⟨rfl, rfl⟩
            rw [HO2.out]
            go_wp2
            go_roundw
            case rel => exact ⟨k + 1, by omega, by go_num, by go_num, a1, b1, HDe.out, by have := HT1.out; rwa [show calls - (k : Int) - 1 = calls - ((k + 1 : Nat) : Int) by omega] at this⟩
            case measure => simp [intOf]; omega
          · obtain ⟨a1, b1, ha1, hb1e, hT1, ho1, ho2⟩ := HT.out.write q hq8 cb
            rw [HE.out] at ha1 hb1e
            rw [HXO.out] at ho1 ho2
            have hop1 : decide (op = 0) = false := decide_eq_false hop
            have hop2 : (op == 0) = false := by rw [beq_eq_false_iff_ne]; exact hop
            have HBE := Lib.hid hb1e; have HAE := Lib.hid ha1; have HO1 := Lib.hid ho1; have HO2 := Lib.hid ho2; have HT1 := Lib.hid hT1
            have HCA : Hid (da.cache.length ≤ 1000000) := Lib.hid (by have := HT.out.ca; omega)
            have HCB : Hid ((DevMath.fallen db keep torn (calls - k)).cache.length ≤ 1000000) := Lib.hid (by have := DevMath.fallen_cache db keep torn (calls - k); have := HT.out.ca; rw [HT.out.cache] at this; omega)
            clear ha1 hb1e ho1 ho2 hT1
            go_wp2_with fail
            refine Stg.wp_region_stg _ (fuTbl w1.heap.size cb 0) (fuJ w1 w1.heap.size ga gb da (DevMath.fallen db keep torn (calls - k)) a1 b1) [12, 13, 26, 27] (TB.refl _) TB.trans (HDc.out.below (Below.drew (Below.refl _ _))) (fuTbl_ks _ _ _) (by kernel_rfl) (by kernel_rfl) (by kernel_rfl) (by kernel_rfl) ?_
            repeat (first
              | (refine Stg.wpR_plain ?_ (by rfl) (fun K hK => ?_); (focus (first | (simp only [Region.wanted]; done) | (go_simp; done))); apply Exists.intro; refine ⟨fun W hW => ?_, ?_⟩; (go_simp; (try simp only [Stg.plainUpon_value, true_and]); rfl); go_simp; refine hK _ ?_; clear hK K)
              | (refine Stg.wpR_plain ?_ (by rfl) (fun K hK => ?_); (focus (first | (simp only [Region.wanted]; done) | (go_simp; done))); apply Exists.intro; refine ⟨fun W hW => ?_, ?_⟩; (have hcw := HCT.out W hW; go_simp; (try simp only [Stg.plainUpon_value, true_and]); rfl); go_simp; refine hK _ ?_; clear hK K)
              | (refine Stg.wpR_propS (by rfl) ?_ (fun W hW hJ hF => ?_) (fun K v hv hK => ?_); (focus (first | (simp only [Region.wanted]; done) | (go_simp; done))); (go_simp; simp only [Stg.relUpon_enter]; exact sect_dd (show DD w1 W w1.heap.size ga gb da (DevMath.fallen db keep torn (calls - k)) from hJ) cb); obtain ⟨A12, c12, rfl, hc12⟩ := hv; go_simp; refine hK _ ?_; clear hK K)
              | (refine Stg.wpR_valS (by rfl) ?_ (fun W hW hJ hF => ?_) (fun K hK => ?_); (focus (first | (simp only [Region.wanted]; done) | (go_simp; done))); (go_simp; simp only [Stg.relUpon_enter]; exact write_dd (show DD w1 W w1.heap.size ga gb da (DevMath.fallen db keep torn (calls - k)) from hJ) HCA.out q (show Sl W (.slice A12 512 c12) (DevMath.sec cb) from hF 12 rfl) HAE.out); go_simp; refine hK _ ?_; clear hK K)
              | (refine Stg.wpR_propS (by rfl) ?_ (fun W hW hJ hF => ?_) (fun K v hv hK => ?_); (focus (first | (simp only [Region.wanted]; done) | (go_simp; done))); (go_simp; simp only [Stg.relUpon_enter]; exact sect_dd (show DD w1 W w1.heap.size ga gb a1 (DevMath.fallen db keep torn (calls - k)) from hJ) cb); obtain ⟨A26, c26, rfl, hc26⟩ := hv; go_simp; refine hK _ ?_; clear hK K)
              | (refine Stg.wpR_valS (by rfl) ?_ (fun W hW hJ hF => ?_) (fun K hK => ?_); (focus (first | (simp only [Region.wanted]; done) | (go_simp; done))); (go_simp; simp only [Stg.relUpon_enter]; refine (write_dd (DD.swap (show DD w1 W w1.heap.size ga gb a1 (DevMath.fallen db keep torn (calls - k)) from hJ)) HCB.out q (show Sl W (.slice A26 512 c26) (DevMath.sec cb) from hF 26 rfl) HBE.out).mono ?_; rintro e1 w1' ⟨v, hv1, hv2, hv3, hv4⟩; exact ⟨v, hv1, hv2, hv3, hv4.swap⟩); go_simp; refine hK _ ?_; clear hK K))
            refine Stg.wpR_nil (fun W hW hJ hF => ?_)
            have HDe := Lib.hid (show DD w1 W w1.heap.size ga gb a1 b1 from hJ)
            clear hJ hF hW HCT c0 c1 c3
            go_wp2_with fail
            refine (ds_off HDe.out.fst).mono ?_
            rintro e w6 ⟨rfl, rfl⟩
            rw [HO1.out]
            go_wp2_with fail
            refine (ds_off HDe.out.swap.fst).mono ?_
            rintro e w7 ⟨rfl, rfl⟩
            rw [HO2.out]
            go_wp2
            go_roundw
            case rel => exact ⟨k + 1, by omega, by go_num, by go_num, a1, b1, HDe.out, by have := HT1.out; rwa [show calls - (k : Int) - 1 = calls - ((k + 1 : Nat) : Int) by omega] at this⟩
            case measure => simp [intOf]; omega
        · have hge : calls ≤ (k : Int) + 1 := by omega
          have HE : Hid ((if calls - (k : Int) ≤ 1 then (7 : Int) else 0) = 7) := Lib.hid (if_pos (by omega))
          have HXO : Hid (decide (calls - (k : Int) ≤ 1) = true) := Lib.hid (decide_eq_true (by omega))
          have hfa : DevMath.fallen db keep torn (calls - k) = db := by unfold DevMath.fallen; rw [if_neg (by omega)]
          have HDc : Hid (DD w1 wr w1.heap.size ga gb da (DevMath.fallen db keep torn (calls - k))) := Lib.hid (by rw [hfa]; exact hd)
          clear hd hT hfa hr2 HC
          have HCT : Hid (∀ W, TB w1.heap.size wr.drew W → W.cell? (a.add (k * 5)) = some (.int .i64 op) ∧ W.cell? ⟨(a.add (k * 5)).block, (a.add (k * 5)).off + 1, none⟩ = some (.int .i64 at_) ∧ W.cell? ⟨(a.add (k * 5)).block, (a.add (k * 5)).off + 3, none⟩ = some (.int .u8 (cb.toNat : Int))) := Lib.hid fun W hW => by
            have hbW : Below w.heap.size w W := (Below.drew hbw).trans (hW.2.mono HB1.out.size)
            obtain ⟨a', e', d0, d1, _, d3, _⟩ := act_at (acts_below HR1.out hbW) k hkx
            injection e' with e'
            subst e'
            have hxk : xs[k]'hkx = ⟨op, at_, torn1, cb, keep1⟩ := HX.out
            rw [hxk] at d0 d1 d3
            exact ⟨d0, d1, d3⟩
          clear hbw
          by_cases hop : op = 0
          · obtain ⟨a1, b1, ha1, hb1e, hT1, ho1, ho2⟩ := HT.out.flush
            rw [HE.out] at ha1 hb1e
            rw [HXO.out] at ho1 ho2
            have hcon := dd_flush HDc.out (by have := HT.out.ca; omega)
            rw [ha1] at hcon
            have HCON := Lib.hid hcon; have HBE := Lib.hid hb1e; have HO1 := Lib.hid ho1; have HO2 := Lib.hid ho2; have HT1 := Lib.hid hT1
            clear hcon ha1 hb1e ho1 ho2 hT1
            subst hop
            go_wp2_with fail
            refine HCON.out.mono ?_
            rintro e w4 ⟨rfl, hd4, -⟩
            have hcon := dd_flush hd4.swap (by have := DevMath.fallen_cache db keep torn (calls - k); have := HT.out.ca; rw [HT.out.cache] at this; omega)
            rw [HBE.out] at hcon
            have HCON2 := Lib.hid hcon
            clear hcon hd4 HCON
            go_wp2_with fail
            refine HCON2.out.mono ?_
            rintro e w5 ⟨rfl, hd5, -⟩
            have HDe := Lib.hid hd5.swap
            clear hd5 HCON2 c0 c1 c3
            go_wp2_with fail
            refine (ds_off HDe.out.fst).mono ?_
            rintro e w6 ⟨rfl, rfl⟩
            rw [HO1.out]
            go_wp2_with fail
            refine (ds_off HDe.out.swap.fst).mono ?_
            rintro e w7 ⟨rfl, rfl⟩
            rw [HO2.out]
            go_wp2
            go_roundw
            case rel => exact ⟨k + 1, by omega, by go_num, by go_num, a1, b1, HDe.out, by have := HT1.out; rwa [show calls - (k : Int) - 1 = calls - ((k + 1 : Nat) : Int) by omega] at this⟩
            case measure => simp [intOf]; omega
          · obtain ⟨a1, b1, ha1, hb1e, hT1, ho1, ho2⟩ := HT.out.write q hq8 cb
            rw [HE.out] at ha1 hb1e
            rw [HXO.out] at ho1 ho2
            have hop1 : decide (op = 0) = false := decide_eq_false hop
            have hop2 : (op == 0) = false := by rw [beq_eq_false_iff_ne]; exact hop
            have HBE := Lib.hid hb1e; have HAE := Lib.hid ha1; have HO1 := Lib.hid ho1; have HO2 := Lib.hid ho2; have HT1 := Lib.hid hT1
            have HCA : Hid (da.cache.length ≤ 1000000) := Lib.hid (by have := HT.out.ca; omega)
            have HCB : Hid ((DevMath.fallen db keep torn (calls - k)).cache.length ≤ 1000000) := Lib.hid (by have := DevMath.fallen_cache db keep torn (calls - k); have := HT.out.ca; rw [HT.out.cache] at this; omega)
            clear ha1 hb1e ho1 ho2 hT1
            go_wp2_with fail
            refine Stg.wp_region_stg _ (fuTbl w1.heap.size cb 7) (fuJ w1 w1.heap.size ga gb da (DevMath.fallen db keep torn (calls - k)) a1 b1) [12, 13, 26, 27] (TB.refl _) TB.trans (HDc.out.below (Below.drew (Below.refl _ _))) (fuTbl_ks _ _ _) (by kernel_rfl) (by kernel_rfl) (by kernel_rfl) (by kernel_rfl) ?_
            repeat (first
              | (refine Stg.wpR_plain ?_ (by rfl) (fun K hK => ?_); (focus (first | (simp only [Region.wanted]; done) | (go_simp; done))); apply Exists.intro; refine ⟨fun W hW => ?_, ?_⟩; (go_simp; (try simp only [Stg.plainUpon_value, true_and]); rfl); go_simp; refine hK _ ?_; clear hK K)
              | (refine Stg.wpR_plain ?_ (by rfl) (fun K hK => ?_); (focus (first | (simp only [Region.wanted]; done) | (go_simp; done))); apply Exists.intro; refine ⟨fun W hW => ?_, ?_⟩; (have hcw := HCT.out W hW; go_simp; (try simp only [Stg.plainUpon_value, true_and]); rfl); go_simp; refine hK _ ?_; clear hK K)
              | (refine Stg.wpR_propS (by rfl) ?_ (fun W hW hJ hF => ?_) (fun K v hv hK => ?_); (focus (first | (simp only [Region.wanted]; done) | (go_simp; done))); (go_simp; simp only [Stg.relUpon_enter]; exact sect_dd (show DD w1 W w1.heap.size ga gb da (DevMath.fallen db keep torn (calls - k)) from hJ) cb); obtain ⟨A12, c12, rfl, hc12⟩ := hv; go_simp; refine hK _ ?_; clear hK K)
              | (refine Stg.wpR_valS (by rfl) ?_ (fun W hW hJ hF => ?_) (fun K hK => ?_); (focus (first | (simp only [Region.wanted]; done) | (go_simp; done))); (go_simp; simp only [Stg.relUpon_enter]; exact write_dd (show DD w1 W w1.heap.size ga gb da (DevMath.fallen db keep torn (calls - k)) from hJ) HCA.out q (show Sl W (.slice A12 512 c12) (DevMath.sec cb) from hF 12 rfl) HAE.out); go_simp; refine hK _ ?_; clear hK K)
              | (refine Stg.wpR_propS (by rfl) ?_ (fun W hW hJ hF => ?_) (fun K v hv hK => ?_); (focus (first | (simp only [Region.wanted]; done) | (go_simp; done))); (go_simp; simp only [Stg.relUpon_enter]; exact sect_dd (show DD w1 W w1.heap.size ga gb a1 (DevMath.fallen db keep torn (calls - k)) from hJ) cb); obtain ⟨A26, c26, rfl, hc26⟩ := hv; go_simp; refine hK _ ?_; clear hK K)
              | (refine Stg.wpR_valS (by rfl) ?_ (fun W hW hJ hF => ?_) (fun K hK => ?_); (focus (first | (simp only [Region.wanted]; done) | (go_simp; done))); (go_simp; simp only [Stg.relUpon_enter]; refine (write_dd (DD.swap (show DD w1 W w1.heap.size ga gb a1 (DevMath.fallen db keep torn (calls - k)) from hJ)) HCB.out q (show Sl W (.slice A26 512 c26) (DevMath.sec cb) from hF 26 rfl) HBE.out).mono ?_; rintro e1 w1' ⟨v, hv1, hv2, hv3, hv4⟩; exact ⟨v, hv1, hv2, hv3, hv4.swap⟩); go_simp; refine hK _ ?_; clear hK K))
            refine Stg.wpR_nil (fun W hW hJ hF => ?_)
            have HDe := Lib.hid (show DD w1 W w1.heap.size ga gb a1 b1 from hJ)
            clear hJ hF hW HCT c0 c1 c3
            go_wp2_with fail
            refine (ds_off HDe.out.fst).mono ?_
            rintro e w6 ⟨rfl, rfl⟩
            rw [HO1.out]
            go_wp2_with fail
            refine (ds_off HDe.out.swap.fst).mono ?_
            rintro e w7 ⟨rfl, rfl⟩
            rw [HO2.out]
            go_wp2
            go_roundw
            case rel => exact ⟨k + 1, by omega, by go_num, by go_num, a1, b1, HDe.out, by have := HT1.out; rwa [show calls - (k : Int) - 1 = calls - ((k + 1 : Nat) : Int) by omega] at this⟩
            case measure => simp [intOf]; omega
    · have hkn : Hid (k = n1) := Lib.hid (by omega)
      have hcon := Lib.hid (dd_on hd); have HT := Lib.hid hT
      clear hd hT
      go_wp2_with fail
      refine hcon.out.mono ?_
      rintro e w5 ⟨rfl, hd5, -⟩
      have hcon2 := Lib.hid (dd_on hd5.swap)
      clear hd5 hcon
      go_wp2_with fail
      refine hcon2.out.mono ?_
      rintro e w6 ⟨rfl, hd6, -⟩
      have HD6 := Lib.hid hd6.swap
      obtain ⟨ea, hea⟩ : ∃ e, e = ({ da with off := false } : DevMath.Dev) := ⟨_, rfl⟩
      obtain ⟨eb, heb⟩ : ∃ e, e = ({ db with off := false } : DevMath.Dev) := ⟨_, rfl⟩
      have HV : Hid (∀ j, ea.val j = eb.val j) := Lib.hid (by rw [hea, heb]; exact HT.out.val)
      have HEA : Hid (ea.off = false ∧ ea.sectors = 8 ∧ ea.cache.length ≤ 1000000) := Lib.hid (by rw [hea]; exact ⟨rfl, HT.out.sa, by show da.cache.length ≤ _; have := HT.out.ca; omega⟩)
      have HEB : Hid (eb.off = false ∧ eb.sectors = 8 ∧ eb.cache.length ≤ 1000000) := Lib.hid (by rw [heb]; exact ⟨rfl, HT.out.sb, by show db.cache.length ≤ _; rw [← HT.out.cache]; have := HT.out.ca; omega⟩)
      rw [← hea, ← heb] at HD6
      clear hea heb hd6 hcon2
      go_wp2_with fail
      rename World => wB
      go_loopw [17] (fun i wr => ∃ p : Nat, p ≤ 8 ∧ i = .int .i64 p ∧ DD w1 wr w1.heap.size ga gb ea eb) (fun i _ => 8 - (intOf i).toNat)
      case atStart => exact ⟨0, by omega, rfl, HD6.out⟩
      case round =>
        obtain ⟨p, hp, rfl, hd⟩ := hrel
        by_cases hlt2 : p < 8
        · have hltI : (p : Int) < 8 := by omega
          have hwp : IntKind.i64.wrap ((p : Int) + 1) = ((p + 1 : Nat) : Int) := by rw [IntKind.wrap_i64]; omega
          have hcon := Lib.hid (dd_read8 hd HEA.out p hlt2)
          clear hd
          go_wp2_with fail
          refine hcon.out.mono ?_
          rintro e w7 ⟨A7, c7, rfl, hs7, hc7, hd7, -⟩
          have hcon2 := Lib.hid (dd_read8 hd7.swap HEB.out p hlt2)
          have HS7 := Lib.hid hs7
          clear hd7 hs7 hcon
          go_wp2_with fail
          refine hcon2.out.mono ?_
          rintro e w8 ⟨A8, c8, rfl, hs8, hc8, hd8, hb8⟩
          have HD8 := Lib.hid hd8.swap
          have k7 := (HS7.out.below hb8).str
          have k8 := hs8.str
          rw [HV.out] at k7
          clear hs8 hd8 hcon2 hb8
          go_wp2
          go_roundw
          case rel => exact ⟨p + 1, by omega, by go_num, HD8.out⟩
          case measure => simp [intOf]; omega
        · have hltI : ¬ (p : Int) < 8 := by omega
          have HB := Lib.hid (below_then HB1.out HB1.out.size hd.bel)
          clear hd
          go_wp2
          go_ret
          exact ⟨rfl, HB.out⟩
end Go.Proofs.Ytbpecfbliglboaa
