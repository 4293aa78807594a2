/- The law DevSafe, walked: the walk. -/
import Derived.Test.YtbpecfbliglboaaDSafe
namespace Go.Proofs.Ytbpecfbliglboaa
open Go.RowKit Go.Maps
set_option linter.unusedVariables false
set_option linter.unusedSimpArgs false
attribute [local irreducible] wpR relOp
set_option maxRecDepth 20000 in
set_option maxHeartbeats 2000000 in
theorem DevSafe_ok (A1 A2 Ak : Option Addr) (c1 c2 ck : Nat) (xs ys : List ActD) (keep : List Int) (torn : Int) (w : World) (hr1 : Row KAct 5 w A1 xs) (hr2 : Row KAct 5 w A2 ys) (hk : IntR w (.slice Ak keep.length ck) keep) (h1 : xs.length ≤ 20) (h2 : ys.length ≤ 20) (h3 : keep.length ≤ 20) :
    Calls Try.prog 4 #[.slice A1 xs.length c1, .slice A2 ys.length c2, .slice Ak keep.length ck, .int .i64 torn] w fun e w' => e = .returned (.bool true) ∧ Below w.heap.size w w' := by
  obtain ⟨n1, hn1⟩ : ∃ n, n = xs.length := ⟨_, rfl⟩
  obtain ⟨n2, hn2⟩ : ∃ n, n = ys.length := ⟨_, rfl⟩
  obtain ⟨n3, hn3⟩ : ∃ n, n = keep.length := ⟨_, rfl⟩
  rw [← hn1] at h1 ⊢; rw [← hn2] at h2 ⊢; rw [← hn3] at h3 hk ⊢
  have HN1 := Lib.hid hn1; have HR1 := Lib.hid hr1; have HN2 := Lib.hid hn2; have HR2 := Lib.hid hr2; have HN3 := Lib.hid hn3; have HK := Lib.hid hk
  clear hn1 hr1 hn2 hr2 hn3 hk
  go_enter Try.func4, Try.ntmps4
  go_wp2_with fail
  refine (awake4_any w).mono ?_
  rintro e w1 ⟨rfl, hb1⟩
  have HB1 := Lib.hid hb1
  clear hb1
  go_wp2_with fail
  refine (ds_new w1 8 (by decide) (by decide)).mono ?_
  rintro e w2 ⟨g, rfl, hd2, -⟩
  have hd2b : DS w1 w2 w1.heap.size g (DevMath.Dev.new 8) := hd2
  have HD := Lib.hid hd2b
  clear hd2 hd2b
  go_wp2_with fail
  rename World => wA
  go_loopw [11] (fun i wr => ∃ k : Nat, k ≤ n1 ∧ i = .int .i64 k ∧ ∃ d, DS w1 wr w1.heap.size g d ∧ Calm d k) (fun i _ => n1 - (intOf i).toNat)
  case atStart => exact ⟨0, by omega, rfl, _, HD.out, rfl, rfl, rfl, Nat.le_refl _⟩
  case round =>
    obtain ⟨k, hk, rfl, d, hd, hL⟩ := hrel
    by_cases hlt : k < n1
    · have hkx : k < xs.length := by rw [← HN1.out]; exact hlt
      have hbw : Below w.heap.size w wr := below_then HB1.out HB1.out.size hd.bel
      obtain ⟨a, rfl, c0, c1, _, c3, _⟩ := act_at (acts_below HR1.out hbw) k hkx
      change wr.cell? (a.add (k * 5)) = some (.int .i64 (xs[k]'hkx).op) at c0
      change wr.cell? ⟨(a.add (k * 5)).block, (a.add (k * 5)).off + 1, none⟩ = some (.int .i64 (xs[k]'hkx).at_) at c1
      change wr.cell? ⟨(a.add (k * 5)).block, (a.add (k * 5)).off + 3, none⟩ = some (.int .u8 ((xs[k]'hkx).c.toNat : Int)) at c3
      obtain ⟨x, hx⟩ : ∃ x, xs[k]'hkx = x := ⟨_, rfl⟩
      rw [hx] at c0 c1 c3
      obtain ⟨op, at_, torn1, cb, keep1⟩ := x
      have HX := Lib.hid hx
      clear hx
      simp only at c0 c1 c3
      obtain ⟨q, hq⟩ : ∃ q : Nat, at_ % 8 = (q : Int) := ⟨(at_ % 8).toNat, by omega⟩
      have hq8 : q < 8 := by omega
      have hq8i : (q : Int) < 8 := by omega
      have hand : bits .and .i64 at_ 7 = (q : Int) := by rw [and7, hq]
      clear hq
      have HC : Hid (∀ W, Gr wr.heap.size wr.drew W → W.cell? (a.add (k * 5)) = some (.int .i64 op) ∧ W.cell? ⟨(a.add (k * 5)).block, (a.add (k * 5)).off + 1, none⟩ = some (.int .i64 at_) ∧ W.cell? ⟨(a.add (k * 5)).block, (a.add (k * 5)).off + 3, none⟩ = some (.int .u8 (cb.toNat : Int))) := Lib.hid fun W hW => by
        have h := Below.trans (Below.drew (Below.refl wr.heap.size wr)) hW.1
        exact ⟨cell_below h c0, cell_below h c1, cell_below h c3⟩
      have HD := Lib.hid hd; have HL := Lib.hid hL
      have hwk : IntKind.i64.wrap ((k : Int) + 1) = ((k + 1 : Nat) : Int) := by rw [IntKind.wrap_i64]; omega
      clear hd hL hbw
      go_wp2_with fail
      refine wp_region_tbl_tail _ 13 (lastTbl cb) wr.heap.size (by kernel_rfl) (by kernel_rfl) (by kernel_rfl) ?_; simp only [List.take_succ_cons, List.take_zero, List.drop_succ_cons, List.drop_zero]
      repeat (first
        | (refine wpR_plain ?_ (by rfl) (fun K hK => ?_); (focus (first | (simp only [Region.wanted]; done) | (go_simp; done))); apply Exists.intro; refine ⟨fun W hW => ?_, ?_⟩; (go_simp; (try simp only [plainUpon_value, true_and]); rfl); go_simp; refine hK _ ?_; clear hK K)
        | (refine wpR_plain ?_ (by rfl) (fun K hK => ?_); (focus (first | (simp only [Region.wanted]; done) | (go_simp; done))); apply Exists.intro; refine ⟨fun W hW => ?_, ?_⟩; (have hcw := HC.out W hW; go_simp; (try simp only [plainUpon_value, true_and]); rfl); go_simp; refine hK _ ?_; clear hK K)
        | (refine wpR_prop (by rfl) ?_ (fun W hW hF => ?_) (fun K v hv hK => ?_); (focus (first | (simp only [Region.wanted]; done) | (go_simp; done))); (go_simp; simp only [relUpon_enter]; exact sect_rel W _ cb rfl hW.size); obtain ⟨A12, c12, rfl, hc12⟩ := hv; go_simp; refine hK _ ?_; clear hK K))
      refine wpR_nil (fun W hW hF => ?_)
      have hbW := Below.trans (Below.drew (Below.refl wr.heap.size wr)) hW.1
      have hs12 : Sl W (.slice A12 512 c12) (DevMath.sec cb) := hF 12
      obtain ⟨d1, he1, hL1, _, _⟩ := HL.out.write q hq8 cb
      have hcon := ds_write (HD.out.below hbW) (by have := HL.out.ca; omega) q hs12 (by rw [DevMath.sec_len]; decide)
      rw [he1] at hcon
      have hcon := Lib.hid hcon; have HL1 := Lib.hid hL1
      clear hF hW hbW hs12 he1 hL1 c0 c1 c3 HC HD HL
      go_wp2_with fail
      refine hcon.out.mono ?_
      rintro e w4 ⟨rfl, hd4, -⟩
      have HD4 := Lib.hid hd4
      clear hd4 hcon
      go_wp2
      go_roundw
      case rel => exact ⟨k + 1, by omega, by go_num, _, HD4.out, HL1.out⟩
      case measure => simp [intOf]; omega
    · obtain rfl : k = n1 := by omega
      obtain ⟨d1, he1, hL1, hca⟩ := hL.flush
      have hcon := ds_flush hd (by have := hL.ca; omega)
      rw [he1] at hcon
      have hcon := Lib.hid hcon; have HL1 := Lib.hid hL1; have HCA := Lib.hid hca
      clear hd hL he1 hL1 hca
      go_wp2_with fail
      refine hcon.out.mono ?_
      rintro e w5 ⟨rfl, hd5, -⟩
      obtain ⟨gw, hgw⟩ : ∃ gw, gw = w5.heap.size := ⟨_, rfl⟩
      have HGW : Hid (w1.heap.size ≤ gw) := Lib.hid (by rw [hgw]; exact hd5.sz)
      have HD5 := Lib.hid hd5
      clear hd5 hcon
      have hz : Cb (w5.alloc (.cells #[.string ⟨#[]⟩, .string ⟨#[]⟩, .string ⟨#[]⟩, .string ⟨#[]⟩, .string ⟨#[]⟩, .string ⟨#[]⟩, .string ⟨#[]⟩, .string ⟨#[]⟩] 39)) gw 39 ((List.range 0).map (fun j : Nat => strv (d1.val j)) ++ List.replicate (8 - 0) (.string ⟨#[]⟩)) := heap_new _ _ _ hgw
      have HZ := Lib.hid hz
      have HDZ := Lib.hid (HD5.out.below ((Below.refl _ w5).alloc (Nat.le_refl _) (.cells #[.string ⟨#[]⟩, .string ⟨#[]⟩, .string ⟨#[]⟩, .string ⟨#[]⟩, .string ⟨#[]⟩, .string ⟨#[]⟩, .string ⟨#[]⟩, .string ⟨#[]⟩] 39)))
      clear hz HD5 HD
      go_wp2_with fail
      rw [← hgw]
      clear hgw
      rename World => wB
      go_loopw [13] (fun i wr => ∃ p : Nat, p ≤ 8 ∧ i = .int .i64 p ∧ DS w1 wr w1.heap.size g d1 ∧ Cb wr gw 39 ((List.range p).map (fun j : Nat => strv (d1.val j)) ++ List.replicate (8 - p) (.string ⟨#[]⟩))) (fun i _ => 8 - (intOf i).toNat)
      case atStart => exact ⟨0, by omega, rfl, HDZ.out, HZ.out⟩
      case round =>
        obtain ⟨p, hp, rfl, hd, hcb⟩ := hrel
        by_cases hlt2 : p < 8
        · have hcon := Lib.hid (ds_read8 hd HL1.out (by decide) p hlt2)
          have HCB := Lib.hid hcb
          have hltI : (p : Int) < 8 := by omega
          have hwp : IntKind.i64.wrap ((p : Int) + 1) = ((p + 1 : Nat) : Int) := by rw [IntKind.wrap_i64]; omega
          clear hd hcb HDZ HZ
          go_wp2_with fail
          refine hcon.out.mono ?_
          rintro e w6 ⟨A6, c6, rfl, hs6, hc6, hcv, hd6, hb6⟩
          have hcb6 := HCB.out.below hb6
          obtain ⟨e1, e2⟩ := hcb6.cell p (by rw [fill_len _ _ _ (by omega)]; exact hlt2)
          generalize ((List.range p).map (fun j : Nat => strv (d1.val j)) ++ List.replicate (8 - p) (.string ⟨#[]⟩))[p]'(by rw [fill_len _ _ _ (by omega)]; exact hlt2) = old at e1
          have hcbs := hcb6.set p (strv (d1.val p))
          rw [fill_set (fun j : Nat => strv (d1.val j)) _ p hlt2] at hcbs
          have HCS := Lib.hid hcbs
          have HDS := Lib.hid (hd6.set (i := p) (v := strv (d1.val p)) hcb6 HGW.out)
          obtain ⟨sv, hsv⟩ : ∃ sv, sv = strv (d1.val p) := ⟨_, rfl⟩
          rw [← hsv] at hcv HCS HDS
          obtain ⟨ssv, hssv⟩ : ∃ s, sv = .string s := ⟨_, hsv⟩
          subst hssv
          have HSV := Lib.hid hsv
          clear hs6 hd6 hb6 hcb6 hcbs hcon HCB hsv
          go_wp2
          go_roundw
          case rel => exact ⟨p + 1, by omega, by go_num, HDS.out, HCS.out⟩
          case measure => simp [intOf]; omega
        · have hp8 : Hid (p = 8) := Lib.hid (by omega)
          have hltI : ¬ (p : Int) < 8 := by omega
          obtain ⟨was, hwas⟩ : ∃ was, was = (List.range 8).map (fun j => d1.val (j : Nat)) := ⟨_, rfl⟩
          have hcw : Cb wr gw 39 (was.map strv) := by
            rw [hwas, List.map_map]
            have h := hcb
            rw [hp8.out] at h
            simp only [Nat.sub_self, List.replicate_zero, List.append_nil] at h
            exact h
          have hov : Over d1 0 was (List.replicate 8 false) := by
            refine ⟨HL1.out, by rw [hwas]; simp, by simp, fun j hj => ?_, fun r hr => by rw [HCA.out] at hr; cases hr⟩
            subst hwas
            rw [List.getElem_map, List.getElem_range]
            unfold DevMath.Dev.val
            rw [HCA.out]
            rfl
          obtain ⟨go, hgo⟩ : ∃ go, go = wr.heap.size := ⟨_, rfl⟩
          have HGO : Hid (w1.heap.size ≤ go) := Lib.hid (by rw [hgo]; exact hd.sz)
          have hz : Cb (wr.alloc (.cells #[.bool false, .bool false, .bool false, .bool false, .bool false, .bool false, .bool false, .bool false] 40)) go 40 ((List.replicate 8 false).map Value.bool) := heap_new _ _ _ hgo
          have HZ := Lib.hid hz
          have hbz := (Below.refl _ wr).alloc (Nat.le_refl _) (.cells #[.bool false, .bool false, .bool false, .bool false, .bool false, .bool false, .bool false, .bool false] 40)
          have HDZ := Lib.hid (hd.below hbz); have HCW := Lib.hid (hcw.below hbz); have HOV := Lib.hid hov
          clear hz hbz hcw hov hcb hd hwas
          go_wp2_with fail
          rw [← hgo]
          clear hgo
          rename World => wC
          go_loopw [17] (fun i wr => ∃ k : Nat, k ≤ n2 ∧ i = .int .i64 k ∧ ∃ d ov, DS w1 wr w1.heap.size g d ∧ Over d k was ov ∧ Cb wr go 40 (ov.map Value.bool) ∧ Cb wr gw 39 (was.map strv)) (fun i _ => n2 - (intOf i).toNat)
          case atStart => exact ⟨0, by omega, rfl, _, _, HDZ.out, HOV.out, HZ.out, HCW.out⟩
          case round =>
            obtain ⟨k, hk, rfl, d, ov, hd, hL, hco, hcw⟩ := hrel
            by_cases hlt : k < n2
            · have hkx : k < ys.length := by rw [← HN2.out]; exact hlt
              have hbw : Below w.heap.size w wr := below_then HB1.out HB1.out.size hd.bel
              obtain ⟨a, rfl, c0, c1, _, c3, _⟩ := act_at (acts_below HR2.out hbw) k hkx
              change wr.cell? (a.add (k * 5)) = some (.int .i64 (ys[k]'hkx).op) at c0
              change wr.cell? ⟨(a.add (k * 5)).block, (a.add (k * 5)).off + 1, none⟩ = some (.int .i64 (ys[k]'hkx).at_) at c1
              change wr.cell? ⟨(a.add (k * 5)).block, (a.add (k * 5)).off + 3, none⟩ = some (.int .u8 ((ys[k]'hkx).c.toNat : Int)) at c3
              obtain ⟨x, hx⟩ : ∃ x, ys[k]'hkx = x := ⟨_, rfl⟩
              rw [hx] at c0 c1 c3
              obtain ⟨op, at_, torn1, cb, keep1⟩ := x
              have HX := Lib.hid hx
              clear hx
              simp only at c0 c1 c3
              obtain ⟨q, hq⟩ : ∃ q : Nat, at_ % 8 = (q : Int) := ⟨(at_ % 8).toNat, by omega⟩
              have hq8 : q < 8 := by omega
              have hq8i : (q : Int) < 8 := by omega
              have hand : bits .and .i64 at_ 7 = (q : Int) := by rw [and7, hq]
              clear hq
              have HC : Hid (∀ W, Gr wr.heap.size wr.drew W → W.cell? (a.add (k * 5)) = some (.int .i64 op) ∧ W.cell? ⟨(a.add (k * 5)).block, (a.add (k * 5)).off + 1, none⟩ = some (.int .i64 at_) ∧ W.cell? ⟨(a.add (k * 5)).block, (a.add (k * 5)).off + 3, none⟩ = some (.int .u8 (cb.toNat : Int))) := Lib.hid fun W hW => by
                have h := Below.trans (Below.drew (Below.refl wr.heap.size wr)) hW.1
                exact ⟨cell_below h c0, cell_below h c1, cell_below h c3⟩
              have HD := Lib.hid hd; have HL := Lib.hid hL; have HCO := Lib.hid hco; have HCW := Lib.hid hcw
              have hwk : IntKind.i64.wrap ((k : Int) + 1) = ((k + 1 : Nat) : Int) := by rw [IntKind.wrap_i64]; omega
              clear hd hL hbw hco hcw
              go_wp2_with fail
              refine wp_region_tbl_tail _ 13 (lastTbl cb) wr.heap.size (by kernel_rfl) (by kernel_rfl) (by kernel_rfl) ?_; simp only [List.take_succ_cons, List.take_zero, List.drop_succ_cons, List.drop_zero]
              repeat (first
                | (refine wpR_plain ?_ (by rfl) (fun K hK => ?_); (focus (first | (simp only [Region.wanted]; done) | (go_simp; done))); apply Exists.intro; refine ⟨fun W hW => ?_, ?_⟩; (go_simp; (try simp only [plainUpon_value, true_and]); rfl); go_simp; refine hK _ ?_; clear hK K)
                | (refine wpR_plain ?_ (by rfl) (fun K hK => ?_); (focus (first | (simp only [Region.wanted]; done) | (go_simp; done))); apply Exists.intro; refine ⟨fun W hW => ?_, ?_⟩; (have hcw := HC.out W hW; go_simp; (try simp only [plainUpon_value, true_and]); rfl); go_simp; refine hK _ ?_; clear hK K)
                | (refine wpR_prop (by rfl) ?_ (fun W hW hF => ?_) (fun K v hv hK => ?_); (focus (first | (simp only [Region.wanted]; done) | (go_simp; done))); (go_simp; simp only [relUpon_enter]; exact sect_rel W _ cb rfl hW.size); obtain ⟨A12, c12, rfl, hc12⟩ := hv; go_simp; refine hK _ ?_; clear hK K))
              refine wpR_nil (fun W hW hF => ?_)
              have hbW := Below.trans (Below.drew (Below.refl wr.heap.size wr)) hW.1
              have hs12 : Sl W (.slice A12 512 c12) (DevMath.sec cb) := hF 12
              obtain ⟨d2, he1, hL2⟩ := HL.out.write q hq8 cb
              have hcon := ds_write (HD.out.below hbW) (by have := HL.out.calm.ca; omega) q hs12 (by rw [DevMath.sec_len]; decide)
              rw [he1] at hcon
              have hcon := Lib.hid hcon; have HL2 := Lib.hid hL2
              have HCO2 := Lib.hid (HCO.out.below hbW); have HCW2 := Lib.hid (HCW.out.below hbW)
              clear hF hW hbW hs12 he1 hL2 c0 c1 c3 HC HD HL
              go_wp2_with fail
              refine hcon.out.mono ?_
              rintro e w4 ⟨rfl, hd4, htk⟩
              have hco4 := HCO2.out.tk htk
              have hbw4 : Below w.heap.size w w4 := below_then HB1.out HB1.out.size hd4.bel
              obtain ⟨a', e', c0, c1, _⟩ := act_at (acts_below HR2.out hbw4) k hkx
              injection e' with e'
              subst e'
              have hxk : ys[k]'hkx = ⟨op, at_, torn1, cb, keep1⟩ := HX.out
              rw [hxk] at c0 c1
              simp only at c0 c1
              have hql : q < (ov.map Value.bool).length := by have hlo := HL2.out.lo; rw [List.length_set] at hlo; rw [List.length_map, hlo]; exact hq8
              obtain ⟨e1, e2⟩ := hco4.cell q hql
              have hcs := hco4.set q (.bool true)
              rw [← List.map_set] at hcs
              have HCS := Lib.hid hcs
              have HCW4 := Lib.hid ((HCW2.out.tk htk).set_other (i := q) (v := .bool true) ((HCW2.out.tk htk).ne hco4 (by decide)))
              have HDS := Lib.hid (hd4.set (i := q) (v := .bool true) hco4 HGO.out)
              generalize (ov.map Value.bool)[q]'hql = old at e1
              clear hd4 hcon htk hco4 hbw4 hcs HCO HCW HCO2 HCW2
              go_wp2
              go_roundw
              case rel => exact ⟨k + 1, by omega, by go_num, _, _, HDS.out, HL2.out, HCS.out, HCW4.out⟩
              case measure => simp [intOf]; omega
            · obtain rfl : k = n2 := by omega
              have hcon := Lib.hid (ds_crash hd (by have := hL.calm.ca; omega) torn (fun W _ hb => HK.out.below (below_then HB1.out HB1.out.size hb)) (by rw [← HN3.out]; omega))
              obtain ⟨hC2, hca2, hv2⟩ := hL.crash keep torn
              obtain ⟨e2, hde⟩ : ∃ e2, e2 = ({ d.crash keep torn with off := false } : DevMath.Dev) := ⟨_, rfl⟩
              have HDE := Lib.hid hde
              rw [← hde] at hC2 hca2 hv2
              have HC2 := Lib.hid hC2; have HCA2 := Lib.hid hca2; have HV2 := Lib.hid hv2; have HL2 := Lib.hid hL; have HCO := Lib.hid hco; have HCW := Lib.hid hcw
              clear hd hL hco hcw hC2 hca2 hv2 hde
              go_wp2_with fail
              refine hcon.out.mono ?_
              rintro e w7 ⟨rfl, hd7, htk7⟩
              have hcon2 := ds_on hd7
              rw [← HDE.out] at hcon2
              have hcon2 := Lib.hid hcon2; have HTK := Lib.hid htk7
              clear hd7 htk7 hcon
              go_wp2_with fail
              refine hcon2.out.mono ?_
              rintro e w8 ⟨rfl, hd8, htk8⟩
              have HD8 := Lib.hid hd8; have HCO8 := Lib.hid ((HCO.out.tk HTK.out).tk htk8); have HCW8 := Lib.hid ((HCW.out.tk HTK.out).tk htk8)
              clear hd8 htk8 HTK HCO HCW hcon2
              go_wp2_with fail
              rename World => wD
              go_loopw [18] (fun i wr => ∃ p : Nat, p ≤ 8 ∧ i = .int .i64 p ∧ DS w1 wr w1.heap.size g e2 ∧ Cb wr go 40 (ov.map Value.bool) ∧ Cb wr gw 39 (was.map strv)) (fun i _ => 8 - (intOf i).toNat)
              case atStart => exact ⟨0, by omega, rfl, HD8.out, HCO8.out, HCW8.out⟩
              case round =>
                obtain ⟨p, hp, rfl, hd, hco, hcw⟩ := hrel
                by_cases hlt2 : p < 8
                · have hcon := Lib.hid (ds_read8 hd HC2.out (by decide) p hlt2)
                  have hltI : (p : Int) < 8 := by omega
                  have hwp : IntKind.i64.wrap ((p : Int) + 1) = ((p + 1 : Nat) : Int) := by rw [IntKind.wrap_i64]; omega
                  have hpo : p < ov.length := by rw [HL2.out.lo]; exact hlt2
                  have hpw : p < was.length := by rw [HL2.out.lw]; exact hlt2
                  obtain ⟨o1, _⟩ := hco.cell p (by rw [List.length_map]; exact hpo)
                  obtain ⟨q1, _⟩ := hcw.cell p (by rw [List.length_map]; exact hpw)
                  rw [List.getElem_map] at o1 q1
                  have HCO := Lib.hid hco; have HCW := Lib.hid hcw
                  have hval := HV2.out p hpw
                  rw [List.getElem?_eq_getElem hpo] at hval
                  generalize ov[p]'hpo = ob at o1 hval
                  generalize was[p]'hpw = wl at q1 hval
                  have HVAL := Lib.hid hval
                  clear hd hco hcw hval HD8 HCO8 HCW8
                  go_wp2_with fail
                  refine hcon.out.mono ?_
                  rintro e w9 ⟨A6, c6, rfl, hs9, hc9, -, hd9, hb9⟩
                  have HD9 := Lib.hid hd9; have HCO9 := Lib.hid (HCO.out.below hb9); have HCW9 := Lib.hid (HCW.out.below hb9)
                  have o9 : w9.cell? ⟨go, p, none⟩ = some (.bool ob) := cell_below hb9 o1
                  have q9 : w9.cell? ⟨gw, p, none⟩ = some (strv wl) := cell_below hb9 q1
                  have HC : Hid (∀ W, Gr w9.heap.size w9.drew W → W.cell? ⟨go, p, none⟩ = some (.bool ob) ∧ W.cell? ⟨gw, p, none⟩ = some (.string ⟨wl.toArray⟩) ∧ (convert 33 9 (.slice A6 512 c6)).run Try.prog W = .ok (.string ⟨(e2.val p).toArray⟩) W) := Lib.hid fun W hW => by
                    have h := Below.trans (Below.drew (Below.refl w9.heap.size w9)) hW.1
                    exact ⟨cell_below h o9, cell_below h q9, (hs9.below h).str⟩
                  clear hd9 hb9 hs9 o9 q9 hcon HCO HCW o1 q1
                  cases ob with
                  | false =>
                    have hv : e2.val p = wl := HVAL.out rfl
                    rw [hv] at HC
                    clear hv
                    go_wp2_with fail
                    refine wp_region_tbl _ (fun _ => none) (w9.heap.size) (by kernel_rfl) (by kernel_rfl) (by kernel_rfl) ?_
                    repeat (first
                      | (refine wpR_plain ?_ (by rfl) (fun K hK => ?_); (focus (first | (simp only [Region.wanted]; done) | (go_simp; done))); apply Exists.intro; refine ⟨fun W hW => ?_, ?_⟩; (go_simp; (try simp only [plainUpon_value, true_and]); rfl); go_simp; refine hK _ ?_; clear hK K)
                      | (refine wpR_plain ?_ (by rfl) (fun K hK => ?_); (focus (first | (simp only [Region.wanted]; done) | (go_simp; done))); apply Exists.intro; refine ⟨fun W hW => ?_, ?_⟩; (have hcw := HC.out W hW; go_simp; (try simp only [plainUpon_value, true_and]); rfl); go_simp; refine hK _ ?_; clear hK K)
                      | (refine wpR_skip ?_ (fun K hK => ?_); (focus (first | (simp only [Region.wanted]; done) | (go_simp; done))); go_simp; refine hK _ ?_; clear hK K))
                    refine wpR_nil (fun W hW hF => ?_)
                    have hbW := Below.trans (Below.drew (Below.refl w9.heap.size w9)) hW.1
                    have HDW := Lib.hid (HD9.out.below hbW); have HCOW := Lib.hid (HCO9.out.below hbW); have HCWW := Lib.hid (HCW9.out.below hbW)
                    clear hF hW hbW HC HD9 HCO9 HCW9
                    go_wp2
                    go_roundw
                    case rel => exact ⟨p + 1, by omega, by go_num, HDW.out, HCOW.out, HCWW.out⟩
                    case measure => simp [intOf]; omega
                  | true =>
                    go_wp2_with fail
                    refine wp_region_tbl _ (fun _ => none) (w9.heap.size) (by kernel_rfl) (by kernel_rfl) (by kernel_rfl) ?_
                    repeat (first
                      | (refine wpR_plain ?_ (by rfl) (fun K hK => ?_); (focus (first | (simp only [Region.wanted]; done) | (go_simp; done))); apply Exists.intro; refine ⟨fun W hW => ?_, ?_⟩; (go_simp; (try simp only [plainUpon_value, true_and]); rfl); go_simp; refine hK _ ?_; clear hK K)
                      | (refine wpR_plain ?_ (by rfl) (fun K hK => ?_); (focus (first | (simp only [Region.wanted]; done) | (go_simp; done))); apply Exists.intro; refine ⟨fun W hW => ?_, ?_⟩; (have hcw := HC.out W hW; go_simp; (try simp only [plainUpon_value, true_and]); rfl); go_simp; refine hK _ ?_; clear hK K)
                      | (refine wpR_skip ?_ (fun K hK => ?_); (focus (first | (simp only [Region.wanted]; done) | (go_simp; done))); go_simp; refine hK _ ?_; clear hK K))
                    refine wpR_nil (fun W hW hF => ?_)
                    have hbW := Below.trans (Below.drew (Below.refl w9.heap.size w9)) hW.1
                    have HDW := Lib.hid (HD9.out.below hbW); have HCOW := Lib.hid (HCO9.out.below hbW); have HCWW := Lib.hid (HCW9.out.below hbW)
                    clear hF hW hbW HC HD9 HCO9 HCW9
                    go_wp2
                    go_roundw
                    case rel => exact ⟨p + 1, by omega, by go_num, HDW.out, HCOW.out, HCWW.out⟩
                    case measure => simp [intOf]; omega
                · obtain rfl : p = 8 := by omega
                  have hcon := ds_unsafe hd
                  rw [HCA2.out] at hcon
                  have hcon := Lib.hid hcon
                  have HB := Lib.hid (below_then HB1.out HB1.out.size hd.bel)
                  clear hd hco hcw
                  go_wp2_with fail
                  refine hcon.out.mono ?_
                  rintro e w9 ⟨rfl, rfl⟩
                  go_wp2
                  go_ret
                  exact ⟨rfl, HB.out⟩
end Go.Proofs.Ytbpecfbliglboaa
