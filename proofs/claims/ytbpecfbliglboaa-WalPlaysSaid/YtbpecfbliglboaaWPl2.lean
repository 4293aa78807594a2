/- The law WalPlays, walked. -/
import Derived.Test.YtbpecfbliglboaaWPl1
namespace Go.Proofs.Ytbpecfbliglboaa
open Go.RowKit Go.Maps
set_option linter.unusedVariables false
set_option linter.unusedSimpArgs false
attribute [local irreducible] Stu.wpR Stu.relOp
theorem wacts_below {w w1 : World} {A : Option Addr} {xs : List WAct} (h : Row KWAct 5 w A xs) (hb : Below w.heap.size w w1) : Row KWAct 5 w1 A xs := fun hp => by
  obtain ⟨a, e, hr⟩ := h hp
  refine ⟨a, e, fun j hj => ?_⟩
  obtain ⟨cs, h1, ⟨A', c, A2, c2, q1, q2, q3, q4, q5, q6, q7, q8, q9, q10⟩, h3⟩ := hr j hj
  refine ⟨cs, h1, ⟨A', c, A2, c2, q1, q2, q3, q4, q5, q6, q7.below hb, q8, q9, fun hp2 => ?_⟩, fun i hi => cell_below hb (h3 i hi)⟩
  obtain ⟨a2, e2, hr2⟩ := q10 hp2
  refine ⟨a2, e2, fun j2 hj2 => ?_⟩
  obtain ⟨cs2, p1, p2, p3⟩ := hr2 j2 hj2
  exact ⟨cs2, p1, p2, fun i hi => cell_below hb (p3 i hi)⟩
set_option maxRecDepth 100000 in
set_option maxHeartbeats 16000000 in
theorem WalPlays_ok (N : Nat) (A1 : Option Addr) (c1 : Nat) (xs : List WAct) (w : World) (hr1 : Row KWAct 5 w A1 xs) (hc1 : xs.length ≤ c1) (h1 : 8 ≤ N) (h2 : N ≤ 300) (h3 : xs.length ≤ 40) :
    Calls Try.prog 12 #[.int .i64 N, .slice A1 xs.length c1] w fun e w' => e = .returned (.bool true) ∧ Below w.heap.size w w' := by
  obtain ⟨n1, hn1⟩ : ∃ n, n = xs.length := ⟨_, rfl⟩
  rw [← hn1] at hc1 h3 ⊢
  have HN1 := Lib.hid hn1; have HR1 := Lib.hid hr1
  have i1 : ¬ (N : Int) < 8 := by omega
  have i2 : ¬ 300 < (N : Int) := by omega
  have i3 : ¬ (40 : Int) < (n1 : Int) := by omega
  clear hn1 hr1
  go_enter Try.func12, Try.ntmps12
  go_wp2_with fail
  refine (awake6_any w).mono ?_
  rintro e w1 ⟨rfl, hb1⟩
  have HB1 := Lib.hid hb1
  clear hb1
  go_wp2_with fail
  refine (lk_new w1 N h1 (by omega)).mono ?_
  rintro e w2 ⟨g, d1, rfl, hd1, ho1, hf1, -⟩
  have HO := Lib.hid (lk_open hd1 ho1 hf1)
  clear hd1 ho1 hf1
  go_wp2_with fail
  refine HO.out.mono ?_
  rintro e w3 ⟨gl0, rfl, hl3, -⟩
  have HP3 : Hid (PR w1 w3 g gl0 N d1 WalMath.empty false [] [] (.slice none 0 0) (.slice none 0 0)) := Lib.hid ⟨hl3.1, hl3.2.1.pi [] [], Stl.nil _, Stl.nil _, by simp⟩
  clear hl3 HO
  go_wp2_with fail
  rename World => wA
  go_loopw [7, 9, 10, 11, 12, 13, 14] (fun v7 v9 v10 v11 v12 v13 vi wr => ∃ k : Nat, k ≤ n1 ∧ vi = .int .i64 k ∧ ∃ gl d x dn al ot, v7 = .pointer (some ⟨gl, 0, none⟩) ∧ v9 = .string ⟨(x.buf.take x.base).toArray⟩ ∧ v11 = .string ⟨al.toArray⟩ ∧ v13 = .bool dn ∧ PR w1 wr g gl N d x dn al ot v10 v12) (fun _ _ _ _ _ _ vi _ => n1 - (intOf vi).toNat)
  case atStart => exact ⟨0, by omega, rfl, gl0, d1, WalMath.empty, false, [], [], rfl, rfl, rfl, rfl, HP3.out⟩
  case round =>
    obtain ⟨k, hk, rfl, gl, d, x, dn, al, ot, rfl, rfl, rfl, rfl, hp⟩ := hrel
    have HP := Lib.hid hp
    have hbw := below_then HB1.out HB1.out.size hp.bel
    have HBW := Lib.hid hbw
    clear hp HP3
    obtain ⟨A10, c10, rfl, hc10⟩ := HP.out.2.2.1.shp
    obtain ⟨A12, c12, rfl, hc12⟩ := HP.out.2.2.2.1.shp
    obtain ⟨m12, hm12⟩ : ∃ n, n = ot.length := ⟨_, rfl⟩
    rw [← hm12] at HP hc12 ⊢
    have HM12 := Lib.hid hm12
    clear hm12
    obtain ⟨nx, hnx⟩ : ∃ n, n = x.all.length := ⟨_, rfl⟩
    rw [← hnx] at HP hc10 ⊢
    have HNX := Lib.hid hnx
    have hnx2 : nx ≤ 200000 := by rw [hnx]; exact HP.out.2.1.small.2.2.1
    have hnx6 : nx ≤ 1000000 := by omega
    clear hnx
    obtain ⟨BS, hBS⟩ : ∃ s : ByteArray, s = ⟨(x.buf.take x.base).toArray⟩ := ⟨_, rfl⟩
    obtain ⟨AS, hAS⟩ : ∃ s : ByteArray, s = ⟨al.toArray⟩ := ⟨_, rfl⟩
    rw [← hBS, ← hAS]
    have HBS := Lib.hid hBS; have HAS := Lib.hid hAS
    clear hBS hAS
    by_cases hlt : k < n1
    · have hltI : (k : Int) < (n1 : Int) := by omega
      have hkx : k < xs.length := by rw [← HN1.out]; exact hlt
      obtain ⟨a, Ab, cb, Ak, ck, rfl, c0, e1, e2, e3, e4, hcb, hrb, hck, hik, wop, wn, wt⟩ := wact_at HR1.out k hkx
      generalize hx : xs[k]'hkx = act at *
      obtain ⟨op, an, torn, body, keep⟩ := act
      simp only at c0 e1 e2 e3 e4 hcb hrb hck hik wop wn wt
      obtain ⟨L, hLe⟩ : ∃ L, L = body.length := ⟨_, rfl⟩
      obtain ⟨M, hMe⟩ : ∃ M, M = keep.length := ⟨_, rfl⟩
      rw [← hLe] at e3 hcb; rw [← hMe] at e4 hck hik
      replace c0 := cell_below hbw c0; replace e1 := cell_below hbw e1; replace e2 := cell_below hbw e2; replace e3 := cell_below hbw e3; replace e4 := cell_below hbw e4
      have HLE := Lib.hid hLe; have HME := Lib.hid hMe; have HIK := Lib.hid hik; have HRB := Lib.hid hrb; have HWN := Lib.hid wn; have HWT := Lib.hid wt
      have hwk : IntKind.i64.wrap ((k : Int) + 1) = ((k + 1 : Nat) : Int) := by rw [IntKind.wrap_i64]; omega
      clear hx hrb hik hLe hMe wop wn wt hbw
      by_cases hL : L ≤ 2000
      · have hLI : ¬ (2000 : Int) < (L : Int) := by omega
        by_cases hM : M ≤ 40
        · have hMI : ¬ (40 : Int) < (M : Int) := by omega
          by_cases h0 : op = 0
          · subst h0
            obtain ⟨W1, hW1⟩ : ∃ W, W = wr.alloc (.cells #[.int .i64 0, .int .i64 an, .int .i64 torn, .slice Ab L cb, .slice Ak M ck] 66) := ⟨_, rfl⟩
            have hbb : Below wr.heap.size wr W1 := by rw [hW1]; exact below_new wr _
            have hbx : W1.heap[wr.heap.size]? = some (.cells #[.int .i64 0, .int .i64 an, .int .i64 torn, .slice Ab L cb, .slice Ak M ck] 66) := by rw [hW1]; exact heap_new wr _ _ rfl
            have kb0 : W1.cell? ⟨wr.heap.size, 0, none⟩ = some (.int .i64 0) := by rw [cell_of_row _ _ 0 _ _ _ hbx]; rfl
            have kb1 : W1.cell? ⟨wr.heap.size, 1, none⟩ = some (.int .i64 an) := by rw [cell_of_row _ _ 1 _ _ _ hbx]; rfl
            have kb2 : W1.cell? ⟨wr.heap.size, 2, none⟩ = some (.int .i64 torn) := by rw [cell_of_row _ _ 2 _ _ _ hbx]; rfl
            have kb3 : W1.cell? ⟨wr.heap.size, 3, none⟩ = some (.slice Ab L cb) := by rw [cell_of_row _ _ 3 _ _ _ hbx]; rfl
            have kb4 : W1.cell? ⟨wr.heap.size, 4, none⟩ = some (.slice Ak M ck) := by rw [cell_of_row _ _ 4 _ _ _ hbx]; rfl
            have HP1 := Lib.hid (HP.out.below hbb)
            have HBW1 := Lib.hid (below_then HB1.out HB1.out.size (HP.out.below hbb).bel)
            have HBX := Lib.hid hbx
            have HW1 := Lib.hid hW1
            clear hW1 hbb hbx
            go_wp2_with fail
            rw [← HW1.out]
            have HSZ : Hid (∀ W, TE 9 1 W1.heap.size W1.drew W → W1.heap.size ≤ W.heap.size) := Lib.hid fun W hW => hW.1.size
            have HBT : Hid (∀ W, TE 9 1 W1.heap.size W1.drew W → Below W1.heap.size W1 W) := Lib.hid fun W hW => Below.trans (Below.drew (Below.refl _ W1)) hW.1
            have HC : Hid (∀ W, TE 9 1 W1.heap.size W1.drew W → W.cell? ⟨wr.heap.size, 3, none⟩ = some (.slice Ab L cb)) := Lib.hid fun W hW => cell_below (HBT.out W hW) kb3
            have HST : Hid (∀ W, TE 9 1 W1.heap.size W1.drew W → Stl W (.slice A10 nx c10) x.all) := Lib.hid fun W hW => HP1.out.2.2.1.below (HBT.out W hW)
            have HRW : Hid (∀ W, TE 9 1 W1.heap.size W1.drew W → Rd W Ab body) := Lib.hid fun W hW => (HRB.out.below HBW1.out).below (HBT.out W hW)
            refine Stu.wp_region_stu _ (Stu.mkT [(1, slit0 W1.heap.size), (3, sap W1.heap.size nx x.all), (6, sval W1.heap.size (.string ⟨body.toArray⟩)), (7, slit1 W1.heap.size ⟨body.toArray⟩), (8, sap W1.heap.size (nx + 1) (x.all ++ [body]))]) (fun _ => True) [3, 8] (TE.refl _ _ _) TE.trans Gs.te (fun _ _ _ _ => trivial) trivial (Stu.mkT_ks _ (by show List.Nodup [1, 3, 6, 7, 8]; decide) _ rfl) (by kernel_rfl) (by kernel_rfl) (by kernel_rfl) ?_
            repeat (refine Stu.wpR_plain ?_ (by rfl) (by rfl) (fun K hK => ?_); (focus (first | (simp only [Region.wanted]; done) | (go_simp; done))); apply Exists.intro; refine ⟨fun W hW => ?_, ?_⟩; (go_simp; (try simp only [Stu.plainUpon_value, true_and]); rfl); go_simp; refine hK _ ?_; clear hK K)
            (refine Stu.wpR_spg (by rfl) (by rfl) ?_ ?_ (fun W hW hF => ?_) (fun K v hv hK => ?_); (focus (first | (simp only [Region.wanted]; done) | (go_simp; done))); (focus (exact ⟨_, 0, rfl⟩)); (go_simp; exact ⟨⟨(Below.refl _ W).alloc (Nat.le_refl _) _, HSZ.out W hW⟩, ⟨_, rfl⟩, _, rfl, HSZ.out W hW, heap_new _ _ _ rfl⟩); (obtain ⟨g1, rfl⟩ := hv); go_simp; refine hK _ ?_; clear hK K)
            repeat (refine Stu.wpR_plain ?_ (by rfl) (by rfl) (fun K hK => ?_); (focus (first | (simp only [Region.wanted]; done) | (go_simp; done))); apply Exists.intro; refine ⟨fun W hW => ?_, ?_⟩; (go_simp; (try simp only [Stu.plainUpon_value, true_and]); rfl); go_simp; refine hK _ ?_; clear hK K)
            (refine Stu.wpR_spu (by rfl) (by rfl) ?_ ?_ (fun W hW hU hF => ?_) (fun K v hv hK => ?_); (focus (first | (simp only [Region.wanted]; done) | (go_simp; done))); (focus (exact ⟨_, none, _, rfl, Nat.le_refl _⟩)); (obtain ⟨g', z1, z2, z3⟩ := (show (slit0 W1.heap.size).q [] (.slice (some ⟨g1, 0, none⟩) 0 0) W from hF 1 rfl); cases z1; exact sap1_rel rfl rfl rfl z3 z2 (HSZ.out W hW) (HST.out W hW) HNX.out hnx6 _); (obtain ⟨A3, c3, rfl, hc3⟩ := hv); go_simp; refine hK _ ?_; clear hK K)
            repeat (refine Stu.wpR_plain ?_ (by rfl) (by rfl) (fun K hK => ?_); (focus (first | (simp only [Region.wanted]; done) | (go_simp; done))); apply Exists.intro; refine ⟨fun W hW => ?_, ?_⟩; (go_simp; (try simp only [Stu.plainUpon_value, true_and]); rfl); go_simp; refine hK _ ?_; clear hK K)
            (refine Stu.wpR_plain ?_ (by rfl) (by rfl) (fun K hK => ?_); (focus (first | (simp only [Region.wanted]; done) | (go_simp; done))); apply Exists.intro; refine ⟨fun W hW => ?_, ?_⟩; (have hcw := HC.out W hW; go_simp; (try simp only [Stu.plainUpon_value, true_and]); rfl); go_simp; refine hK _ ?_; clear hK K)
            (refine Stu.wpR_spg (by rfl) (by rfl) ?_ ?_ (fun W hW hF => ?_) (fun K v hv hK => ?_); (focus (first | (simp only [Region.wanted]; done) | (go_simp; done))); (focus (exact ⟨_, rfl⟩)); (have hcw := (HRW.out W hW).str L cb HLE.out.symm; go_simp; exact ⟨⟨Below.refl _ _, HSZ.out W hW⟩, rfl, trivial⟩); (cases hv); go_simp; refine hK _ ?_; clear hK K)
            (refine Stu.wpR_spg (by rfl) (by rfl) ?_ ?_ (fun W hW hF => ?_) (fun K v hv hK => ?_); (focus (first | (simp only [Region.wanted]; done) | (go_simp; done))); (focus (exact ⟨_, 0, rfl⟩)); (go_simp; exact ⟨⟨(Below.refl _ W).alloc (Nat.le_refl _) _, HSZ.out W hW⟩, ⟨_, rfl⟩, _, rfl, heap_new _ _ _ rfl⟩); (obtain ⟨g7, rfl⟩ := hv); go_simp; refine hK _ ?_; clear hK K)
            (refine Stu.wpR_spu (by rfl) (by rfl) ?_ ?_ (fun W hW hU hF => ?_) (fun K v hv hK => ?_); (focus (first | (simp only [Region.wanted]; done) | (go_simp; done))); (focus (exact ⟨_, none, _, rfl, Nat.le_refl _⟩)); (obtain ⟨g', z1, z3⟩ := (show (slit1 W1.heap.size ⟨body.toArray⟩).q [] (.slice (some ⟨g7, 0, none⟩) 1 1) W from hF 7 rfl); cases z1; exact sap2_rel rfl rfl rfl z3 (HSZ.out W hW) hnx6 (show SAp W1.heap.size nx x.all (.slice A3 nx c3) W from hU) _); (obtain ⟨A8, c8, rfl, hc8⟩ := hv); go_simp; refine hK _ ?_; clear hK K)
            repeat (refine Stu.wpR_plain ?_ (by rfl) (by rfl) (fun K hK => ?_); (focus (first | (simp only [Region.wanted]; done) | (go_simp; done))); apply Exists.intro; refine ⟨fun W hW => ?_, ?_⟩; (go_simp; (try simp only [Stu.plainUpon_value, true_and]); rfl); go_simp; refine hK _ ?_; clear hK K)
            refine Stu.wpR_nil (fun W2 hW hU hF => ?_)
            have HB2 := Lib.hid (HBT.out W2 hW)
            have HNR : Hid (Stl W2 (.slice A8 (nx + 1) c8) (x.all ++ [body])) := Lib.hid (Stl.of_row (base := W1.heap.size) (by
              have h9 := (show SAp W1.heap.size (nx + 1) (x.all ++ [body]) (.slice A8 (nx + 1) c8) W2 from hU).1
              have h8 : (x.all ++ [body]).length = nx + 1 := by rw [List.length_append, ← HNX.out]; rfl
              unfold Sow
              rw [h8]
              exact h9))
            clear hW hU hF HC HST HRW HBT HSZ
            have HP2 := Lib.hid (HP1.out.below HB2.out)
            have hb0 := cell_below HB2.out kb0
            have hb3 := cell_below HB2.out kb3
            have HHRD : Hid (∀ W, Below w1.heap.size w1 W → Rd W Ab body) := Lib.hid fun W hb => HRB.out.below (below_then HB1.out HB1.out.size hb)
            clear kb0 kb1 kb2 kb3 kb4
            generalize wr.heap.size = gb at *
            cases dn with
            | true =>
              have hno := wadd_no HP2.out.1 Ab L cb (show mayE true L ≠ 0 by show (7 : Int) ≠ 0; decide)
              rw [show mayE true L = 7 from rfl] at hno
              have HNO := Lib.hid hno
              clear hno
              (go_wp2_with fail
               refine HNO.out.mono ?_
               rintro e W2 ⟨rfl, rfl⟩
               have HDN := Lib.hid (wdone_any HP2.out.1)
               go_wp2_with fail
               refine HDN.out.mono ?_
               rintro e W2 ⟨rfl, rfl⟩)
              obtain ⟨A10t, c10t, hv10t, _⟩ := HP2.out.2.2.1.shp
              have HNXT := Lib.hid HP2.out.2.1.small.2.2.1
              have HBA := Lib.hid (pr_base HP2.out)
              clear hv10t
              go_wp2_with fail
              refine HBA.out.mono ?_
              rintro e wa ⟨va, rfl, hsa, hba⟩
              obtain ⟨Aa, ca, rfl, hca, _⟩ := hsa.rd
              have hcv := hsa.str
              rw [← HBS.out] at hcv
              generalize hlb : (List.take (x).base (x).buf).length = lb at *
              have HPa := Lib.hid (HP2.out.below hba)
              have HAL := Lib.hid (pr_all HPa.out)
              clear hsa hba hca HBA hlb
              go_wp2_with fail
              refine HAL.out.mono ?_
              rintro e wb ⟨vb, rfl, hsb, hbb⟩
              obtain ⟨Ab9, cb9, rfl, hcb9⟩ := hsb.shp
              have HPb := Lib.hid (HPa.out.below hbb)
              rw [← HNX.out] at hsb ⊢
              have hro := rows_any wb wa.heap.size Ab9 _ _ _ cb9 _ _ _ HNX.out HNX.out hsb HPb.out.2.2.1.str (by rw [HNX.out]; exact Nat.le_trans HNXT.out (by decide))
              rw [decide_eq_true rfl] at hro
              have HRO := Lib.hid hro
              clear hsb hbb hro hcb9 hcv HAL
              go_wp2_with fail
              refine HRO.out.mono ?_
              rintro e wc ⟨rfl, hbc⟩
              have HPc := Lib.hid (HPb.out.below hbc)
              clear hbc HRO
              go_wp2
              go_roundw
              case rel => exact ⟨k + 1, by omega, by go_num, _, _, _, _, _, _, rfl, by rw [HBS.out], by rw [HAS.out], rfl, HPc.out⟩
              case measure => simp [intOf]; omega
            | false =>
              have hmz : mayE false L = 0 := by unfold mayE; simp; omega
              have hsec := HP2.out.2.1.sec
              have h8 := HP2.out.2.1.n8; have h9 := HP2.out.2.1.n9
              by_cases hfit : (WalMath.addB x body).length ≤ WalMath.room N
              · have hgo := wadd_go HP2.out.1 (by omega) (by omega) HP2.out.2.1.ca (by rw [hsec]; exact HP2.out.2.1.wf) Ab L cb body HLE.out (fun W hb _ => HHRD.out W hb) hmz (by rw [hsec]; exact hfit)
                have hwent := WalMath.went_add HP2.out.2.1.ok (by rw [← HLE.out]; omega : body.length ≤ 200000) hfit
                have hwf := WalMath.wf_add HP2.out.2.1.wf (by rw [← HLE.out]; omega : body.length ≤ 200000) hfit
                obtain ⟨R, hR⟩ : ∃ R, R = WalMath.addR d x body := ⟨_, rfl⟩
                rw [← hR] at hgo hwent
                by_cases hR0 : R.2 = 0
                · rw [show comE R = 0 from if_pos hR0, show addX R x body = WalMath.addX x body from if_pos hR0, show comD R false = false from if_pos hR0] at hgo
                  have HGO := Lib.hid hgo
                  have HPI := Lib.hid ((hwent.ok h8 h9 hwf hR0).pi al ot)
                  have HNX3 : Hid (nx + 1 = (WalMath.addX x body).all.length) := Lib.hid (by show _ = (x.all ++ [body]).length; rw [List.length_append, ← HNX.out]; rfl)
                  have HBS3 : Hid (BS = ⟨((WalMath.addX x body).buf.take (WalMath.addX x body).base).toArray⟩) := Lib.hid (by rw [addX_base x body HP2.out.2.1.small.1]; exact HBS.out)
                  clear hgo hwent hwf hR hR0 hfit hmz hsec h8 h9
                  go_wp2_with fail
                  refine HGO.out.mono ?_
                  rintro e w5 ⟨rfl, hls5, htl5⟩
                  have HP5 : Hid (PR w1 w5 g gl N R.1 (WalMath.addX x body) false al ot (.slice A8 (nx + 1) c8) (.slice A12 m12 c12)) := Lib.hid ⟨hls5, HPI.out, HNR.out.tl htl5, HP2.out.2.2.2.1.tl htl5, HP2.out.2.2.2.2⟩
                  clear hls5 htl5
                  obtain ⟨A10t, c10t, hv10t, _⟩ := HP5.out.2.2.1.shp
                  have HNXT := Lib.hid HP5.out.2.1.small.2.2.1
                  have HBA := Lib.hid (pr_base HP5.out)
                  clear hv10t
                  go_wp2_with fail
                  refine HBA.out.mono ?_
                  rintro e wa ⟨va, rfl, hsa, hba⟩
                  obtain ⟨Aa, ca, rfl, hca, _⟩ := hsa.rd
                  have hcv := hsa.str
                  rw [← HBS3.out] at hcv
                  generalize hlb : (List.take (WalMath.addX x body).base (WalMath.addX x body).buf).length = lb at *
                  have HPa := Lib.hid (HP5.out.below hba)
                  have HAL := Lib.hid (pr_all HPa.out)
                  clear hsa hba hca HBA hlb
                  go_wp2_with fail
                  refine HAL.out.mono ?_
                  rintro e wb ⟨vb, rfl, hsb, hbb⟩
                  obtain ⟨Ab9, cb9, rfl, hcb9⟩ := hsb.shp
                  have HPb := Lib.hid (HPa.out.below hbb)
                  rw [← HNX3.out] at hsb ⊢
                  have hro := rows_any wb wa.heap.size Ab9 _ _ _ cb9 _ _ _ HNX3.out HNX3.out hsb HPb.out.2.2.1.str (by rw [HNX3.out]; exact Nat.le_trans HNXT.out (by decide))
                  rw [decide_eq_true rfl] at hro
                  have HRO := Lib.hid hro
                  clear hsb hbb hro hcb9 hcv HAL
                  go_wp2_with fail
                  refine HRO.out.mono ?_
                  rintro e wc ⟨rfl, hbc⟩
                  have HPc := Lib.hid (HPb.out.below hbc)
                  clear hbc HRO
                  go_wp2
                  go_roundw
                  case rel => exact ⟨k + 1, by omega, by go_num, _, _, _, _, _, _, rfl, by rw [HBS3.out], by rw [HAS.out], rfl, HPc.out⟩
                  case measure => simp [intOf]; omega
                · rw [show comE R = 7 from if_neg hR0, show addX R x body = x from if_neg hR0, show comD R false = true from if_neg hR0] at hgo
                  have HGO := Lib.hid hgo
                  have hpi := WalMath.PI.fell HP2.out.2.1.ok hwent hwf hR0
                  rw [show (List.take (WalMath.Lg.mk x.region x.base (WalMath.addB x body) (x.all ++ [body])).base (WalMath.Lg.mk x.region x.base (WalMath.addB x body) (x.all ++ [body])).buf) = x.buf.take x.base from addX_base x body HP2.out.2.1.small.1] at hpi
                  have HPI := Lib.hid hpi
                  have hl6 : (x.all ++ [body]).length ≤ 1000000 := by rw [List.length_append, ← HNX.out]; show nx + 1 ≤ _; omega
                  have HL6 := Lib.hid hl6
                  clear hgo hwent hwf hR hR0 hfit hmz hsec h8 h9 hpi hl6
                  go_wp2_with fail
                  refine HGO.out.mono ?_
                  rintro e w5 ⟨rfl, hls5, htl5⟩
                  have HP5 : Hid (PR w1 w5 g gl N R.1 x true (x.buf.take x.base) (x.all ++ [body]) (.slice A10 nx c10) (.slice A8 (nx + 1) c8)) := Lib.hid ⟨hls5, HPI.out, HP2.out.2.2.1.tl htl5, HNR.out.tl htl5, HL6.out⟩
                  have HDN := Lib.hid (wdone_any hls5)
                  clear hls5 htl5
                  go_wp2_with fail
                  refine HDN.out.mono ?_
                  rintro e w5 ⟨rfl, rfl⟩
                  obtain ⟨A10t, c10t, hv10t, _⟩ := HP5.out.2.2.1.shp
                  have HNXT := Lib.hid HP5.out.2.1.small.2.2.1
                  have HBA := Lib.hid (pr_base HP5.out)
                  clear hv10t
                  go_wp2_with fail
                  refine HBA.out.mono ?_
                  rintro e wa ⟨va, rfl, hsa, hba⟩
                  obtain ⟨Aa, ca, rfl, hca, _⟩ := hsa.rd
                  have hcv := hsa.str
                  rw [← HBS.out] at hcv
                  generalize hlb : (List.take (x).base (x).buf).length = lb at *
                  have HPa := Lib.hid (HP5.out.below hba)
                  have HAL := Lib.hid (pr_all HPa.out)
                  clear hsa hba hca HBA hlb
                  go_wp2_with fail
                  refine HAL.out.mono ?_
                  rintro e wb ⟨vb, rfl, hsb, hbb⟩
                  obtain ⟨Ab9, cb9, rfl, hcb9⟩ := hsb.shp
                  have HPb := Lib.hid (HPa.out.below hbb)
                  rw [← HNX.out] at hsb ⊢
                  have hro := rows_any wb wa.heap.size Ab9 _ _ _ cb9 _ _ _ HNX.out HNX.out hsb HPb.out.2.2.1.str (by rw [HNX.out]; exact Nat.le_trans HNXT.out (by decide))
                  rw [decide_eq_true rfl] at hro
                  have HRO := Lib.hid hro
                  clear hsb hbb hro hcb9 hcv HAL
                  go_wp2_with fail
                  refine HRO.out.mono ?_
                  rintro e wc ⟨rfl, hbc⟩
                  have HPc := Lib.hid (HPb.out.below hbc)
                  clear hbc HRO
                  go_wp2
                  go_roundw
                  case rel => exact ⟨k + 1, by omega, by go_num, _, _, _, _, _, _, rfl, by rw [HBS.out], by rw [HBS.out], rfl, HPc.out⟩
                  case measure => simp [intOf]; omega
              · have hful := wadd_full HP2.out.1 (by omega) (by omega) (by rw [hsec]; exact HP2.out.2.1.wf) Ab L cb body HLE.out (fun W hb _ => HHRD.out W hb) hmz (by rw [hsec]; omega)
                have HFU := Lib.hid hful
                clear hful hfit hmz hsec h8 h9
                go_wp2_with fail
                refine HFU.out.mono ?_
                rintro e w5 ⟨rfl, -, hb5⟩
                have HP5 := Lib.hid (HP2.out.below hb5)
                clear hb5
                obtain ⟨A10t, c10t, hv10t, _⟩ := HP5.out.2.2.1.shp
                have HNXT := Lib.hid HP5.out.2.1.small.2.2.1
                have HBA := Lib.hid (pr_base HP5.out)
                clear hv10t
                go_wp2_with fail
                refine HBA.out.mono ?_
                rintro e wa ⟨va, rfl, hsa, hba⟩
                obtain ⟨Aa, ca, rfl, hca, _⟩ := hsa.rd
                have hcv := hsa.str
                rw [← HBS.out] at hcv
                generalize hlb : (List.take (x).base (x).buf).length = lb at *
                have HPa := Lib.hid (HP5.out.below hba)
                have HAL := Lib.hid (pr_all HPa.out)
                clear hsa hba hca HBA hlb
                go_wp2_with fail
                refine HAL.out.mono ?_
                rintro e wb ⟨vb, rfl, hsb, hbb⟩
                obtain ⟨Ab9, cb9, rfl, hcb9⟩ := hsb.shp
                have HPb := Lib.hid (HPa.out.below hbb)
                rw [← HNX.out] at hsb ⊢
                have hro := rows_any wb wa.heap.size Ab9 _ _ _ cb9 _ _ _ HNX.out HNX.out hsb HPb.out.2.2.1.str (by rw [HNX.out]; exact Nat.le_trans HNXT.out (by decide))
                rw [decide_eq_true rfl] at hro
                have HRO := Lib.hid hro
                clear hsb hbb hro hcb9 hcv HAL
                go_wp2_with fail
                refine HRO.out.mono ?_
                rintro e wc ⟨rfl, hbc⟩
                have HPc := Lib.hid (HPb.out.below hbc)
                clear hbc HRO
                go_wp2
                go_roundw
                case rel => exact ⟨k + 1, by omega, by go_num, _, _, _, _, _, _, rfl, by rw [HBS.out], by rw [HAS.out], rfl, HPc.out⟩
                case measure => simp [intOf]; omega
          · have q0 : (op == 0) = false := by rw [beq_eq_false_iff_ne]; exact h0
            have q0' : decide (op = 0) = false := decide_eq_false h0
            by_cases h1 : op = 1
            · subst h1
              obtain ⟨W1, hW1⟩ : ∃ W, W = wr.alloc (.cells #[.int .i64 1, .int .i64 an, .int .i64 torn, .slice Ab L cb, .slice Ak M ck] 66) := ⟨_, rfl⟩
              have hbb : Below wr.heap.size wr W1 := by rw [hW1]; exact below_new wr _
              have hbx : W1.heap[wr.heap.size]? = some (.cells #[.int .i64 1, .int .i64 an, .int .i64 torn, .slice Ab L cb, .slice Ak M ck] 66) := by rw [hW1]; exact heap_new wr _ _ rfl
              have kb0 : W1.cell? ⟨wr.heap.size, 0, none⟩ = some (.int .i64 1) := by rw [cell_of_row _ _ 0 _ _ _ hbx]; rfl
              have kb1 : W1.cell? ⟨wr.heap.size, 1, none⟩ = some (.int .i64 an) := by rw [cell_of_row _ _ 1 _ _ _ hbx]; rfl
              have kb2 : W1.cell? ⟨wr.heap.size, 2, none⟩ = some (.int .i64 torn) := by rw [cell_of_row _ _ 2 _ _ _ hbx]; rfl
              have kb3 : W1.cell? ⟨wr.heap.size, 3, none⟩ = some (.slice Ab L cb) := by rw [cell_of_row _ _ 3 _ _ _ hbx]; rfl
              have kb4 : W1.cell? ⟨wr.heap.size, 4, none⟩ = some (.slice Ak M ck) := by rw [cell_of_row _ _ 4 _ _ _ hbx]; rfl
              have HP1 := Lib.hid (HP.out.below hbb)
              have HBW1 := Lib.hid (below_then HB1.out HB1.out.size (HP.out.below hbb).bel)
              have HBX := Lib.hid hbx
              have HW1 := Lib.hid hW1
              clear hW1 hbb hbx
              go_wp2_with fail
              rw [← HW1.out]
              have HSZ : Hid (∀ W, TE 9 1 W1.heap.size W1.drew W → W1.heap.size ≤ W.heap.size) := Lib.hid fun W hW => hW.1.size
              have HBT : Hid (∀ W, TE 9 1 W1.heap.size W1.drew W → Below W1.heap.size W1 W) := Lib.hid fun W hW => Below.trans (Below.drew (Below.refl _ W1)) hW.1
              have HC : Hid (∀ W, TE 9 1 W1.heap.size W1.drew W → W.cell? ⟨wr.heap.size, 3, none⟩ = some (.slice Ab L cb)) := Lib.hid fun W hW => cell_below (HBT.out W hW) kb3
              have HST : Hid (∀ W, TE 9 1 W1.heap.size W1.drew W → Stl W (.slice A10 nx c10) x.all) := Lib.hid fun W hW => HP1.out.2.2.1.below (HBT.out W hW)
              have HRW : Hid (∀ W, TE 9 1 W1.heap.size W1.drew W → Rd W Ab body) := Lib.hid fun W hW => (HRB.out.below HBW1.out).below (HBT.out W hW)
              refine Stu.wp_region_stu _ (Stu.mkT [(1, slit0 W1.heap.size), (3, sap W1.heap.size nx x.all), (6, sval W1.heap.size (.string ⟨body.toArray⟩)), (7, slit1 W1.heap.size ⟨body.toArray⟩), (8, sap W1.heap.size (nx + 1) (x.all ++ [body]))]) (fun _ => True) [3, 8] (TE.refl _ _ _) TE.trans Gs.te (fun _ _ _ _ => trivial) trivial (Stu.mkT_ks _ (by show List.Nodup [1, 3, 6, 7, 8]; decide) _ rfl) (by kernel_rfl) (by kernel_rfl) (by kernel_rfl) ?_
              repeat (refine Stu.wpR_plain ?_ (by rfl) (by rfl) (fun K hK => ?_); (focus (first | (simp only [Region.wanted]; done) | (go_simp; done))); apply Exists.intro; refine ⟨fun W hW => ?_, ?_⟩; (go_simp; (try simp only [Stu.plainUpon_value, true_and]); rfl); go_simp; refine hK _ ?_; clear hK K)
              (refine Stu.wpR_spg (by rfl) (by rfl) ?_ ?_ (fun W hW hF => ?_) (fun K v hv hK => ?_); (focus (first | (simp only [Region.wanted]; done) | (go_simp; done))); (focus (exact ⟨_, 0, rfl⟩)); (go_simp; exact ⟨⟨(Below.refl _ W).alloc (Nat.le_refl _) _, HSZ.out W hW⟩, ⟨_, rfl⟩, _, rfl, HSZ.out W hW, heap_new _ _ _ rfl⟩); (obtain ⟨g1, rfl⟩ := hv); go_simp; refine hK _ ?_; clear hK K)
              repeat (refine Stu.wpR_plain ?_ (by rfl) (by rfl) (fun K hK => ?_); (focus (first | (simp only [Region.wanted]; done) | (go_simp; done))); apply Exists.intro; refine ⟨fun W hW => ?_, ?_⟩; (go_simp; (try simp only [Stu.plainUpon_value, true_and]); rfl); go_simp; refine hK _ ?_; clear hK K)
              (refine Stu.wpR_spu (by rfl) (by rfl) ?_ ?_ (fun W hW hU hF => ?_) (fun K v hv hK => ?_); (focus (first | (simp only [Region.wanted]; done) | (go_simp; done))); (focus (exact ⟨_, none, _, rfl, Nat.le_refl _⟩)); (obtain ⟨g', z1, z2, z3⟩ := (show (slit0 W1.heap.size).q [] (.slice (some ⟨g1, 0, none⟩) 0 0) W from hF 1 rfl); cases z1; exact sap1_rel rfl rfl rfl z3 z2 (HSZ.out W hW) (HST.out W hW) HNX.out hnx6 _); (obtain ⟨A3, c3, rfl, hc3⟩ := hv); go_simp; refine hK _ ?_; clear hK K)
              repeat (refine Stu.wpR_plain ?_ (by rfl) (by rfl) (fun K hK => ?_); (focus (first | (simp only [Region.wanted]; done) | (go_simp; done))); apply Exists.intro; refine ⟨fun W hW => ?_, ?_⟩; (go_simp; (try simp only [Stu.plainUpon_value, true_and]); rfl); go_simp; refine hK _ ?_; clear hK K)
              (refine Stu.wpR_plain ?_ (by rfl) (by rfl) (fun K hK => ?_); (focus (first | (simp only [Region.wanted]; done) | (go_simp; done))); apply Exists.intro; refine ⟨fun W hW => ?_, ?_⟩; (have hcw := HC.out W hW; go_simp; (try simp only [Stu.plainUpon_value, true_and]); rfl); go_simp; refine hK _ ?_; clear hK K)
              (refine Stu.wpR_spg (by rfl) (by rfl) ?_ ?_ (fun W hW hF => ?_) (fun K v hv hK => ?_); (focus (first | (simp only [Region.wanted]; done) | (go_simp; done))); (focus (exact ⟨_, rfl⟩)); (have hcw := (HRW.out W hW).str L cb HLE.out.symm; go_simp; exact ⟨⟨Below.refl _ _, HSZ.out W hW⟩, rfl, trivial⟩); (cases hv); go_simp; refine hK _ ?_; clear hK K)
              (refine Stu.wpR_spg (by rfl) (by rfl) ?_ ?_ (fun W hW hF => ?_) (fun K v hv hK => ?_); (focus (first | (simp only [Region.wanted]; done) | (go_simp; done))); (focus (exact ⟨_, 0, rfl⟩)); (go_simp; exact ⟨⟨(Below.refl _ W).alloc (Nat.le_refl _) _, HSZ.out W hW⟩, ⟨_, rfl⟩, _, rfl, heap_new _ _ _ rfl⟩); (obtain ⟨g7, rfl⟩ := hv); go_simp; refine hK _ ?_; clear hK K)
              (refine Stu.wpR_spu (by rfl) (by rfl) ?_ ?_ (fun W hW hU hF => ?_) (fun K v hv hK => ?_); (focus (first | (simp only [Region.wanted]; done) | (go_simp; done))); (focus (exact ⟨_, none, _, rfl, Nat.le_refl _⟩)); (obtain ⟨g', z1, z3⟩ := (show (slit1 W1.heap.size ⟨body.toArray⟩).q [] (.slice (some ⟨g7, 0, none⟩) 1 1) W from hF 7 rfl); cases z1; exact sap2_rel rfl rfl rfl z3 (HSZ.out W hW) hnx6 (show SAp W1.heap.size nx x.all (.slice A3 nx c3) W from hU) _); (obtain ⟨A8, c8, rfl, hc8⟩ := hv); go_simp; refine hK _ ?_; clear hK K)
              repeat (refine Stu.wpR_plain ?_ (by rfl) (by rfl) (fun K hK => ?_); (focus (first | (simp only [Region.wanted]; done) | (go_simp; done))); apply Exists.intro; refine ⟨fun W hW => ?_, ?_⟩; (go_simp; (try simp only [Stu.plainUpon_value, true_and]); rfl); go_simp; refine hK _ ?_; clear hK K)
              refine Stu.wpR_nil (fun W2 hW hU hF => ?_)
              have HB2 := Lib.hid (HBT.out W2 hW)
              have HNR : Hid (Stl W2 (.slice A8 (nx + 1) c8) (x.all ++ [body])) := Lib.hid (Stl.of_row (base := W1.heap.size) (by
                have h9 := (show SAp W1.heap.size (nx + 1) (x.all ++ [body]) (.slice A8 (nx + 1) c8) W2 from hU).1
                have h8 : (x.all ++ [body]).length = nx + 1 := by rw [List.length_append, ← HNX.out]; rfl
                unfold Sow
                rw [h8]
                exact h9))
              clear hW hU hF HC HST HRW HBT HSZ
              have HP2 := Lib.hid (HP1.out.below HB2.out)
              have hb0 := cell_below HB2.out kb0
              have hb3 := cell_below HB2.out kb3
              have HHRD : Hid (∀ W, Below w1.heap.size w1 W → Rd W Ab body) := Lib.hid fun W hb => HRB.out.below (below_then HB1.out HB1.out.size hb)
              clear kb0 kb1 kb2 kb3 kb4
              generalize wr.heap.size = gb at *
              obtain ⟨KS, hKS⟩ : ∃ s : ByteArray, s = ⟨body.toArray⟩ := ⟨_, rfl⟩
              have kcv := (HHRD.out W2 HP2.out.bel).str L cb HLE.out.symm
              rw [← hKS] at kcv
              have HKS := Lib.hid hKS
              clear hKS
              cases dn with
              | true =>
                have hno := wkeep_no HP2.out.1 Ab L cb (show mayE true L ≠ 0 by show (7 : Int) ≠ 0; decide)
                rw [show mayE true L = 7 from rfl] at hno
                have HNO := Lib.hid hno
                clear hno
                (go_wp2_with fail
                 refine HNO.out.mono ?_
                 rintro e W2 ⟨rfl, rfl⟩
                 have HDN := Lib.hid (wdone_any HP2.out.1)
                 go_wp2_with fail
                 refine HDN.out.mono ?_
                 rintro e W2 ⟨rfl, rfl⟩)
                obtain ⟨A10t, c10t, hv10t, _⟩ := HP2.out.2.2.1.shp
                have HNXT := Lib.hid HP2.out.2.1.small.2.2.1
                have HBA := Lib.hid (pr_base HP2.out)
                clear hv10t
                go_wp2_with fail
                refine HBA.out.mono ?_
                rintro e wa ⟨va, rfl, hsa, hba⟩
                obtain ⟨Aa, ca, rfl, hca, _⟩ := hsa.rd
                have hcv := hsa.str
                rw [← HBS.out] at hcv
                generalize hlb : (List.take (x).base (x).buf).length = lb at *
                have HPa := Lib.hid (HP2.out.below hba)
                have HAL := Lib.hid (pr_all HPa.out)
                clear hsa hba hca HBA hlb
                go_wp2_with fail
                refine HAL.out.mono ?_
                rintro e wb ⟨vb, rfl, hsb, hbb⟩
                obtain ⟨Ab9, cb9, rfl, hcb9⟩ := hsb.shp
                have HPb := Lib.hid (HPa.out.below hbb)
                rw [← HNX.out] at hsb ⊢
                have hro := rows_any wb wa.heap.size Ab9 _ _ _ cb9 _ _ _ HNX.out HNX.out hsb HPb.out.2.2.1.str (by rw [HNX.out]; exact Nat.le_trans HNXT.out (by decide))
                rw [decide_eq_true rfl] at hro
                have HRO := Lib.hid hro
                clear hsb hbb hro hcb9 hcv HAL
                go_wp2_with fail
                refine HRO.out.mono ?_
                rintro e wc ⟨rfl, hbc⟩
                have HPc := Lib.hid (HPb.out.below hbc)
                clear hbc HRO
                go_wp2
                go_roundw
                case rel => exact ⟨k + 1, by omega, by go_num, _, _, _, _, _, _, rfl, by rw [HBS.out], by rw [HAS.out], rfl, HPc.out⟩
                case measure => simp [intOf]; omega
              | false =>
                have hmz : mayE false L = 0 := by unfold mayE; simp; omega
                have hsec := HP2.out.2.1.sec
                have h8 := HP2.out.2.1.n8; have h9 := HP2.out.2.1.n9
                by_cases hfit : L ≤ WalMath.room N
                · have hgo := wkeep_go HP2.out.1 (by omega) (by omega) HP2.out.2.1.ca (by rw [hsec]; exact HP2.out.2.1.wf) Ab L cb body HLE.out (HHRD.out W2 HP2.out.bel) hmz (by rw [hsec]; exact hfit)
                  have hfit' : body.length ≤ WalMath.room N := by rw [← HLE.out]; exact hfit
                  have hwent := WalMath.went_keep HP2.out.2.1.ok hfit'
                  have hwf := WalMath.wf_keep HP2.out.2.1.wf hfit'
                  obtain ⟨R, hR⟩ : ∃ R, R = WalMath.keepR d x body := ⟨_, rfl⟩
                  rw [← hR] at hgo hwent
                  by_cases hR0 : R.2 = 0
                  · rw [show comE R = 0 from if_pos hR0, show keepX R x body = WalMath.keepX x body from if_pos hR0, show comD R false = false from if_pos hR0] at hgo
                    have HGO := Lib.hid hgo
                    have HPI := Lib.hid ((hwent.ok h8 h9 hwf hR0).pi al ot)
                    have HNX3 : Hid (0 = (WalMath.keepX x body).all.length) := Lib.hid rfl
                    have HBS3 : Hid (KS = ⟨((WalMath.keepX x body).buf.take (WalMath.keepX x body).base).toArray⟩) := Lib.hid (by rw [keepX_base]; exact HKS.out)
                    clear hgo hwent hwf hR hR0 hfit hfit' hmz hsec h8 h9
                    go_wp2_with fail
                    refine HGO.out.mono ?_
                    rintro e w5 ⟨rfl, hls5, htl5⟩
                    have HP5 : Hid (PR w1 w5 g gl N R.1 (WalMath.keepX x body) false al ot (.slice none 0 0) (.slice A12 m12 c12)) := Lib.hid ⟨hls5, HPI.out, Stl.nil _, HP2.out.2.2.2.1.tl htl5, HP2.out.2.2.2.2⟩
                    clear hls5 htl5 kcv
                    obtain ⟨A10t, c10t, hv10t, _⟩ := HP5.out.2.2.1.shp
                    have HNXT := Lib.hid HP5.out.2.1.small.2.2.1
                    have HBA := Lib.hid (pr_base HP5.out)
                    clear hv10t
                    go_wp2_with fail
                    refine HBA.out.mono ?_
                    rintro e wa ⟨va, rfl, hsa, hba⟩
                    obtain ⟨Aa, ca, rfl, hca, _⟩ := hsa.rd
                    have hcv := hsa.str
                    rw [← HBS3.out] at hcv
                    generalize hlb : (List.take (WalMath.keepX x body).base (WalMath.keepX x body).buf).length = lb at *
                    have HPa := Lib.hid (HP5.out.below hba)
                    have HAL := Lib.hid (pr_all HPa.out)
                    clear hsa hba hca HBA hlb
                    go_wp2_with fail
                    refine HAL.out.mono ?_
                    rintro e wb ⟨vb, rfl, hsb, hbb⟩
                    obtain ⟨Ab9, cb9, rfl, hcb9⟩ := hsb.shp
                    have HPb := Lib.hid (HPa.out.below hbb)
                    rw [← HNX3.out] at hsb ⊢
                    have hro := rows_any wb wa.heap.size Ab9 _ _ _ cb9 _ _ _ HNX3.out HNX3.out hsb HPb.out.2.2.1.str (by rw [HNX3.out]; exact Nat.le_trans HNXT.out (by decide))
                    rw [decide_eq_true rfl] at hro
                    have HRO := Lib.hid hro
                    clear hsb hbb hro hcb9 hcv HAL
                    go_wp2_with fail
                    refine HRO.out.mono ?_
                    rintro e wc ⟨rfl, hbc⟩
                    have HPc := Lib.hid (HPb.out.below hbc)
                    clear hbc HRO
                    go_wp2
                    go_roundw
                    case rel => exact ⟨k + 1, by omega, by go_num, _, _, _, _, _, _, rfl, by rw [HBS3.out], by rw [HAS.out], rfl, HPc.out⟩
                    case measure => simp [intOf]; omega
                  · rw [show comE R = 7 from if_neg hR0, show keepX R x body = x from if_neg hR0, show comD R false = true from if_neg hR0] at hgo
                    have HGO := Lib.hid hgo
                    have hpi := WalMath.PI.fell HP2.out.2.1.ok hwent hwf hR0
                    rw [show (List.take (WalMath.Lg.mk (1 - x.region) body.length body []).base (WalMath.Lg.mk (1 - x.region) body.length body []).buf) = body from keepX_base x body] at hpi
                    have HPI := Lib.hid hpi
                    clear hgo hwent hwf hR hR0 hfit hfit' hmz hsec h8 h9 hpi
                    go_wp2_with fail
                    refine HGO.out.mono ?_
                    rintro e w5 ⟨rfl, hls5, htl5⟩
                    have HP5 : Hid (PR w1 w5 g gl N R.1 x true body [] (.slice A10 nx c10) (.slice none 0 0)) := Lib.hid ⟨hls5, HPI.out, HP2.out.2.2.1.tl htl5, Stl.nil _, by simp⟩
                    have HDN := Lib.hid (wdone_any hls5)
                    clear hls5 htl5 kcv
                    go_wp2_with fail
                    refine HDN.out.mono ?_
                    rintro e w5 ⟨rfl, rfl⟩
                    obtain ⟨A10t, c10t, hv10t, _⟩ := HP5.out.2.2.1.shp
                    have HNXT := Lib.hid HP5.out.2.1.small.2.2.1
                    have HBA := Lib.hid (pr_base HP5.out)
                    clear hv10t
                    go_wp2_with fail
                    refine HBA.out.mono ?_
                    rintro e wa ⟨va, rfl, hsa, hba⟩
                    obtain ⟨Aa, ca, rfl, hca, _⟩ := hsa.rd
                    have hcv := hsa.str
                    rw [← HBS.out] at hcv
                    generalize hlb : (List.take (x).base (x).buf).length = lb at *
                    have HPa := Lib.hid (HP5.out.below hba)
                    have HAL := Lib.hid (pr_all HPa.out)
                    clear hsa hba hca HBA hlb
                    go_wp2_with fail
                    refine HAL.out.mono ?_
                    rintro e wb ⟨vb, rfl, hsb, hbb⟩
                    obtain ⟨Ab9, cb9, rfl, hcb9⟩ := hsb.shp
                    have HPb := Lib.hid (HPa.out.below hbb)
                    rw [← HNX.out] at hsb ⊢
                    have hro := rows_any wb wa.heap.size Ab9 _ _ _ cb9 _ _ _ HNX.out HNX.out hsb HPb.out.2.2.1.str (by rw [HNX.out]; exact Nat.le_trans HNXT.out (by decide))
                    rw [decide_eq_true rfl] at hro
                    have HRO := Lib.hid hro
                    clear hsb hbb hro hcb9 hcv HAL
                    go_wp2_with fail
                    refine HRO.out.mono ?_
                    rintro e wc ⟨rfl, hbc⟩
                    have HPc := Lib.hid (HPb.out.below hbc)
                    clear hbc HRO
                    go_wp2
                    go_roundw
                    case rel => exact ⟨k + 1, by omega, by go_num, _, _, _, _, _, _, rfl, by rw [HBS.out], by rw [HKS.out], rfl, HPc.out⟩
                    case measure => simp [intOf]; omega
                · have hful := wkeep_full HP2.out.1 (by omega) (by omega) Ab L cb hmz (by rw [hsec]; omega)
                  have HFU := Lib.hid hful
                  clear hful hfit hmz hsec h8 h9
                  go_wp2_with fail
                  refine HFU.out.mono ?_
                  rintro e W2 ⟨rfl, rfl⟩
                  clear kcv
                  obtain ⟨A10t, c10t, hv10t, _⟩ := HP2.out.2.2.1.shp
                  have HNXT := Lib.hid HP2.out.2.1.small.2.2.1
                  have HBA := Lib.hid (pr_base HP2.out)
                  clear hv10t
                  go_wp2_with fail
                  refine HBA.out.mono ?_
                  rintro e wa ⟨va, rfl, hsa, hba⟩
                  obtain ⟨Aa, ca, rfl, hca, _⟩ := hsa.rd
                  have hcv := hsa.str
                  rw [← HBS.out] at hcv
                  generalize hlb : (List.take (x).base (x).buf).length = lb at *
                  have HPa := Lib.hid (HP2.out.below hba)
                  have HAL := Lib.hid (pr_all HPa.out)
                  clear hsa hba hca HBA hlb
                  go_wp2_with fail
                  refine HAL.out.mono ?_
                  rintro e wb ⟨vb, rfl, hsb, hbb⟩
                  obtain ⟨Ab9, cb9, rfl, hcb9⟩ := hsb.shp
                  have HPb := Lib.hid (HPa.out.below hbb)
                  rw [← HNX.out] at hsb ⊢
                  have hro := rows_any wb wa.heap.size Ab9 _ _ _ cb9 _ _ _ HNX.out HNX.out hsb HPb.out.2.2.1.str (by rw [HNX.out]; exact Nat.le_trans HNXT.out (by decide))
                  rw [decide_eq_true rfl] at hro
                  have HRO := Lib.hid hro
                  clear hsb hbb hro hcb9 hcv HAL
                  go_wp2_with fail
                  refine HRO.out.mono ?_
                  rintro e wc ⟨rfl, hbc⟩
                  have HPc := Lib.hid (HPb.out.below hbc)
                  clear hbc HRO
                  go_wp2
                  go_roundw
                  case rel => exact ⟨k + 1, by omega, by go_num, _, _, _, _, _, _, rfl, by rw [HBS.out], by rw [HAS.out], rfl, HPc.out⟩
                  case measure => simp [intOf]; omega
            · have q1 : (op == 1) = false := by rw [beq_eq_false_iff_ne]; exact h1
              have q1' : decide (op = 1) = false := decide_eq_false h1
              by_cases h2 : op = 2
              · subst h2
                obtain ⟨W1, hW1⟩ : ∃ W, W = wr.alloc (.cells #[.int .i64 2, .int .i64 an, .int .i64 torn, .slice Ab L cb, .slice Ak M ck] 66) := ⟨_, rfl⟩
                have hbb : Below wr.heap.size wr W1 := by rw [hW1]; exact below_new wr _
                have hbx : W1.heap[wr.heap.size]? = some (.cells #[.int .i64 2, .int .i64 an, .int .i64 torn, .slice Ab L cb, .slice Ak M ck] 66) := by rw [hW1]; exact heap_new wr _ _ rfl
                have kb0 : W1.cell? ⟨wr.heap.size, 0, none⟩ = some (.int .i64 2) := by rw [cell_of_row _ _ 0 _ _ _ hbx]; rfl
                have kb1 : W1.cell? ⟨wr.heap.size, 1, none⟩ = some (.int .i64 an) := by rw [cell_of_row _ _ 1 _ _ _ hbx]; rfl
                have kb2 : W1.cell? ⟨wr.heap.size, 2, none⟩ = some (.int .i64 torn) := by rw [cell_of_row _ _ 2 _ _ _ hbx]; rfl
                have kb3 : W1.cell? ⟨wr.heap.size, 3, none⟩ = some (.slice Ab L cb) := by rw [cell_of_row _ _ 3 _ _ _ hbx]; rfl
                have kb4 : W1.cell? ⟨wr.heap.size, 4, none⟩ = some (.slice Ak M ck) := by rw [cell_of_row _ _ 4 _ _ _ hbx]; rfl
                have HP1 := Lib.hid (HP.out.below hbb)
                have HBW1 := Lib.hid (below_then HB1.out HB1.out.size (HP.out.below hbb).bel)
                have HBX := Lib.hid hbx
                have HW1 := Lib.hid hW1
                clear hW1 hbb hbx
                obtain ⟨x', hok, hx'⟩ := HP1.out.2.1.again keep torn
                have hcr := ds_crash HP1.out.1.ds (by rw [HP1.out.2.1.ca]; simp) torn (fun W _ hb => HIK.out.below' (below_then HB1.out HB1.out.size hb)) (by rw [← HME.out]; omega)
                have HCR := Lib.hid hcr; have HOK := Lib.hid hok; have HX' := Lib.hid hx'
                clear hcr hok hx'
                go_wp2_with fail
                rw [← HW1.out]
                refine HCR.out.mono ?_
                rintro e w5 ⟨rfl, hd5, ht5⟩
                have HON := Lib.hid (ds_on hd5); have HT5 := Lib.hid ht5.tl
                clear hd5 ht5 HCR
                go_wp2_with fail
                refine HON.out.mono ?_
                rintro e w6 ⟨rfl, hd6, ht6⟩
                have hop := wopen_any hd6 HOK.out.on.off HOK.out.on.cache (by have := HOK.out.n8; have := HOK.out.on.n; omega) (by have := HOK.out.n9; have := HOK.out.on.n; omega)
                rw [WalMath.ok_load HOK.out] at hop
                have HOP := Lib.hid hop; have HT6 := Lib.hid (HT5.out.trans ht6.tl)
                clear hop hd6 ht6 HON
                go_wp2_with fail
                refine HOP.out.mono ?_
                rintro e w7 ⟨gm, rfl, hls7, hb7, -⟩
                generalize ({ d.crash keep torn with off := false } : DevMath.Dev) = d6 at *
                have HLS7 := Lib.hid hls7
                have HT7 : Hid (TL W1 w7) := Lib.hid (HT6.out.trans (TL.of_below hb7))
                clear hls7 hb7 HOP kb0 kb1 kb2 kb3 kb4
                cases dn with
                | false =>
                  have hxx : x' = x := by
                    rcases HX'.out with h | ⟨h, _⟩
                    · exact h
                    · cases h
                  subst hxx
                  have HP7 : Hid (PR w1 w7 g gm N d6 x' false al ot (.slice A10 nx c10) (.slice A12 m12 c12)) := Lib.hid ⟨HLS7.out, HOK.out.pi al ot, HP1.out.2.2.1.tl HT7.out, HP1.out.2.2.2.1.tl HT7.out, HP1.out.2.2.2.2⟩
                  obtain ⟨A10t, c10t, hv10t, _⟩ := HP7.out.2.2.1.shp
                  have HNXT := Lib.hid HP7.out.2.1.small.2.2.1
                  have HBA := Lib.hid (pr_base HP7.out)
                  clear hv10t
                  go_wp2_with fail
                  refine HBA.out.mono ?_
                  rintro e wa ⟨va, rfl, hsa, hba⟩
                  obtain ⟨Aa, ca, rfl, hca, _⟩ := hsa.rd
                  have hcv := hsa.str
                  rw [← HBS.out] at hcv
                  generalize hlb : (List.take (x').base (x').buf).length = lb at *
                  have HPa := Lib.hid (HP7.out.below hba)
                  have HAL := Lib.hid (pr_all HPa.out)
                  clear hsa hba hca HBA hlb
                  go_wp2_with fail
                  refine HAL.out.mono ?_
                  rintro e wb ⟨vb, rfl, hsb, hbb⟩
                  obtain ⟨Ab9, cb9, rfl, hcb9⟩ := hsb.shp
                  have HPb := Lib.hid (HPa.out.below hbb)
                  rw [← HNX.out] at hsb ⊢
                  have hro := rows_any wb wa.heap.size Ab9 _ _ _ cb9 _ _ _ HNX.out HNX.out hsb HPb.out.2.2.1.str (by rw [HNX.out]; exact Nat.le_trans HNXT.out (by decide))
                  rw [decide_eq_true rfl] at hro
                  have HRO := Lib.hid hro
                  clear hsb hbb hro hcb9 hcv HAL
                  go_wp2_with fail
                  refine HRO.out.mono ?_
                  rintro e wc ⟨rfl, hbc⟩
                  have HPc := Lib.hid (HPb.out.below hbc)
                  clear hbc HRO
                  go_wp2
                  go_roundw
                  case rel => exact ⟨k + 1, by omega, by go_num, _, _, _, _, _, _, rfl, by rw [HBS.out], by rw [HAS.out], rfl, HPc.out⟩
                  case measure => simp [intOf]; omega
                | true =>
                  have HPQ : Hid (PR w1 w7 g gm N d6 x' false al ot (.slice A12 m12 c12) (.slice A12 m12 c12) ∨ x'.all ≠ ot) := Lib.hid (by
                    by_cases hq : x'.all = ot
                    · exact .inl ⟨HLS7.out, HOK.out.pi al ot, by rw [hq]; exact HP1.out.2.2.2.1.tl HT7.out, HP1.out.2.2.2.1.tl HT7.out, HP1.out.2.2.2.2⟩
                    · exact .inr hq)
                  have HPX : Hid (x' = x → PR w1 w7 g gm N d6 x' false al ot (.slice A10 nx c10) (.slice A12 m12 c12)) := Lib.hid fun e => ⟨HLS7.out, HOK.out.pi al ot, by rw [e]; exact HP1.out.2.2.1.tl HT7.out, HP1.out.2.2.2.1.tl HT7.out, HP1.out.2.2.2.2⟩
                  have hsm := HOK.out.small
                  have HBA7 := Lib.hid (wbase_any HLS7.out hsm.1 (by omega))
                  have HSM := Lib.hid hsm; have HS12 := Lib.hid (HP1.out.2.2.2.1.tl HT7.out)
                  clear hsm
                  go_wp2_with fail
                  refine HBA7.out.mono ?_
                  rintro e w8 ⟨v8, rfl, hs8, hb8⟩
                  obtain ⟨A8, c8, rfl, hc8, _⟩ := hs8.rd
                  have hcv8 := hs8.str
                  generalize hlb8 : (List.take x'.base x'.buf).length = lb8 at *
                  have HHB8 := Lib.hid hb8; have HLS8 := Lib.hid (HLS7.out.below hb8)
                  clear hs8 hb8 hlb8 HBA7
                  by_cases hq : x'.buf.take x'.base = al
                  · rw [hq, ← HAS.out] at hcv8
                    have HAL8 := Lib.hid (wall_any HLS8.out HSM.out.2.2.1 HSM.out.2.2.2)
                    have HQ := Lib.hid hq
                    clear hq
                    go_wp2_with fail
                    refine HAL8.out.mono ?_
                    rintro e w9 ⟨v9, rfl, hs9, hb9⟩
                    obtain ⟨A9, c9, rfl, hc9⟩ := hs9.shp
                    obtain ⟨nx', hnx'⟩ : ∃ n, n = x'.all.length := ⟨_, rfl⟩
                    rw [← hnx'] at hs9 ⊢
                    have hro := rows_any w9 w8.heap.size A9 A12 nx' m12 c9 c12 x'.all ot hnx' HM12.out hs9 ((HS12.out.below HHB8.out).below hb9).str (by rw [hnx']; exact HSM.out.2.2.1)
                    have HB9 := Lib.hid (below_add HHB8.out hb9)
                    have HNX' := Lib.hid hnx'
                    by_cases hq2 : x'.all = ot
                    · rw [decide_eq_true hq2] at hro
                      have HRO := Lib.hid hro
                      have HP9 : Hid (PR w1 w9 g gm N d6 x' false al ot (.slice A12 m12 c12) (.slice A12 m12 c12)) := Lib.hid ((HPQ.out.resolve_right (fun h => h hq2)).below HB9.out)
                      have HNX9 : Hid (m12 = x'.all.length) := Lib.hid (by rw [hq2]; exact HM12.out)
                      have HBS9 : Hid (AS = ⟨(x'.buf.take x'.base).toArray⟩) := Lib.hid (by rw [HQ.out]; exact HAS.out)
                      clear hro hq2 hs9 hb9 hnx' hc9 hcv8 HAL8
                      go_wp2_with fail
                      refine HRO.out.mono ?_
                      rintro e w10 ⟨rfl, hb10⟩
                      have HP10 := Lib.hid (HP9.out.below hb10)
                      clear hb10
                      obtain ⟨A10t, c10t, hv10t, _⟩ := HP10.out.2.2.1.shp
                      have HNXT := Lib.hid HP10.out.2.1.small.2.2.1
                      have HBA := Lib.hid (pr_base HP10.out)
                      clear hv10t
                      go_wp2_with fail
                      refine HBA.out.mono ?_
                      rintro e wa ⟨va, rfl, hsa, hba⟩
                      obtain ⟨Aa, ca, rfl, hca, _⟩ := hsa.rd
                      have hcv := hsa.str
                      rw [← HBS9.out] at hcv
                      generalize hlb : (List.take (x').base (x').buf).length = lb at *
                      have HPa := Lib.hid (HP10.out.below hba)
                      have HAL := Lib.hid (pr_all HPa.out)
                      clear hsa hba hca HBA hlb
                      go_wp2_with fail
                      refine HAL.out.mono ?_
                      rintro e wb ⟨vb, rfl, hsb, hbb⟩
                      obtain ⟨Ab9, cb9, rfl, hcb9⟩ := hsb.shp
                      have HPb := Lib.hid (HPa.out.below hbb)
                      rw [← HNX9.out] at hsb ⊢
                      have hro := rows_any wb wa.heap.size Ab9 _ _ _ cb9 _ _ _ HNX9.out HNX9.out hsb HPb.out.2.2.1.str (by rw [HNX9.out]; exact Nat.le_trans HNXT.out (by decide))
                      rw [decide_eq_true rfl] at hro
                      have HRO := Lib.hid hro
                      clear hsb hbb hro hcb9 hcv HAL
                      go_wp2_with fail
                      refine HRO.out.mono ?_
                      rintro e wc ⟨rfl, hbc⟩
                      have HPc := Lib.hid (HPb.out.below hbc)
                      clear hbc HRO
                      go_wp2
                      go_roundw
                      case rel => exact ⟨k + 1, by omega, by go_num, _, _, _, _, _, _, rfl, by rw [HBS9.out], by rw [HAS.out], rfl, HPc.out⟩
                      case measure => simp [intOf]; omega
                    · rw [decide_eq_false hq2] at hro
                      have HRO := Lib.hid hro
                      have hxx : x' = x := by
                        rcases HX'.out with h | ⟨_, _, h⟩
                        · exact h
                        · exact absurd h hq2
                      have HP9 : Hid (PR w1 w9 g gm N d6 x' false al ot (.slice A10 nx c10) (.slice A12 m12 c12)) := Lib.hid ((HPX.out hxx).below HB9.out)
                      have HNX9 : Hid (nx = x'.all.length) := Lib.hid (by rw [hxx]; exact HNX.out)
                      have HBS9 : Hid (BS = ⟨(x'.buf.take x'.base).toArray⟩) := Lib.hid (by rw [hxx]; exact HBS.out)
                      clear hro hq2 hs9 hb9 hnx' hc9 hcv8 HAL8 hxx
                      go_wp2_with fail
                      refine HRO.out.mono ?_
                      rintro e w10 ⟨rfl, hb10⟩
                      have HP10 := Lib.hid (HP9.out.below hb10)
                      clear hb10
                      obtain ⟨A10t, c10t, hv10t, _⟩ := HP10.out.2.2.1.shp
                      have HNXT := Lib.hid HP10.out.2.1.small.2.2.1
                      have HBA := Lib.hid (pr_base HP10.out)
                      clear hv10t
                      go_wp2_with fail
                      refine HBA.out.mono ?_
                      rintro e wa ⟨va, rfl, hsa, hba⟩
                      obtain ⟨Aa, ca, rfl, hca, _⟩ := hsa.rd
                      have hcv := hsa.str
                      rw [← HBS9.out] at hcv
                      generalize hlb : (List.take (x').base (x').buf).length = lb at *
                      have HPa := Lib.hid (HP10.out.below hba)
                      have HAL := Lib.hid (pr_all HPa.out)
                      clear hsa hba hca HBA hlb
                      go_wp2_with fail
                      refine HAL.out.mono ?_
                      rintro e wb ⟨vb, rfl, hsb, hbb⟩
                      obtain ⟨Ab9, cb9, rfl, hcb9⟩ := hsb.shp
                      have HPb := Lib.hid (HPa.out.below hbb)
                      rw [← HNX9.out] at hsb ⊢
                      have hro := rows_any wb wa.heap.size Ab9 _ _ _ cb9 _ _ _ HNX9.out HNX9.out hsb HPb.out.2.2.1.str (by rw [HNX9.out]; exact Nat.le_trans HNXT.out (by decide))
                      rw [decide_eq_true rfl] at hro
                      have HRO := Lib.hid hro
                      clear hsb hbb hro hcb9 hcv HAL
                      go_wp2_with fail
                      refine HRO.out.mono ?_
                      rintro e wc ⟨rfl, hbc⟩
                      have HPc := Lib.hid (HPb.out.below hbc)
                      clear hbc HRO
                      go_wp2
                      go_roundw
                      case rel => exact ⟨k + 1, by omega, by go_num, _, _, _, _, _, _, rfl, by rw [HBS9.out], by rw [HAS.out], rfl, HPc.out⟩
                      case measure => simp [intOf]; omega
                  · have hxx : x' = x := by
                      rcases HX'.out with h | ⟨_, h, _⟩
                      · exact h
                      · exact absurd h hq
                    obtain ⟨BS8, hBS8⟩ : ∃ s : ByteArray, s = ⟨(x'.buf.take x'.base).toArray⟩ := ⟨_, rfl⟩
                    rw [← hBS8] at hcv8
                    have hne : BS8 ≠ AS := by
                      rw [hBS8, HAS.out]
                      intro e
                      apply hq
                      injection e with e
                      simpa using congrArg Array.toList e
                    have hne2 : decide (BS8 = AS) = false := decide_eq_false hne
                    have hne3 : (BS8.toList == AS.toList) = false := by
                      rw [beq_eq_false_iff_ne, Lib.toList_data, Lib.toList_data]
                      intro e
                      apply hne
                      cases BS8; cases AS
                      congr 1
                      exact Array.toList_inj.1 e
                    have HP8 : Hid (PR w1 w8 g gm N d6 x' false al ot (.slice A10 nx c10) (.slice A12 m12 c12)) := Lib.hid ((HPX.out hxx).below HHB8.out)
                    have HNX8 : Hid (nx = x'.all.length) := Lib.hid (by rw [hxx]; exact HNX.out)
                    have HBS9 : Hid (BS = ⟨(x'.buf.take x'.base).toArray⟩) := Lib.hid (by rw [hxx]; exact HBS.out)
                    clear hq hxx hBS8 hne
                    obtain ⟨A10t, c10t, hv10t, _⟩ := HP8.out.2.2.1.shp
                    have HNXT := Lib.hid HP8.out.2.1.small.2.2.1
                    have HBA := Lib.hid (pr_base HP8.out)
                    clear hv10t
                    go_wp2_with fail
                    refine HBA.out.mono ?_
                    rintro e wa ⟨va, rfl, hsa, hba⟩
                    obtain ⟨Aa, ca, rfl, hca, _⟩ := hsa.rd
                    have hcv := hsa.str
                    rw [← HBS9.out] at hcv
                    generalize hlb : (List.take (x').base (x').buf).length = lb at *
                    have HPa := Lib.hid (HP8.out.below hba)
                    have HAL := Lib.hid (pr_all HPa.out)
                    clear hsa hba hca HBA hlb
                    go_wp2_with fail
                    refine HAL.out.mono ?_
                    rintro e wb ⟨vb, rfl, hsb, hbb⟩
                    obtain ⟨Ab9, cb9, rfl, hcb9⟩ := hsb.shp
                    have HPb := Lib.hid (HPa.out.below hbb)
                    rw [← HNX8.out] at hsb ⊢
                    have hro := rows_any wb wa.heap.size Ab9 _ _ _ cb9 _ _ _ HNX8.out HNX8.out hsb HPb.out.2.2.1.str (by rw [HNX8.out]; exact Nat.le_trans HNXT.out (by decide))
                    rw [decide_eq_true rfl] at hro
                    have HRO := Lib.hid hro
                    clear hsb hbb hro hcb9 hcv HAL
                    go_wp2_with fail
                    refine HRO.out.mono ?_
                    rintro e wc ⟨rfl, hbc⟩
                    have HPc := Lib.hid (HPb.out.below hbc)
                    clear hbc HRO
                    go_wp2
                    go_roundw
                    case rel => exact ⟨k + 1, by omega, by go_num, _, _, _, _, _, _, rfl, by rw [HBS9.out], by rw [HAS.out], rfl, HPc.out⟩
                    case measure => simp [intOf]; omega
              · have q2 : (op == 2) = false := by rw [beq_eq_false_iff_ne]; exact h2
                have q2' : decide (op = 2) = false := decide_eq_false h2
                obtain ⟨W1, hW1⟩ : ∃ W, W = wr.alloc (.cells #[.int .i64 op, .int .i64 an, .int .i64 torn, .slice Ab L cb, .slice Ak M ck] 66) := ⟨_, rfl⟩
                have hbb : Below wr.heap.size wr W1 := by rw [hW1]; exact below_new wr _
                have hbx : W1.heap[wr.heap.size]? = some (.cells #[.int .i64 op, .int .i64 an, .int .i64 torn, .slice Ab L cb, .slice Ak M ck] 66) := by rw [hW1]; exact heap_new wr _ _ rfl
                have kb0 : W1.cell? ⟨wr.heap.size, 0, none⟩ = some (.int .i64 op) := by rw [cell_of_row _ _ 0 _ _ _ hbx]; rfl
                have kb1 : W1.cell? ⟨wr.heap.size, 1, none⟩ = some (.int .i64 an) := by rw [cell_of_row _ _ 1 _ _ _ hbx]; rfl
                have kb2 : W1.cell? ⟨wr.heap.size, 2, none⟩ = some (.int .i64 torn) := by rw [cell_of_row _ _ 2 _ _ _ hbx]; rfl
                have kb3 : W1.cell? ⟨wr.heap.size, 3, none⟩ = some (.slice Ab L cb) := by rw [cell_of_row _ _ 3 _ _ _ hbx]; rfl
                have kb4 : W1.cell? ⟨wr.heap.size, 4, none⟩ = some (.slice Ak M ck) := by rw [cell_of_row _ _ 4 _ _ _ hbx]; rfl
                have HP1 := Lib.hid (HP.out.below hbb)
                have HBW1 := Lib.hid (below_then HB1.out HB1.out.size (HP.out.below hbb).bel)
                have HBX := Lib.hid hbx
                have HW1 := Lib.hid hW1
                clear hW1 hbb hbx
                have HOFF1 := ds_off HP1.out.1.ds
                cases dn with
                | true =>
                  rw [(HP1.out.2.1.dw rfl).1] at HOFF1
                  have HOFF1 := Lib.hid HOFF1
                  go_wp2_with fail
                  rw [← HW1.out]
                  refine HOFF1.out.mono ?_
                  rintro e W1 ⟨rfl, rfl⟩
                  obtain ⟨A10t, c10t, hv10t, _⟩ := HP1.out.2.2.1.shp
                  have HNXT := Lib.hid HP1.out.2.1.small.2.2.1
                  have HBA := Lib.hid (pr_base HP1.out)
                  clear hv10t
                  go_wp2_with fail
                  refine HBA.out.mono ?_
                  rintro e wa ⟨va, rfl, hsa, hba⟩
                  obtain ⟨Aa, ca, rfl, hca, _⟩ := hsa.rd
                  have hcv := hsa.str
                  rw [← HBS.out] at hcv
                  generalize hlb : (List.take (x).base (x).buf).length = lb at *
                  have HPa := Lib.hid (HP1.out.below hba)
                  have HAL := Lib.hid (pr_all HPa.out)
                  clear hsa hba hca HBA hlb
                  go_wp2_with fail
                  refine HAL.out.mono ?_
                  rintro e wb ⟨vb, rfl, hsb, hbb⟩
                  obtain ⟨Ab9, cb9, rfl, hcb9⟩ := hsb.shp
                  have HPb := Lib.hid (HPa.out.below hbb)
                  rw [← HNX.out] at hsb ⊢
                  have hro := rows_any wb wa.heap.size Ab9 _ _ _ cb9 _ _ _ HNX.out HNX.out hsb HPb.out.2.2.1.str (by rw [HNX.out]; exact Nat.le_trans HNXT.out (by decide))
                  rw [decide_eq_true rfl] at hro
                  have HRO := Lib.hid hro
                  clear hsb hbb hro hcb9 hcv HAL
                  go_wp2_with fail
                  refine HRO.out.mono ?_
                  rintro e wc ⟨rfl, hbc⟩
                  have HPc := Lib.hid (HPb.out.below hbc)
                  clear hbc HRO
                  go_wp2
                  go_roundw
                  case rel => exact ⟨k + 1, by omega, by go_num, _, _, _, _, _, _, rfl, by rw [HBS.out], by rw [HAS.out], rfl, HPc.out⟩
                  case measure => simp [intOf]; omega
                | false =>
                  rw [(HP1.out.2.1.up rfl).1] at HOFF1
                  have HFU := Lib.hid (ds_fuse HP1.out.1.ds an torn HWN.out HWT.out (HIK.out.below' HBW1.out) (by rw [← HME.out]; omega))
                  have HOFF1 := Lib.hid HOFF1
                  go_wp2_with fail
                  rw [← HW1.out]
                  refine HOFF1.out.mono ?_
                  rintro e W1 ⟨rfl, rfl⟩
                  go_wp2_with fail
                  refine HFU.out.mono ?_
                  rintro e w5 ⟨rfl, hd5, ht5⟩
                  have HP5 : Hid (PR w1 w5 g gl N (d.fused an keep torn) x false al ot (.slice A10 nx c10) (.slice A12 m12 c12)) := Lib.hid ⟨HP1.out.1.tk ht5 hd5, HP1.out.2.1.fused an keep torn, HP1.out.2.2.1.tl ht5.tl, HP1.out.2.2.2.1.tl ht5.tl, HP1.out.2.2.2.2⟩
                  clear hd5 ht5
                  obtain ⟨A10t, c10t, hv10t, _⟩ := HP5.out.2.2.1.shp
                  have HNXT := Lib.hid HP5.out.2.1.small.2.2.1
                  have HBA := Lib.hid (pr_base HP5.out)
                  clear hv10t
                  go_wp2_with fail
                  refine HBA.out.mono ?_
                  rintro e wa ⟨va, rfl, hsa, hba⟩
                  obtain ⟨Aa, ca, rfl, hca, _⟩ := hsa.rd
                  have hcv := hsa.str
                  rw [← HBS.out] at hcv
                  generalize hlb : (List.take (x).base (x).buf).length = lb at *
                  have HPa := Lib.hid (HP5.out.below hba)
                  have HAL := Lib.hid (pr_all HPa.out)
                  clear hsa hba hca HBA hlb
                  go_wp2_with fail
                  refine HAL.out.mono ?_
                  rintro e wb ⟨vb, rfl, hsb, hbb⟩
                  obtain ⟨Ab9, cb9, rfl, hcb9⟩ := hsb.shp
                  have HPb := Lib.hid (HPa.out.below hbb)
                  rw [← HNX.out] at hsb ⊢
                  have hro := rows_any wb wa.heap.size Ab9 _ _ _ cb9 _ _ _ HNX.out HNX.out hsb HPb.out.2.2.1.str (by rw [HNX.out]; exact Nat.le_trans HNXT.out (by decide))
                  rw [decide_eq_true rfl] at hro
                  have HRO := Lib.hid hro
                  clear hsb hbb hro hcb9 hcv HAL
                  go_wp2_with fail
                  refine HRO.out.mono ?_
                  rintro e wc ⟨rfl, hbc⟩
                  have HPc := Lib.hid (HPb.out.below hbc)
                  clear hbc HRO
                  go_wp2
                  go_roundw
                  case rel => exact ⟨k + 1, by omega, by go_num, _, _, _, _, _, _, rfl, by rw [HBS.out], by rw [HAS.out], rfl, HPc.out⟩
                  case measure => simp [intOf]; omega
        · have hMI : (40 : Int) < (M : Int) := by omega
          go_wp2
          go_ret
          exact ⟨rfl, HBW.out.alloc HBW.out.size _⟩
      · have hLI : (2000 : Int) < (L : Int) := by omega
        go_wp2
        go_ret
        exact ⟨rfl, HBW.out.alloc HBW.out.size _⟩
    · have hltI : ¬ (k : Int) < (n1 : Int) := by omega
      go_wp2
      go_ret
      exact ⟨rfl, HBW.out⟩
set_option maxRecDepth 20000 in
theorem WalPlays_walk (s : Int) (A1 : Option Addr) (c1 : Nat) (xs : List WAct) (w : World) (ws : (Lit.int .i64 s).wf = true) (r1 : Row KWAct 5 w A1 xs) (hc1 : xs.length ≤ c1) (hl1 : xs.length * 72 ≤ 140737488351232) :
    Calls Try.prog 12 #[.int .i64 s, .slice A1 xs.length c1] w fun e w' => e = .returned (.bool true) ∧ Below w.heap.size w w' := by
  by_cases h : 8 ≤ s ∧ s ≤ 300 ∧ xs.length ≤ 40
  · obtain ⟨N, rfl⟩ := Int.eq_ofNat_of_zero_le (show 0 ≤ s by omega)
    exact WalPlays_ok N A1 c1 xs w r1 hc1 (by omega) (by omega) h.2.2
  · clear ws r1
    generalize xs.length = n1 at *
    by_cases h1 : s < 8
    ·
      clear h
      go_enter Try.func12, Try.ntmps12
      go_wp2_with fail
      refine (awake6_any _).mono ?_
      rintro e w1 ⟨rfl, hb1⟩
      have HB1 := Lib.hid hb1
      clear hb1
      go_wp2_with fail
      go_ret
      exact ⟨rfl, HB1.out⟩
    · by_cases h2 : 300 < s
      ·
        clear h
        go_enter Try.func12, Try.ntmps12
        go_wp2_with fail
        refine (awake6_any _).mono ?_
        rintro e w1 ⟨rfl, hb1⟩
        have HB1 := Lib.hid hb1
        clear hb1
        go_wp2_with fail
        go_ret
        exact ⟨rfl, HB1.out⟩
      · have h3 : 40 < n1 := by omega
        clear h
        go_enter Try.func12, Try.ntmps12
        go_wp2_with fail
        refine (awake6_any _).mono ?_
        rintro e w1 ⟨rfl, hb1⟩
        have HB1 := Lib.hid hb1
        clear hb1
        go_wp2_with fail
        go_ret
        exact ⟨rfl, HB1.out⟩
end Go.Proofs.Ytbpecfbliglboaa
