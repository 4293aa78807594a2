/- The document's own table: Commit. -/
import Derived.Test.YtgaccogekmaijaaKvRf2
namespace Go.Proofs.Ytgaccogekmaijaa
open Go.RowKit Go.Maps
set_option linter.unusedVariables false
set_option linter.unusedSimpArgs false
attribute [local irreducible] Stu.wpR Stu.relOp wpR relOp
theorem RT.put {W : World} {B g ne : Nat} {L : List KvMath.Ent} {v0 v : Value} (hst : W.heap[g]? = some (.cells #[v0] 49)) (hBg : B ≤ g) (ho : W.ownsRow B 82 2 v ne (pvl L)) (hne : L.length = ne) : RT (W.setCell ⟨g, 0, none⟩ v) B g L := by
  subst hne
  refine ⟨v, heap_setCell_same W g 0 _ _ v hst, hBg, orow_stay ho (fun k cs fr _ hk => (Chg.setCell W g 0 v).heap hk (fun e => ?_))⟩
  subst e
  rw [hst] at hk
  injection hk with hk
  injection hk with _ hk
  exact absurd hk (by decide)
theorem one_cut (M : List KvMath.Ent) (hr : KvMath.Rise M) (k : ByteArray) (v : List UInt8) (gone : Bool) (q r : Nat) (hq : q = KvMath.pos M k) (h : KvMath.has M k = false ∧ r = q ∨ KvMath.has M k = true ∧ r = q + 1) :
    KvMath.one M k v gone = M.take q ++ (if gone then [] else [(k, v)]) ++ M.drop r := by
  subst hq
  have h1 := KvMath.take_pos M k hr
  have h2 := KvMath.drop_pos M k hr
  have h3 := KvMath.at_len M k hr
  unfold KvMath.one
  rw [h1]
  congr 1
  rcases h with ⟨h, rfl⟩ | ⟨h, rfl⟩
  · rw [h2]
    unfold KvMath.has at h
    have : KvMath.at_ M k = [] := by cases e : KvMath.at_ M k with
      | nil => rfl
      | cons _ _ => rw [e] at h; cases h
    rw [this]; rfl
  · rw [← List.drop_drop, h2]
    unfold KvMath.has at h
    cases e : KvMath.at_ M k with
    | nil => rw [e] at h; cases h
    | cons x t =>
      rw [e] at h3
      obtain rfl : t = [] := List.eq_nil_of_length_eq_zero (by simpa using h3)
      rfl
set_option maxRecDepth 20000 in
set_option maxHeartbeats 2000000 in
theorem ref_commit {w : World} {B g : Nat} {L : List KvMath.Ent} (h : RT w B g L) (hri : KvMath.Rise L) (hB : B ≤ w.heap.size) (A : Option Addr) (c : Nat) (xs : List PutD) (hrow : ∀ W, Chg (· = g) w W → Row KPut 3 W A xs) (hc : xs.length ≤ c) (hn : xs.length ≤ 10000) (hL : L.length ≤ 100000) :
    Calls Try.prog 18 #[.pointer (some ⟨g, 0, none⟩), .slice A xs.length c] w fun e w' => e = .returned (.int .i64 (if xs.all PutD.good then 0 else 1)) ∧ RT w' B g (if xs.all PutD.good then KvMath.all L (xs.map PutD.ent) else L) ∧ Chg (· = g) w w' := by
  have hal := ref_may w A c xs (hrow w (Chg.refl _ _)) hc (by omega)
  have HT := Lib.hid h; have HR := Lib.hid hrow
  clear h hrow
  obtain ⟨n, hnn⟩ : ∃ n, n = xs.length := ⟨_, rfl⟩
  rw [← hnn] at hc hn hal ⊢
  have HN := Lib.hid hnn
  have hal := Lib.hid hal
  clear hnn
  cases hg : xs.all PutD.good with
  | false =>
    rw [hg] at hal
    rw [if_neg (by decide), if_neg (by decide)]
    clear hg
    go_enter Try.func18, Try.ntmps18
    go_wp2_with fail
    refine hal.out.mono ?_
    rintro e w1 ⟨rfl, hb⟩
    have HBb := Lib.hid hb
    clear hb hal
    go_wp2
    go_ret
    exact ⟨rfl, HT.out.below HBb.out, Chg.of_below HBb.out⟩
  | true =>
    rw [hg] at hal
    rw [if_pos rfl, if_pos rfl]
    have HG := Lib.hid hg; have HRI := Lib.hid hri
    clear hg hri
    go_enter Try.func18, Try.ntmps18
    go_wp2_with fail
    refine hal.out.mono ?_
    rintro e w1 ⟨rfl, hb⟩
    have HBb := Lib.hid hb
    clear hb hal
    go_wp2_with fail
    rename World => wA
    go_loopw [5, 6, 7, 8, 9] (fun i _ _ _ _ wr => ∃ p : Nat, p ≤ n ∧ i = .int .i64 p ∧ RT wr B g (KvMath.all L ((xs.take p).map PutD.ent)) ∧ Chg (· = g) w wr) (fun i _ _ _ _ _ => n - (intOf i).toNat)
    case atStart => exact ⟨0, by omega, rfl, HT.out.below HBb.out, Chg.of_below HBb.out⟩
    case round =>
      rename World => wL
      obtain ⟨p, hp, rfl, ht, hch⟩ := hrel
      clear HBb
      by_cases hlt : p < n
      · have hpx : p < xs.length := by rw [← HN.out]; exact hlt
        obtain ⟨a, Aj, cj, rfl, c0, c1, c2, hcj, hrd, _⟩ := put_at (HR.out wL hch) p hpx
        have hta : KvMath.all L ((xs.take (p + 1)).map PutD.ent) = KvMath.one (KvMath.all L ((xs.take p).map PutD.ent)) xs[p].key xs[p].val xs[p].gone := by
          rw [List.take_add_one, List.getElem?_eq_getElem hpx]
          simp only [Option.toList, List.map_append, List.map_cons, List.map_nil]
          rw [KvMath.all_snoc]
          rfl
        have hlen : (KvMath.all L ((xs.take p).map PutD.ent)).length ≤ 900000 := by
          have := KvMath.all_len L HRI.out ((xs.take p).map PutD.ent)
          have hnn := HN.out
          rw [List.length_map, List.length_take] at this
          omega
        have hrise := HRI.out.all ((xs.take p).map PutD.ent)
        have HTA := Lib.hid hta
        clear hta
        generalize KvMath.all L ((xs.take p).map PutD.ent) = M at *
        generalize xs[p] = x at *
        obtain ⟨xk, xv, xg⟩ := x
        dsimp only at *
        have hfind := ref_find wL B g M ht hrise (by omega) xk
        obtain ⟨nm, hnm⟩ : ∃ nm, nm = M.length := ⟨_, rfl⟩
        obtain ⟨q, hq⟩ : ∃ q, q = KvMath.pos M xk := ⟨_, rfl⟩
        obtain ⟨hs, hhs⟩ : ∃ hs, hs = KvMath.has M xk := ⟨_, rfl⟩
        obtain ⟨nv, hnv⟩ : ∃ nv, nv = xv.length := ⟨_, rfl⟩
        rw [← hq, ← hhs] at hfind
        rw [← hnv] at c1 hcj
        have hqn : q ≤ nm := by rw [hq, hnm]; exact KvMath.pos_le M xk
        obtain ⟨Am, cm, g0, hcm, hrow⟩ := ht.rd
        rw [← hnm] at g0 hcm
        have hwp : IntKind.i64.wrap ((p : Int) + 1) = ((p + 1 : Nat) : Int) := by rw [IntKind.wrap_i64]; omega
        have HF := Lib.hid hfind; have HT' := Lib.hid ht; have HC := Lib.hid hch; have HNM := Lib.hid hnm; have HQ := Lib.hid hq; have HHS := Lib.hid hhs; have HNV := Lib.hid hnv; have HROW := Lib.hid hrow; have HLE := Lib.hid hlen; have HRS := Lib.hid hrise; have HRD := Lib.hid hrd
        clear hfind ht hch hnm hq hhs hnv hrow hlen hrise hrd
        go_wp2_with fail
        refine HF.out.mono ?_
        rintro e w1 ⟨rfl, hb1⟩
        have x0 : w1.cell? ⟨g, 0, none⟩ = some (.slice Am nm cm) := cell_below hb1 g0
        have d0 := cell_below hb1 c0
        have d1 := cell_below hb1 c1
        have d2 := cell_below hb1 c2
        have HB1 := Lib.hid hb1
        clear hb1 g0 c0 c1 c2 HF
        cases hs with
        | false =>
          by_cases hcq : cm = q
          · have HSRC : Hid (Src w1 Am (pvl (M.drop q))) := Lib.hid (by
              have e : M.drop q = [] := List.drop_eq_nil_of_le (by rw [← HNM.out]; omega)
              rw [e]
              exact fun h => absurd h (by simp [pvl]))
            subst cm
            obtain ⟨W1, hW1⟩ : ∃ W1, W1 = w1.alloc (.cells #[] 82) := ⟨_, rfl⟩
            have hbA : Below w1.heap.size w1 W1 := by rw [hW1]; exact (Below.refl _ w1).alloc (Nat.le_refl _) _
            have hsrcT : Src W1 Am (pvl (M.take q)) := by
              rw [← pvl_take M q (by rw [← HNM.out]; exact hqn)]
              exact (((HROW.out.below HB1.out).src).below hbA).take2 (q * 2)
            obtain ⟨v2, W2, hrun2, ho2, hz2, hb2⟩ := papp0_run (W := W1) (ty := 47) (S0 := w1.heap.size) (g0 := w1.heap.size) (nn := q) (c := q) (by rw [hW1]; exact heap_new w1 _ _ rfl) (Nat.le_refl _) hbA.size (by rw [pvl_len, List.length_take, ← HNM.out, Nat.min_eq_left hqn]) hsrcT (pvl_one _) (by have := HLE.out; rw [← HNM.out] at this; omega)
            have hbB : Below w1.heap.size w1 W2 := hbA.trans (hb2.mono hbA.size)
            have d2b := cell_below hbB d2
            have e0 := cell_below (Below.refl _ _) d0
            have e1 := cell_below (Below.refl _ _) d1
            have y0 : (w1.alloc (.cells #[] 82)).cell? ⟨g, 0, none⟩ = some (.slice Am nm q) := by rw [← hW1]; exact cell_below hbA x0
            obtain ⟨A2, c2, rfl, hc2⟩ := shpn.of_row ho2
            have HT1 : Hid (RT w1 B g M) := Lib.hid (HT'.out.below HB1.out)
            have HC1 : Hid (Chg (· = g) w w1) := Lib.hid (HC.out.trans (Chg.of_below HB1.out))
            have HRD1 : Hid (Rd w1 Aj xv) := Lib.hid (HRD.out.below HB1.out)
            have HSR1 : Hid (Src w1 (Am) (pvl (M.drop (q)))) := Lib.hid HSRC.out
            have HP2 : Hid (PR0 w1.heap.size q (pvl (M.take q)) (.slice A2 q c2) W2) := Lib.hid ⟨ho2, hz2⟩
            have HRUN := Lib.hid hrun2; have HW1 := Lib.hid hW1; have HB12 := Lib.hid hbB
            have HBS : Hid (B ≤ w1.heap.size) := Lib.hid (Nat.le_trans hB (Nat.le_trans HC.out.size HB1.out.size))
            have hn9 : nm ≤ 900000 := by have := HLE.out; rw [← HNM.out] at this; exact this
            clear hbA hsrcT hrun2 ho2 hz2 hb2 hbB hW1 HSRC HROW HT' HC HRD HB1 d0 d1 d2 HLE HR HT
            cases xg with
            | true =>
              obtain ⟨v4, W4, hrun4, ho4, hb4⟩ := papp2_run (ty := 47) (m := 0) (c := 0) HP2.out.1 HB12.out.size (by rw [pvl_len, List.length_drop, ← HNM.out]; try omega) (HSR1.out.below HB12.out) (pvl_one _) (by omega)
              have hcut : KvMath.one M xk xv true = M.take q ++ M.drop (q) := by rw [one_cut M HRS.out xk xv true q (q) HQ.out (.inl ⟨HHS.out.symm, rfl⟩)]; simp
              have HLN : Hid ((KvMath.one M xk xv true).length = q + (0)) := Lib.hid (by rw [hcut, List.length_append, List.length_take, List.length_drop, ← HNM.out]; try omega)
              rw [← pvl_app, ← hcut] at ho4
              generalize hne : q + (0) = ne at ho4 hrun4 HLN
              have HNE := Lib.hid hne
              clear hne hcut
              obtain ⟨A4, c4, rfl, hc4⟩ := shpn.of_row ho4
              have hb4' : Below w1.heap.size w1 W4 := Below.trans HB12.out hb4
              have hrt4 := HT1.out.below hb4'
              obtain ⟨v0, hst4, hBg, _⟩ := hrt4
              have f4 : W4.frozen? ⟨g, 0, none⟩ = false := frozen_of_row _ g 0 _ _ hst4
              have k4 : W4.cell? ⟨g, 0, none⟩ = some v0 := by rw [cell_of_row _ g 0 _ _ _ hst4]; rfl
              have HO4 := Lib.hid ho4; have HST4 := Lib.hid hst4; have HRUN4 := Lib.hid hrun4
              have HC4 : Hid (Chg (· = g) w W4) := Lib.hid (HC1.out.trans (Chg.of_below hb4'))
              clear ho4 hst4 hrun4 hb4' hb4
              go_wp2_with (at_builtin; first | (rw [← HW1.out]; refine Lib.wpList_append_run _ rfl _ _ _ _ rfl _ _ rfl rfl _ _ HRUN.out ?_) | refine Lib.wpList_append_run _ rfl _ _ _ _ rfl _ _ rfl rfl _ _ HRUN4.out ?_)
              go_roundw
              case rel =>
                refine ⟨p + 1, by omega, by go_num, ?_, HC4.out.trans (Chg.setCell _ _ _ _)⟩
                rw [HTA.out]
                exact RT.put HST4.out hBg (orow_low HO4.out HBS.out) HLN.out
              case measure => simp [intOf]; omega
            | false =>
              obtain ⟨z, hz⟩ : ∃ z : ByteArray, z = ⟨xv.toArray⟩ := ⟨_, rfl⟩
              obtain ⟨S0, hS0⟩ : ∃ S0, S0 = w1.heap.size := ⟨_, rfl⟩
              have hBW : ∀ W, TE 82 2 S0 W2.drew W → Below w1.heap.size w1 W := fun W hW => HB12.out.trans (by rw [← hS0]; exact (hW.drew (by rw [hS0]; exact HB12.out.size)).1)
              have hCC : ∀ W, TE 82 2 S0 W2.drew W → W.cell? (a.add (p * 3)) = some (.string xk) ∧ W.cell? ⟨(a.add (p * 3)).block, (a.add (p * 3)).off + 1, none⟩ = some (.slice Aj nv cj) := fun W hW => ⟨cell_below (hBW W hW) e0, cell_below (hBW W hW) e1⟩
              have hVV : ∀ W, TE 82 2 S0 W2.drew W → (convert 32 9 (.slice Aj nv cj)).run Try.prog W = .ok (.string z) W := fun W hW => by
                rw [hz]
                exact Rd.str (HRD1.out.below (hBW W hW)) nv cj HNV.out.symm
              have HBW := Lib.hid hBW; have HCC := Lib.hid hCC; have HVV := Lib.hid hVV; have HZ := Lib.hid hz; have HS0 := Lib.hid hS0
              have HSz : Hid (∀ W, TE 82 2 S0 W2.drew W → S0 ≤ W.heap.size) := Lib.hid fun W hW => by rw [hS0]; exact (hBW W hW).size
              have HP2' : Hid (PR0 S0 q (pvl (M.take q)) (.slice A2 q c2) W2.drew) := Lib.hid (by rw [hS0]; exact HP2.out)
              have hq9 : q ≤ 1000000 := by omega
              have HONE : Hid (∀ u ∈ (#[.string xk, .string z] : Array Value).toList, u.oneCell' = true) := Lib.hid (by intro u hu; simp at hu; rcases hu with rfl | rfl <;> rfl)
              clear hBW hCC hVV hz hS0 e0 e1
              go_wp2_with (at_builtin; (rw [← HW1.out]; refine Lib.wpList_append_run _ rfl _ _ _ _ rfl _ _ rfl rfl _ _ HRUN.out ?_))
              refine Stu.wp_region_stu_tail _ 15 (Stu.mkT [(13, plit S0 xk z), (14, psp S0 (q + 1) (pvl (M.take q) ++ [.string xk, .string z]))]) (PR0 S0 q (pvl (M.take q)) (.slice A2 q c2)) [14] (TE.refl _ _ _) TE.trans Gs.te (fun _ _ h hg => h.gs hg) HP2'.out (Stu.mkT_ks _ (by show List.Nodup [13, 14]; decide) _ rfl) (by kernel_rfl) (by kernel_rfl) (by kernel_rfl) ?_
              simp only [List.take_succ_cons, List.take_zero, List.drop_succ_cons, List.drop_zero]
              repeat (first
                | (refine Stu.wpR_plain ?_ (by rfl) (by rfl) (fun K hK => ?_); (focus (first | (simp only [Region.wanted]; done) | (go_simp; done))); apply Exists.intro; refine ⟨fun W hW => ?_, ?_⟩; (go_simp; (try simp only [Stu.plainUpon_value, true_and]); rfl); go_simp; refine hK _ ?_; clear hK K)
                | (refine Stu.wpR_plain ?_ (by rfl) (by rfl) (fun K hK => ?_); (focus (first | (simp only [Region.wanted]; done) | (go_simp; done))); apply Exists.intro; refine ⟨fun W hW => ?_, ?_⟩; (have hcw := HCC.out W hW; go_simp; (try simp only [Stu.plainUpon_value, true_and]); rfl); go_simp; refine hK _ ?_; clear hK K)
                | (refine Stu.wpR_plain ?_ (by rfl) (by rfl) (fun K hK => ?_); (focus (first | (simp only [Region.wanted]; done) | (go_simp; done))); apply Exists.intro; refine ⟨fun W hW => ?_, ?_⟩; (have hcw := HVV.out W hW; go_simp; (try simp only [Stu.plainUpon_value, true_and]); rfl); go_simp; refine hK _ ?_; clear hK K)
                | (refine Stu.wpR_spg (by rfl) (by rfl) ?_ ?_ (fun W hW hF => ?_) (fun K v hv hK => ?_); (focus (first | (simp only [Region.wanted]; done) | (go_simp; done))); (focus (exact ⟨_, 0, rfl⟩)); (go_simp; exact plit_rel (HSz.out W hW) _ ⟨_, rfl⟩ ⟨_, rfl, heap_new _ _ _ rfl⟩); (obtain ⟨g10, rfl⟩ := hv); go_simp; refine hK _ ?_; clear hK K)
                | (refine Stu.wpR_spu (by rfl) (by rfl) ?_ ?_ (fun W hW hU hF => ?_) (fun K v hv hK => ?_); (focus (first | (simp only [Region.wanted]; done) | (go_simp; done))); (focus (exact ⟨_, none, _, rfl, Nat.le_refl _⟩)); (obtain ⟨g', e1, e3⟩ := (show (plit S0 xk z).q [] (.slice (some ⟨g10, 0, none⟩) 1 1) W from hF 13 rfl); cases e1; exact app1_rel (v := .slice A2 q c2) (bytes := 32) Try.underlying47 info_rpair rfl (by decide) (by decide) (by decide) rfl rfl rfl e3 rfl HONE.out (HSz.out W hW) hq9 hU.1 hU.2 (fun v' W' h1 h2 => h1)); (obtain ⟨A3, c3, rfl, hc3⟩ := hv); go_simp; refine hK _ ?_; clear hK K))
              refine Stu.wpR_nil (fun W3 hW3 hU hF => ?_)
              have hU2 : W3.ownsRow S0 82 2 (.slice A3 (q + 1) c3) (q + 1) (pvl (M.take q) ++ [.string xk, .string z]) := hU
              have hb13 := HBW.out W3 hW3
              have hb23 : Below W2.heap.size W2 W2.drew := Below.drew (Below.refl _ _)
              rw [HS0.out] at hU2
              obtain ⟨v4, W4, hrun4, ho4, hb4⟩ := papp2_run (ty := 47) (m := 0) (c := 0) hU2 hb13.size (by rw [pvl_len, List.length_drop, ← HNM.out]; try omega) (HSR1.out.below hb13) (pvl_one _) (by omega)
              have hcut : KvMath.one M xk xv false = M.take q ++ [(xk, xv)] ++ M.drop (q) := by rw [one_cut M HRS.out xk xv false q (q) HQ.out (.inl ⟨HHS.out.symm, rfl⟩)]; simp
              have hvz : pvl [(xk, xv)] = [.string xk, .string z] := by rw [HZ.out]; rfl
              have HLN : Hid ((KvMath.one M xk xv false).length = q + 1 + (0)) := Lib.hid (by rw [hcut, List.length_append, List.length_append, List.length_take, List.length_drop, ← HNM.out]; simp; omega)
              rw [← hvz, ← pvl_app, ← pvl_app, ← hcut] at ho4
              generalize hne : q + 1 + (0) = ne at ho4 hrun4 HLN
              have HNE := Lib.hid hne
              clear hne hcut hvz hU hU2 hF hW3 HCC HVV HBW HSz HP2' HZ hb23 HONE HSR1
              obtain ⟨A4, c4, rfl, hc4⟩ := shpn.of_row ho4
              have hb4' : Below w1.heap.size w1 W4 := Below.trans hb13 hb4
              have hrt4 := HT1.out.below hb4'
              obtain ⟨v0, hst4, hBg, _⟩ := hrt4
              have f4 : W4.frozen? ⟨g, 0, none⟩ = false := frozen_of_row _ g 0 _ _ hst4
              have k4 : W4.cell? ⟨g, 0, none⟩ = some v0 := by rw [cell_of_row _ g 0 _ _ _ hst4]; rfl
              have HO4 := Lib.hid ho4; have HST4 := Lib.hid hst4; have HRUN4 := Lib.hid hrun4
              have HC4 : Hid (Chg (· = g) w W4) := Lib.hid (HC1.out.trans (Chg.of_below hb4'))
              clear ho4 hst4 hrun4 hb4' hb4
              go_wp2_with (at_builtin; first | (rw [← HW1.out]; refine Lib.wpList_append_run _ rfl _ _ _ _ rfl _ _ rfl rfl _ _ HRUN.out ?_) | refine Lib.wpList_append_run _ rfl _ _ _ _ rfl _ _ rfl rfl _ _ HRUN4.out ?_)
              go_roundw
              case rel =>
                refine ⟨p + 1, by omega, by go_num, ?_, HC4.out.trans (Chg.setCell _ _ _ _)⟩
                rw [HTA.out]
                exact RT.put HST4.out hBg (orow_low HO4.out HBS.out) HLN.out
              case measure => simp [intOf]; omega
          · have HSRC : Hid (Src w1 (Am.map (fun x => x.add (q * 2))) (pvl (M.drop q))) := Lib.hid (by
              rw [← pvl_drop M q (by rw [← HNM.out]; exact hqn)]
              exact (HROW.out.below HB1.out).src.drop2 (q * 2))
            obtain ⟨W1, hW1⟩ : ∃ W1, W1 = w1.alloc (.cells #[] 82) := ⟨_, rfl⟩
            have hbA : Below w1.heap.size w1 W1 := by rw [hW1]; exact (Below.refl _ w1).alloc (Nat.le_refl _) _
            have hsrcT : Src W1 Am (pvl (M.take q)) := by
              rw [← pvl_take M q (by rw [← HNM.out]; exact hqn)]
              exact (((HROW.out.below HB1.out).src).below hbA).take2 (q * 2)
            obtain ⟨v2, W2, hrun2, ho2, hz2, hb2⟩ := papp0_run (W := W1) (ty := 47) (S0 := w1.heap.size) (g0 := w1.heap.size) (nn := q) (c := cm) (by rw [hW1]; exact heap_new w1 _ _ rfl) (Nat.le_refl _) hbA.size (by rw [pvl_len, List.length_take, ← HNM.out, Nat.min_eq_left hqn]) hsrcT (pvl_one _) (by have := HLE.out; rw [← HNM.out] at this; omega)
            have hbB : Below w1.heap.size w1 W2 := hbA.trans (hb2.mono hbA.size)
            have d2b := cell_below hbB d2
            have e0 := cell_below (Below.refl _ _) d0
            have e1 := cell_below (Below.refl _ _) d1
            have y0 : (w1.alloc (.cells #[] 82)).cell? ⟨g, 0, none⟩ = some (.slice Am nm cm) := by rw [← hW1]; exact cell_below hbA x0
            obtain ⟨A2, c2, rfl, hc2⟩ := shpn.of_row ho2
            have HT1 : Hid (RT w1 B g M) := Lib.hid (HT'.out.below HB1.out)
            have HC1 : Hid (Chg (· = g) w w1) := Lib.hid (HC.out.trans (Chg.of_below HB1.out))
            have HRD1 : Hid (Rd w1 Aj xv) := Lib.hid (HRD.out.below HB1.out)
            have HSR1 : Hid (Src w1 (Am.map (fun x => x.add (q * 2))) (pvl (M.drop (q)))) := Lib.hid HSRC.out
            have HP2 : Hid (PR0 w1.heap.size q (pvl (M.take q)) (.slice A2 q c2) W2) := Lib.hid ⟨ho2, hz2⟩
            have HRUN := Lib.hid hrun2; have HW1 := Lib.hid hW1; have HB12 := Lib.hid hbB
            have HBS : Hid (B ≤ w1.heap.size) := Lib.hid (Nat.le_trans hB (Nat.le_trans HC.out.size HB1.out.size))
            have hn9 : nm ≤ 900000 := by have := HLE.out; rw [← HNM.out] at this; exact this
            clear hbA hsrcT hrun2 ho2 hz2 hb2 hbB hW1 HSRC HROW HT' HC HRD HB1 d0 d1 d2 HLE HR HT
            cases xg with
            | true =>
              obtain ⟨v4, W4, hrun4, ho4, hb4⟩ := papp2_run (ty := 47) (m := nm - q) (c := cm - q) HP2.out.1 HB12.out.size (by rw [pvl_len, List.length_drop, ← HNM.out]; try omega) (HSR1.out.below HB12.out) (pvl_one _) (by omega)
              have hcut : KvMath.one M xk xv true = M.take q ++ M.drop (q) := by rw [one_cut M HRS.out xk xv true q (q) HQ.out (.inl ⟨HHS.out.symm, rfl⟩)]; simp
              have HLN : Hid ((KvMath.one M xk xv true).length = q + (nm - q)) := Lib.hid (by rw [hcut, List.length_append, List.length_take, List.length_drop, ← HNM.out]; try omega)
              rw [← pvl_app, ← hcut] at ho4
              generalize hne : q + (nm - q) = ne at ho4 hrun4 HLN
              have HNE := Lib.hid hne
              clear hne hcut
              obtain ⟨A4, c4, rfl, hc4⟩ := shpn.of_row ho4
              have hb4' : Below w1.heap.size w1 W4 := Below.trans HB12.out hb4
              have hrt4 := HT1.out.below hb4'
              obtain ⟨v0, hst4, hBg, _⟩ := hrt4
              have f4 : W4.frozen? ⟨g, 0, none⟩ = false := frozen_of_row _ g 0 _ _ hst4
              have k4 : W4.cell? ⟨g, 0, none⟩ = some v0 := by rw [cell_of_row _ g 0 _ _ _ hst4]; rfl
              have HO4 := Lib.hid ho4; have HST4 := Lib.hid hst4; have HRUN4 := Lib.hid hrun4
              have HC4 : Hid (Chg (· = g) w W4) := Lib.hid (HC1.out.trans (Chg.of_below hb4'))
              clear ho4 hst4 hrun4 hb4' hb4
              go_wp2_with (at_builtin; first | (rw [← HW1.out]; refine Lib.wpList_append_run _ rfl _ _ _ _ rfl _ _ rfl rfl _ _ HRUN.out ?_) | refine Lib.wpList_append_run _ rfl _ _ _ _ rfl _ _ rfl rfl _ _ HRUN4.out ?_)
              go_roundw
              case rel =>
                refine ⟨p + 1, by omega, by go_num, ?_, HC4.out.trans (Chg.setCell _ _ _ _)⟩
                rw [HTA.out]
                exact RT.put HST4.out hBg (orow_low HO4.out HBS.out) HLN.out
              case measure => simp [intOf]; omega
            | false =>
              obtain ⟨z, hz⟩ : ∃ z : ByteArray, z = ⟨xv.toArray⟩ := ⟨_, rfl⟩
              obtain ⟨S0, hS0⟩ : ∃ S0, S0 = w1.heap.size := ⟨_, rfl⟩
              have hBW : ∀ W, TE 82 2 S0 W2.drew W → Below w1.heap.size w1 W := fun W hW => HB12.out.trans (by rw [← hS0]; exact (hW.drew (by rw [hS0]; exact HB12.out.size)).1)
              have hCC : ∀ W, TE 82 2 S0 W2.drew W → W.cell? (a.add (p * 3)) = some (.string xk) ∧ W.cell? ⟨(a.add (p * 3)).block, (a.add (p * 3)).off + 1, none⟩ = some (.slice Aj nv cj) := fun W hW => ⟨cell_below (hBW W hW) e0, cell_below (hBW W hW) e1⟩
              have hVV : ∀ W, TE 82 2 S0 W2.drew W → (convert 32 9 (.slice Aj nv cj)).run Try.prog W = .ok (.string z) W := fun W hW => by
                rw [hz]
                exact Rd.str (HRD1.out.below (hBW W hW)) nv cj HNV.out.symm
              have HBW := Lib.hid hBW; have HCC := Lib.hid hCC; have HVV := Lib.hid hVV; have HZ := Lib.hid hz; have HS0 := Lib.hid hS0
              have HSz : Hid (∀ W, TE 82 2 S0 W2.drew W → S0 ≤ W.heap.size) := Lib.hid fun W hW => by rw [hS0]; exact (hBW W hW).size
              have HP2' : Hid (PR0 S0 q (pvl (M.take q)) (.slice A2 q c2) W2.drew) := Lib.hid (by rw [hS0]; exact HP2.out)
              have hq9 : q ≤ 1000000 := by omega
              have HONE : Hid (∀ u ∈ (#[.string xk, .string z] : Array Value).toList, u.oneCell' = true) := Lib.hid (by intro u hu; simp at hu; rcases hu with rfl | rfl <;> rfl)
              clear hBW hCC hVV hz hS0 e0 e1
              go_wp2_with (at_builtin; (rw [← HW1.out]; refine Lib.wpList_append_run _ rfl _ _ _ _ rfl _ _ rfl rfl _ _ HRUN.out ?_))
              refine Stu.wp_region_stu_tail _ 15 (Stu.mkT [(13, plit S0 xk z), (14, psp S0 (q + 1) (pvl (M.take q) ++ [.string xk, .string z]))]) (PR0 S0 q (pvl (M.take q)) (.slice A2 q c2)) [14] (TE.refl _ _ _) TE.trans Gs.te (fun _ _ h hg => h.gs hg) HP2'.out (Stu.mkT_ks _ (by show List.Nodup [13, 14]; decide) _ rfl) (by kernel_rfl) (by kernel_rfl) (by kernel_rfl) ?_
              simp only [List.take_succ_cons, List.take_zero, List.drop_succ_cons, List.drop_zero]
              repeat (first
                | (refine Stu.wpR_plain ?_ (by rfl) (by rfl) (fun K hK => ?_); (focus (first | (simp only [Region.wanted]; done) | (go_simp; done))); apply Exists.intro; refine ⟨fun W hW => ?_, ?_⟩; (go_simp; (try simp only [Stu.plainUpon_value, true_and]); rfl); go_simp; refine hK _ ?_; clear hK K)
                | (refine Stu.wpR_plain ?_ (by rfl) (by rfl) (fun K hK => ?_); (focus (first | (simp only [Region.wanted]; done) | (go_simp; done))); apply Exists.intro; refine ⟨fun W hW => ?_, ?_⟩; (have hcw := HCC.out W hW; go_simp; (try simp only [Stu.plainUpon_value, true_and]); rfl); go_simp; refine hK _ ?_; clear hK K)
                | (refine Stu.wpR_plain ?_ (by rfl) (by rfl) (fun K hK => ?_); (focus (first | (simp only [Region.wanted]; done) | (go_simp; done))); apply Exists.intro; refine ⟨fun W hW => ?_, ?_⟩; (have hcw := HVV.out W hW; go_simp; (try simp only [Stu.plainUpon_value, true_and]); rfl); go_simp; refine hK _ ?_; clear hK K)
                | (refine Stu.wpR_spg (by rfl) (by rfl) ?_ ?_ (fun W hW hF => ?_) (fun K v hv hK => ?_); (focus (first | (simp only [Region.wanted]; done) | (go_simp; done))); (focus (exact ⟨_, 0, rfl⟩)); (go_simp; exact plit_rel (HSz.out W hW) _ ⟨_, rfl⟩ ⟨_, rfl, heap_new _ _ _ rfl⟩); (obtain ⟨g10, rfl⟩ := hv); go_simp; refine hK _ ?_; clear hK K)
                | (refine Stu.wpR_spu (by rfl) (by rfl) ?_ ?_ (fun W hW hU hF => ?_) (fun K v hv hK => ?_); (focus (first | (simp only [Region.wanted]; done) | (go_simp; done))); (focus (exact ⟨_, none, _, rfl, Nat.le_refl _⟩)); (obtain ⟨g', e1, e3⟩ := (show (plit S0 xk z).q [] (.slice (some ⟨g10, 0, none⟩) 1 1) W from hF 13 rfl); cases e1; exact app1_rel (v := .slice A2 q c2) (bytes := 32) Try.underlying47 info_rpair rfl (by decide) (by decide) (by decide) rfl rfl rfl e3 rfl HONE.out (HSz.out W hW) hq9 hU.1 hU.2 (fun v' W' h1 h2 => h1)); (obtain ⟨A3, c3, rfl, hc3⟩ := hv); go_simp; refine hK _ ?_; clear hK K))
              refine Stu.wpR_nil (fun W3 hW3 hU hF => ?_)
              have hU2 : W3.ownsRow S0 82 2 (.slice A3 (q + 1) c3) (q + 1) (pvl (M.take q) ++ [.string xk, .string z]) := hU
              have hb13 := HBW.out W3 hW3
              have hb23 : Below W2.heap.size W2 W2.drew := Below.drew (Below.refl _ _)
              rw [HS0.out] at hU2
              obtain ⟨v4, W4, hrun4, ho4, hb4⟩ := papp2_run (ty := 47) (m := nm - q) (c := cm - q) hU2 hb13.size (by rw [pvl_len, List.length_drop, ← HNM.out]; try omega) (HSR1.out.below hb13) (pvl_one _) (by omega)
              have hcut : KvMath.one M xk xv false = M.take q ++ [(xk, xv)] ++ M.drop (q) := by rw [one_cut M HRS.out xk xv false q (q) HQ.out (.inl ⟨HHS.out.symm, rfl⟩)]; simp
              have hvz : pvl [(xk, xv)] = [.string xk, .string z] := by rw [HZ.out]; rfl
              have HLN : Hid ((KvMath.one M xk xv false).length = q + 1 + (nm - q)) := Lib.hid (by rw [hcut, List.length_append, List.length_append, List.length_take, List.length_drop, ← HNM.out]; simp; omega)
              rw [← hvz, ← pvl_app, ← pvl_app, ← hcut] at ho4
              generalize hne : q + 1 + (nm - q) = ne at ho4 hrun4 HLN
              have HNE := Lib.hid hne
              clear hne hcut hvz hU hU2 hF hW3 HCC HVV HBW HSz HP2' HZ hb23 HONE HSR1
              obtain ⟨A4, c4, rfl, hc4⟩ := shpn.of_row ho4
              have hb4' : Below w1.heap.size w1 W4 := Below.trans hb13 hb4
              have hrt4 := HT1.out.below hb4'
              obtain ⟨v0, hst4, hBg, _⟩ := hrt4
              have f4 : W4.frozen? ⟨g, 0, none⟩ = false := frozen_of_row _ g 0 _ _ hst4
              have k4 : W4.cell? ⟨g, 0, none⟩ = some v0 := by rw [cell_of_row _ g 0 _ _ _ hst4]; rfl
              have HO4 := Lib.hid ho4; have HST4 := Lib.hid hst4; have HRUN4 := Lib.hid hrun4
              have HC4 : Hid (Chg (· = g) w W4) := Lib.hid (HC1.out.trans (Chg.of_below hb4'))
              clear ho4 hst4 hrun4 hb4' hb4
              go_wp2_with (at_builtin; first | (rw [← HW1.out]; refine Lib.wpList_append_run _ rfl _ _ _ _ rfl _ _ rfl rfl _ _ HRUN.out ?_) | refine Lib.wpList_append_run _ rfl _ _ _ _ rfl _ _ rfl rfl _ _ HRUN4.out ?_)
              go_roundw
              case rel =>
                refine ⟨p + 1, by omega, by go_num, ?_, HC4.out.trans (Chg.setCell _ _ _ _)⟩
                rw [HTA.out]
                exact RT.put HST4.out hBg (orow_low HO4.out HBS.out) HLN.out
              case measure => simp [intOf]; omega
        | true =>
          have hqlt : q < nm := by rw [HQ.out, HNM.out]; exact KvMath.pos_lt _ HRS.out _ HHS.out.symm
          obtain ⟨q1, hq1e⟩ : ∃ q1, q1 = q + 1 := ⟨_, rfl⟩
          have hwq : IntKind.i64.wrap ((q : Int) + 1) = (q1 : Int) := by have := HLE.out; rw [← HNM.out] at this; rw [IntKind.wrap_i64]; omega
          have hq1 : q1 ≤ nm := by omega
          have hcq : ¬ cm = q := by omega
          by_cases hcr : cm = q1
          · have HSRC : Hid (Src w1 Am (pvl (M.drop q1))) := Lib.hid (by
              have e : M.drop q1 = [] := List.drop_eq_nil_of_le (by rw [← HNM.out]; omega)
              rw [e]
              exact fun h => absurd h (by simp [pvl]))
            obtain rfl : nm = q1 := by omega
            subst cm
            have HQ1 := Lib.hid hq1e
            clear hq1e
            obtain ⟨W1, hW1⟩ : ∃ W1, W1 = w1.alloc (.cells #[] 82) := ⟨_, rfl⟩
            have hbA : Below w1.heap.size w1 W1 := by rw [hW1]; exact (Below.refl _ w1).alloc (Nat.le_refl _) _
            have hsrcT : Src W1 Am (pvl (M.take q)) := by
              rw [← pvl_take M q (by rw [← HNM.out]; exact hqn)]
              exact (((HROW.out.below HB1.out).src).below hbA).take2 (q * 2)
            obtain ⟨v2, W2, hrun2, ho2, hz2, hb2⟩ := papp0_run (W := W1) (ty := 47) (S0 := w1.heap.size) (g0 := w1.heap.size) (nn := q) (c := nm) (by rw [hW1]; exact heap_new w1 _ _ rfl) (Nat.le_refl _) hbA.size (by rw [pvl_len, List.length_take, ← HNM.out, Nat.min_eq_left hqn]) hsrcT (pvl_one _) (by have := HLE.out; rw [← HNM.out] at this; omega)
            have hbB : Below w1.heap.size w1 W2 := hbA.trans (hb2.mono hbA.size)
            have d2b := cell_below hbB d2
            have e0 := cell_below (Below.refl _ _) d0
            have e1 := cell_below (Below.refl _ _) d1
            have y0 : (w1.alloc (.cells #[] 82)).cell? ⟨g, 0, none⟩ = some (.slice Am nm nm) := by rw [← hW1]; exact cell_below hbA x0
            obtain ⟨A2, c2, rfl, hc2⟩ := shpn.of_row ho2
            have HT1 : Hid (RT w1 B g M) := Lib.hid (HT'.out.below HB1.out)
            have HC1 : Hid (Chg (· = g) w w1) := Lib.hid (HC.out.trans (Chg.of_below HB1.out))
            have HRD1 : Hid (Rd w1 Aj xv) := Lib.hid (HRD.out.below HB1.out)
            have HSR1 : Hid (Src w1 (Am) (pvl (M.drop (nm)))) := Lib.hid HSRC.out
            have HP2 : Hid (PR0 w1.heap.size q (pvl (M.take q)) (.slice A2 q c2) W2) := Lib.hid ⟨ho2, hz2⟩
            have HRUN := Lib.hid hrun2; have HW1 := Lib.hid hW1; have HB12 := Lib.hid hbB
            have HBS : Hid (B ≤ w1.heap.size) := Lib.hid (Nat.le_trans hB (Nat.le_trans HC.out.size HB1.out.size))
            have hn9 : nm ≤ 900000 := by have := HLE.out; rw [← HNM.out] at this; exact this
            clear hbA hsrcT hrun2 ho2 hz2 hb2 hbB hW1 HSRC HROW HT' HC HRD HB1 d0 d1 d2 HLE HR HT
            cases xg with
            | true =>
              obtain ⟨v4, W4, hrun4, ho4, hb4⟩ := papp2_run (ty := 47) (m := 0) (c := 0) HP2.out.1 HB12.out.size (by rw [pvl_len, List.length_drop, ← HNM.out]; try omega) (HSR1.out.below HB12.out) (pvl_one _) (by omega)
              have hcut : KvMath.one M xk xv true = M.take q ++ M.drop (nm) := by rw [one_cut M HRS.out xk xv true q (nm) HQ.out (.inr ⟨HHS.out.symm, HQ1.out⟩)]; simp
              have HLN : Hid ((KvMath.one M xk xv true).length = q + (0)) := Lib.hid (by rw [hcut, List.length_append, List.length_take, List.length_drop, ← HNM.out]; try omega)
              rw [← pvl_app, ← hcut] at ho4
              generalize hne : q + (0) = ne at ho4 hrun4 HLN
              have HNE := Lib.hid hne
              clear hne hcut
              obtain ⟨A4, c4, rfl, hc4⟩ := shpn.of_row ho4
              have hb4' : Below w1.heap.size w1 W4 := Below.trans HB12.out hb4
              have hrt4 := HT1.out.below hb4'
              obtain ⟨v0, hst4, hBg, _⟩ := hrt4
              have f4 : W4.frozen? ⟨g, 0, none⟩ = false := frozen_of_row _ g 0 _ _ hst4
              have k4 : W4.cell? ⟨g, 0, none⟩ = some v0 := by rw [cell_of_row _ g 0 _ _ _ hst4]; rfl
              have HO4 := Lib.hid ho4; have HST4 := Lib.hid hst4; have HRUN4 := Lib.hid hrun4
              have HC4 : Hid (Chg (· = g) w W4) := Lib.hid (HC1.out.trans (Chg.of_below hb4'))
              clear ho4 hst4 hrun4 hb4' hb4
              go_wp2_with (at_builtin; first | (rw [← HW1.out]; refine Lib.wpList_append_run _ rfl _ _ _ _ rfl _ _ rfl rfl _ _ HRUN.out ?_) | refine Lib.wpList_append_run _ rfl _ _ _ _ rfl _ _ rfl rfl _ _ HRUN4.out ?_)
              go_roundw
              case rel =>
                refine ⟨p + 1, by omega, by go_num, ?_, HC4.out.trans (Chg.setCell _ _ _ _)⟩
                rw [HTA.out]
                exact RT.put HST4.out hBg (orow_low HO4.out HBS.out) HLN.out
              case measure => simp [intOf]; omega
            | false =>
              obtain ⟨z, hz⟩ : ∃ z : ByteArray, z = ⟨xv.toArray⟩ := ⟨_, rfl⟩
              obtain ⟨S0, hS0⟩ : ∃ S0, S0 = w1.heap.size := ⟨_, rfl⟩
              have hBW : ∀ W, TE 82 2 S0 W2.drew W → Below w1.heap.size w1 W := fun W hW => HB12.out.trans (by rw [← hS0]; exact (hW.drew (by rw [hS0]; exact HB12.out.size)).1)
              have hCC : ∀ W, TE 82 2 S0 W2.drew W → W.cell? (a.add (p * 3)) = some (.string xk) ∧ W.cell? ⟨(a.add (p * 3)).block, (a.add (p * 3)).off + 1, none⟩ = some (.slice Aj nv cj) := fun W hW => ⟨cell_below (hBW W hW) e0, cell_below (hBW W hW) e1⟩
              have hVV : ∀ W, TE 82 2 S0 W2.drew W → (convert 32 9 (.slice Aj nv cj)).run Try.prog W = .ok (.string z) W := fun W hW => by
                rw [hz]
                exact Rd.str (HRD1.out.below (hBW W hW)) nv cj HNV.out.symm
              have HBW := Lib.hid hBW; have HCC := Lib.hid hCC; have HVV := Lib.hid hVV; have HZ := Lib.hid hz; have HS0 := Lib.hid hS0
              have HSz : Hid (∀ W, TE 82 2 S0 W2.drew W → S0 ≤ W.heap.size) := Lib.hid fun W hW => by rw [hS0]; exact (hBW W hW).size
              have HP2' : Hid (PR0 S0 q (pvl (M.take q)) (.slice A2 q c2) W2.drew) := Lib.hid (by rw [hS0]; exact HP2.out)
              have hq9 : q ≤ 1000000 := by omega
              have HONE : Hid (∀ u ∈ (#[.string xk, .string z] : Array Value).toList, u.oneCell' = true) := Lib.hid (by intro u hu; simp at hu; rcases hu with rfl | rfl <;> rfl)
              clear hBW hCC hVV hz hS0 e0 e1
              go_wp2_with (at_builtin; (rw [← HW1.out]; refine Lib.wpList_append_run _ rfl _ _ _ _ rfl _ _ rfl rfl _ _ HRUN.out ?_))
              refine Stu.wp_region_stu_tail _ 15 (Stu.mkT [(13, plit S0 xk z), (14, psp S0 (q + 1) (pvl (M.take q) ++ [.string xk, .string z]))]) (PR0 S0 q (pvl (M.take q)) (.slice A2 q c2)) [14] (TE.refl _ _ _) TE.trans Gs.te (fun _ _ h hg => h.gs hg) HP2'.out (Stu.mkT_ks _ (by show List.Nodup [13, 14]; decide) _ rfl) (by kernel_rfl) (by kernel_rfl) (by kernel_rfl) ?_
              simp only [List.take_succ_cons, List.take_zero, List.drop_succ_cons, List.drop_zero]
              repeat (first
                | (refine Stu.wpR_plain ?_ (by rfl) (by rfl) (fun K hK => ?_); (focus (first | (simp only [Region.wanted]; done) | (go_simp; done))); apply Exists.intro; refine ⟨fun W hW => ?_, ?_⟩; (go_simp; (try simp only [Stu.plainUpon_value, true_and]); rfl); go_simp; refine hK _ ?_; clear hK K)
                | (refine Stu.wpR_plain ?_ (by rfl) (by rfl) (fun K hK => ?_); (focus (first | (simp only [Region.wanted]; done) | (go_simp; done))); apply Exists.intro; refine ⟨fun W hW => ?_, ?_⟩; (have hcw := HCC.out W hW; go_simp; (try simp only [Stu.plainUpon_value, true_and]); rfl); go_simp; refine hK _ ?_; clear hK K)
                | (refine Stu.wpR_plain ?_ (by rfl) (by rfl) (fun K hK => ?_); (focus (first | (simp only [Region.wanted]; done) | (go_simp; done))); apply Exists.intro; refine ⟨fun W hW => ?_, ?_⟩; (have hcw := HVV.out W hW; go_simp; (try simp only [Stu.plainUpon_value, true_and]); rfl); go_simp; refine hK _ ?_; clear hK K)
                | (refine Stu.wpR_spg (by rfl) (by rfl) ?_ ?_ (fun W hW hF => ?_) (fun K v hv hK => ?_); (focus (first | (simp only [Region.wanted]; done) | (go_simp; done))); (focus (exact ⟨_, 0, rfl⟩)); (go_simp; exact plit_rel (HSz.out W hW) _ ⟨_, rfl⟩ ⟨_, rfl, heap_new _ _ _ rfl⟩); (obtain ⟨g10, rfl⟩ := hv); go_simp; refine hK _ ?_; clear hK K)
                | (refine Stu.wpR_spu (by rfl) (by rfl) ?_ ?_ (fun W hW hU hF => ?_) (fun K v hv hK => ?_); (focus (first | (simp only [Region.wanted]; done) | (go_simp; done))); (focus (exact ⟨_, none, _, rfl, Nat.le_refl _⟩)); (obtain ⟨g', e1, e3⟩ := (show (plit S0 xk z).q [] (.slice (some ⟨g10, 0, none⟩) 1 1) W from hF 13 rfl); cases e1; exact app1_rel (v := .slice A2 q c2) (bytes := 32) Try.underlying47 info_rpair rfl (by decide) (by decide) (by decide) rfl rfl rfl e3 rfl HONE.out (HSz.out W hW) hq9 hU.1 hU.2 (fun v' W' h1 h2 => h1)); (obtain ⟨A3, c3, rfl, hc3⟩ := hv); go_simp; refine hK _ ?_; clear hK K))
              refine Stu.wpR_nil (fun W3 hW3 hU hF => ?_)
              have hU2 : W3.ownsRow S0 82 2 (.slice A3 (q + 1) c3) (q + 1) (pvl (M.take q) ++ [.string xk, .string z]) := hU
              have hb13 := HBW.out W3 hW3
              have hb23 : Below W2.heap.size W2 W2.drew := Below.drew (Below.refl _ _)
              rw [HS0.out] at hU2
              obtain ⟨v4, W4, hrun4, ho4, hb4⟩ := papp2_run (ty := 47) (m := 0) (c := 0) hU2 hb13.size (by rw [pvl_len, List.length_drop, ← HNM.out]; try omega) (HSR1.out.below hb13) (pvl_one _) (by omega)
              have hcut : KvMath.one M xk xv false = M.take q ++ [(xk, xv)] ++ M.drop (nm) := by rw [one_cut M HRS.out xk xv false q (nm) HQ.out (.inr ⟨HHS.out.symm, HQ1.out⟩)]; simp
              have hvz : pvl [(xk, xv)] = [.string xk, .string z] := by rw [HZ.out]; rfl
              have HLN : Hid ((KvMath.one M xk xv false).length = q + 1 + (0)) := Lib.hid (by rw [hcut, List.length_append, List.length_append, List.length_take, List.length_drop, ← HNM.out]; simp; omega)
              rw [← hvz, ← pvl_app, ← pvl_app, ← hcut] at ho4
              generalize hne : q + 1 + (0) = ne at ho4 hrun4 HLN
              have HNE := Lib.hid hne
              clear hne hcut hvz hU hU2 hF hW3 HCC HVV HBW HSz HP2' HZ hb23 HONE HSR1
              obtain ⟨A4, c4, rfl, hc4⟩ := shpn.of_row ho4
              have hb4' : Below w1.heap.size w1 W4 := Below.trans hb13 hb4
              have hrt4 := HT1.out.below hb4'
              obtain ⟨v0, hst4, hBg, _⟩ := hrt4
              have f4 : W4.frozen? ⟨g, 0, none⟩ = false := frozen_of_row _ g 0 _ _ hst4
              have k4 : W4.cell? ⟨g, 0, none⟩ = some v0 := by rw [cell_of_row _ g 0 _ _ _ hst4]; rfl
              have HO4 := Lib.hid ho4; have HST4 := Lib.hid hst4; have HRUN4 := Lib.hid hrun4
              have HC4 : Hid (Chg (· = g) w W4) := Lib.hid (HC1.out.trans (Chg.of_below hb4'))
              clear ho4 hst4 hrun4 hb4' hb4
              go_wp2_with (at_builtin; first | (rw [← HW1.out]; refine Lib.wpList_append_run _ rfl _ _ _ _ rfl _ _ rfl rfl _ _ HRUN.out ?_) | refine Lib.wpList_append_run _ rfl _ _ _ _ rfl _ _ rfl rfl _ _ HRUN4.out ?_)
              go_roundw
              case rel =>
                refine ⟨p + 1, by omega, by go_num, ?_, HC4.out.trans (Chg.setCell _ _ _ _)⟩
                rw [HTA.out]
                exact RT.put HST4.out hBg (orow_low HO4.out HBS.out) HLN.out
              case measure => simp [intOf]; omega
          · have HSRC : Hid (Src w1 (Am.map (fun x => x.add (q1 * 2))) (pvl (M.drop q1))) := Lib.hid (by
              rw [← pvl_drop M q1 (by rw [← HNM.out]; exact hq1)]
              exact (HROW.out.below HB1.out).src.drop2 (q1 * 2))
            have HQ1 := Lib.hid hq1e
            clear hq1e
            obtain ⟨W1, hW1⟩ : ∃ W1, W1 = w1.alloc (.cells #[] 82) := ⟨_, rfl⟩
            have hbA : Below w1.heap.size w1 W1 := by rw [hW1]; exact (Below.refl _ w1).alloc (Nat.le_refl _) _
            have hsrcT : Src W1 Am (pvl (M.take q)) := by
              rw [← pvl_take M q (by rw [← HNM.out]; exact hqn)]
              exact (((HROW.out.below HB1.out).src).below hbA).take2 (q * 2)
            obtain ⟨v2, W2, hrun2, ho2, hz2, hb2⟩ := papp0_run (W := W1) (ty := 47) (S0 := w1.heap.size) (g0 := w1.heap.size) (nn := q) (c := cm) (by rw [hW1]; exact heap_new w1 _ _ rfl) (Nat.le_refl _) hbA.size (by rw [pvl_len, List.length_take, ← HNM.out, Nat.min_eq_left hqn]) hsrcT (pvl_one _) (by have := HLE.out; rw [← HNM.out] at this; omega)
            have hbB : Below w1.heap.size w1 W2 := hbA.trans (hb2.mono hbA.size)
            have d2b := cell_below hbB d2
            have e0 := cell_below (Below.refl _ _) d0
            have e1 := cell_below (Below.refl _ _) d1
            have y0 : (w1.alloc (.cells #[] 82)).cell? ⟨g, 0, none⟩ = some (.slice Am nm cm) := by rw [← hW1]; exact cell_below hbA x0
            obtain ⟨A2, c2, rfl, hc2⟩ := shpn.of_row ho2
            have HT1 : Hid (RT w1 B g M) := Lib.hid (HT'.out.below HB1.out)
            have HC1 : Hid (Chg (· = g) w w1) := Lib.hid (HC.out.trans (Chg.of_below HB1.out))
            have HRD1 : Hid (Rd w1 Aj xv) := Lib.hid (HRD.out.below HB1.out)
            have HSR1 : Hid (Src w1 (Am.map (fun x => x.add (q1 * 2))) (pvl (M.drop (q1)))) := Lib.hid HSRC.out
            have HP2 : Hid (PR0 w1.heap.size q (pvl (M.take q)) (.slice A2 q c2) W2) := Lib.hid ⟨ho2, hz2⟩
            have HRUN := Lib.hid hrun2; have HW1 := Lib.hid hW1; have HB12 := Lib.hid hbB
            have HBS : Hid (B ≤ w1.heap.size) := Lib.hid (Nat.le_trans hB (Nat.le_trans HC.out.size HB1.out.size))
            have hn9 : nm ≤ 900000 := by have := HLE.out; rw [← HNM.out] at this; exact this
            clear hbA hsrcT hrun2 ho2 hz2 hb2 hbB hW1 HSRC HROW HT' HC HRD HB1 d0 d1 d2 HLE HR HT
            cases xg with
            | true =>
              obtain ⟨v4, W4, hrun4, ho4, hb4⟩ := papp2_run (ty := 47) (m := nm - q1) (c := cm - q1) HP2.out.1 HB12.out.size (by rw [pvl_len, List.length_drop, ← HNM.out]; try omega) (HSR1.out.below HB12.out) (pvl_one _) (by omega)
              have hcut : KvMath.one M xk xv true = M.take q ++ M.drop (q1) := by rw [one_cut M HRS.out xk xv true q (q1) HQ.out (.inr ⟨HHS.out.symm, HQ1.out⟩)]; simp
              have HLN : Hid ((KvMath.one M xk xv true).length = q + (nm - q1)) := Lib.hid (by rw [hcut, List.length_append, List.length_take, List.length_drop, ← HNM.out]; try omega)
              rw [← pvl_app, ← hcut] at ho4
              generalize hne : q + (nm - q1) = ne at ho4 hrun4 HLN
              have HNE := Lib.hid hne
              clear hne hcut
              obtain ⟨A4, c4, rfl, hc4⟩ := shpn.of_row ho4
              have hb4' : Below w1.heap.size w1 W4 := Below.trans HB12.out hb4
              have hrt4 := HT1.out.below hb4'
              obtain ⟨v0, hst4, hBg, _⟩ := hrt4
              have f4 : W4.frozen? ⟨g, 0, none⟩ = false := frozen_of_row _ g 0 _ _ hst4
              have k4 : W4.cell? ⟨g, 0, none⟩ = some v0 := by rw [cell_of_row _ g 0 _ _ _ hst4]; rfl
              have HO4 := Lib.hid ho4; have HST4 := Lib.hid hst4; have HRUN4 := Lib.hid hrun4
              have HC4 : Hid (Chg (· = g) w W4) := Lib.hid (HC1.out.trans (Chg.of_below hb4'))
              clear ho4 hst4 hrun4 hb4' hb4
              go_wp2_with (at_builtin; first | (rw [← HW1.out]; refine Lib.wpList_append_run _ rfl _ _ _ _ rfl _ _ rfl rfl _ _ HRUN.out ?_) | refine Lib.wpList_append_run _ rfl _ _ _ _ rfl _ _ rfl rfl _ _ HRUN4.out ?_)
              go_roundw
              case rel =>
                refine ⟨p + 1, by omega, by go_num, ?_, HC4.out.trans (Chg.setCell _ _ _ _)⟩
                rw [HTA.out]
                exact RT.put HST4.out hBg (orow_low HO4.out HBS.out) HLN.out
              case measure => simp [intOf]; omega
            | false =>
              obtain ⟨z, hz⟩ : ∃ z : ByteArray, z = ⟨xv.toArray⟩ := ⟨_, rfl⟩
              obtain ⟨S0, hS0⟩ : ∃ S0, S0 = w1.heap.size := ⟨_, rfl⟩
              have hBW : ∀ W, TE 82 2 S0 W2.drew W → Below w1.heap.size w1 W := fun W hW => HB12.out.trans (by rw [← hS0]; exact (hW.drew (by rw [hS0]; exact HB12.out.size)).1)
              have hCC : ∀ W, TE 82 2 S0 W2.drew W → W.cell? (a.add (p * 3)) = some (.string xk) ∧ W.cell? ⟨(a.add (p * 3)).block, (a.add (p * 3)).off + 1, none⟩ = some (.slice Aj nv cj) := fun W hW => ⟨cell_below (hBW W hW) e0, cell_below (hBW W hW) e1⟩
              have hVV : ∀ W, TE 82 2 S0 W2.drew W → (convert 32 9 (.slice Aj nv cj)).run Try.prog W = .ok (.string z) W := fun W hW => by
                rw [hz]
                exact Rd.str (HRD1.out.below (hBW W hW)) nv cj HNV.out.symm
              have HBW := Lib.hid hBW; have HCC := Lib.hid hCC; have HVV := Lib.hid hVV; have HZ := Lib.hid hz; have HS0 := Lib.hid hS0
              have HSz : Hid (∀ W, TE 82 2 S0 W2.drew W → S0 ≤ W.heap.size) := Lib.hid fun W hW => by rw [hS0]; exact (hBW W hW).size
              have HP2' : Hid (PR0 S0 q (pvl (M.take q)) (.slice A2 q c2) W2.drew) := Lib.hid (by rw [hS0]; exact HP2.out)
              have hq9 : q ≤ 1000000 := by omega
              have HONE : Hid (∀ u ∈ (#[.string xk, .string z] : Array Value).toList, u.oneCell' = true) := Lib.hid (by intro u hu; simp at hu; rcases hu with rfl | rfl <;> rfl)
              clear hBW hCC hVV hz hS0 e0 e1
              go_wp2_with (at_builtin; (rw [← HW1.out]; refine Lib.wpList_append_run _ rfl _ _ _ _ rfl _ _ rfl rfl _ _ HRUN.out ?_))
              refine Stu.wp_region_stu_tail _ 15 (Stu.mkT [(13, plit S0 xk z), (14, psp S0 (q + 1) (pvl (M.take q) ++ [.string xk, .string z]))]) (PR0 S0 q (pvl (M.take q)) (.slice A2 q c2)) [14] (TE.refl _ _ _) TE.trans Gs.te (fun _ _ h hg => h.gs hg) HP2'.out (Stu.mkT_ks _ (by show List.Nodup [13, 14]; decide) _ rfl) (by kernel_rfl) (by kernel_rfl) (by kernel_rfl) ?_
              simp only [List.take_succ_cons, List.take_zero, List.drop_succ_cons, List.drop_zero]
              repeat (first
                | (refine Stu.wpR_plain ?_ (by rfl) (by rfl) (fun K hK => ?_); (focus (first | (simp only [Region.wanted]; done) | (go_simp; done))); apply Exists.intro; refine ⟨fun W hW => ?_, ?_⟩; (go_simp; (try simp only [Stu.plainUpon_value, true_and]); rfl); go_simp; refine hK _ ?_; clear hK K)
                | (refine Stu.wpR_plain ?_ (by rfl) (by rfl) (fun K hK => ?_); (focus (first | (simp only [Region.wanted]; done) | (go_simp; done))); apply Exists.intro; refine ⟨fun W hW => ?_, ?_⟩; (have hcw := HCC.out W hW; go_simp; (try simp only [Stu.plainUpon_value, true_and]); rfl); go_simp; refine hK _ ?_; clear hK K)
                | (refine Stu.wpR_plain ?_ (by rfl) (by rfl) (fun K hK => ?_); (focus (first | (simp only [Region.wanted]; done) | (go_simp; done))); apply Exists.intro; refine ⟨fun W hW => ?_, ?_⟩; (have hcw := HVV.out W hW; go_simp; (try simp only [Stu.plainUpon_value, true_and]); rfl); go_simp; refine hK _ ?_; clear hK K)
                | (refine Stu.wpR_spg (by rfl) (by rfl) ?_ ?_ (fun W hW hF => ?_) (fun K v hv hK => ?_); (focus (first | (simp only [Region.wanted]; done) | (go_simp; done))); (focus (exact ⟨_, 0, rfl⟩)); (go_simp; exact plit_rel (HSz.out W hW) _ ⟨_, rfl⟩ ⟨_, rfl, heap_new _ _ _ rfl⟩); (obtain ⟨g10, rfl⟩ := hv); go_simp; refine hK _ ?_; clear hK K)
                | (refine Stu.wpR_spu (by rfl) (by rfl) ?_ ?_ (fun W hW hU hF => ?_) (fun K v hv hK => ?_); (focus (first | (simp only [Region.wanted]; done) | (go_simp; done))); (focus (exact ⟨_, none, _, rfl, Nat.le_refl _⟩)); (obtain ⟨g', e1, e3⟩ := (show (plit S0 xk z).q [] (.slice (some ⟨g10, 0, none⟩) 1 1) W from hF 13 rfl); cases e1; exact app1_rel (v := .slice A2 q c2) (bytes := 32) Try.underlying47 info_rpair rfl (by decide) (by decide) (by decide) rfl rfl rfl e3 rfl HONE.out (HSz.out W hW) hq9 hU.1 hU.2 (fun v' W' h1 h2 => h1)); (obtain ⟨A3, c3, rfl, hc3⟩ := hv); go_simp; refine hK _ ?_; clear hK K))
              refine Stu.wpR_nil (fun W3 hW3 hU hF => ?_)
              have hU2 : W3.ownsRow S0 82 2 (.slice A3 (q + 1) c3) (q + 1) (pvl (M.take q) ++ [.string xk, .string z]) := hU
              have hb13 := HBW.out W3 hW3
              have hb23 : Below W2.heap.size W2 W2.drew := Below.drew (Below.refl _ _)
              rw [HS0.out] at hU2
              obtain ⟨v4, W4, hrun4, ho4, hb4⟩ := papp2_run (ty := 47) (m := nm - q1) (c := cm - q1) hU2 hb13.size (by rw [pvl_len, List.length_drop, ← HNM.out]; try omega) (HSR1.out.below hb13) (pvl_one _) (by omega)
              have hcut : KvMath.one M xk xv false = M.take q ++ [(xk, xv)] ++ M.drop (q1) := by rw [one_cut M HRS.out xk xv false q (q1) HQ.out (.inr ⟨HHS.out.symm, HQ1.out⟩)]; simp
              have hvz : pvl [(xk, xv)] = [.string xk, .string z] := by rw [HZ.out]; rfl
              have HLN : Hid ((KvMath.one M xk xv false).length = q + 1 + (nm - q1)) := Lib.hid (by rw [hcut, List.length_append, List.length_append, List.length_take, List.length_drop, ← HNM.out]; simp; omega)
              rw [← hvz, ← pvl_app, ← pvl_app, ← hcut] at ho4
              generalize hne : q + 1 + (nm - q1) = ne at ho4 hrun4 HLN
              have HNE := Lib.hid hne
              clear hne hcut hvz hU hU2 hF hW3 HCC HVV HBW HSz HP2' HZ hb23 HONE HSR1
              obtain ⟨A4, c4, rfl, hc4⟩ := shpn.of_row ho4
              have hb4' : Below w1.heap.size w1 W4 := Below.trans hb13 hb4
              have hrt4 := HT1.out.below hb4'
              obtain ⟨v0, hst4, hBg, _⟩ := hrt4
              have f4 : W4.frozen? ⟨g, 0, none⟩ = false := frozen_of_row _ g 0 _ _ hst4
              have k4 : W4.cell? ⟨g, 0, none⟩ = some v0 := by rw [cell_of_row _ g 0 _ _ _ hst4]; rfl
              have HO4 := Lib.hid ho4; have HST4 := Lib.hid hst4; have HRUN4 := Lib.hid hrun4
              have HC4 : Hid (Chg (· = g) w W4) := Lib.hid (HC1.out.trans (Chg.of_below hb4'))
              clear ho4 hst4 hrun4 hb4' hb4
              go_wp2_with (at_builtin; first | (rw [← HW1.out]; refine Lib.wpList_append_run _ rfl _ _ _ _ rfl _ _ rfl rfl _ _ HRUN.out ?_) | refine Lib.wpList_append_run _ rfl _ _ _ _ rfl _ _ rfl rfl _ _ HRUN4.out ?_)
              go_roundw
              case rel =>
                refine ⟨p + 1, by omega, by go_num, ?_, HC4.out.trans (Chg.setCell _ _ _ _)⟩
                rw [HTA.out]
                exact RT.put HST4.out hBg (orow_low HO4.out HBS.out) HLN.out
              case measure => simp [intOf]; omega
      · have hpn : p = n := by omega
        rw [hpn, HN.out, List.take_length] at ht
        have HTE := Lib.hid ht; have HC := Lib.hid hch
        clear ht hch hpn
        go_wp2
        go_ret
        exact ⟨rfl, HTE.out, HC.out⟩
end Go.Proofs.Ytgaccogekmaijaa
