/- The law KvPlays, walked. -/
import Derived.Test.YtgaccogekmaijaaKvPw
namespace Go.Proofs.Ytgaccogekmaijaa
open Go.RowKit Go.Maps
set_option linter.unusedVariables false
set_option linter.unusedSimpArgs false
attribute [local irreducible] wpR relOp Stu.wpR Stu.relOp
set_option maxRecDepth 20000 in
set_option maxHeartbeats 20000000 in
theorem KvPlays_ok (A : Option Addr) (c : Nat) (xss : List (List PutD)) (fr to : ByteArray) (most : Int) (Ab : Option Addr) (cb : Nat) (bs : List UInt8) (w : World) (hr : PutLs w A xss) (hc : xss.length ≤ c) (hsm : lightB xss = true) (hf : fr.size ≤ 300) (ht : to.size ≤ 300) (hrb : Rd w Ab bs) (hcb : bs.length ≤ cb) (hb6 : bs.length ≤ 600) :
    Calls Try.prog 6 #[.slice A xss.length c, .string fr, .string to, .int .i64 most, .slice Ab bs.length cb] w fun e w' => e = .returned (.bool true) ∧ Below w.heap.size w w' := by
  obtain ⟨n, hnn⟩ : ∃ n, n = xss.length := ⟨_, rfl⟩
  obtain ⟨mb, hmb⟩ : ∃ mb, mb = bs.length := ⟨_, rfl⟩
  rw [← hnn] at hc ⊢
  rw [← hmb] at hcb hb6 ⊢
  have HN := Lib.hid hnn; have HMB := Lib.hid hmb; have HR := Lib.hid hr; have HSM := Lib.hid hsm; have HRB := Lib.hid hrb
  have hfi : ¬ (300 : Int) < fr.size := by omega
  have hti : ¬ (300 : Int) < to.size := by omega
  have hbi : ¬ (600 : Int) < mb := by omega
  clear hnn hmb hr hsm hrb
  go_enter Try.func6, Try.ntmps6
  go_wp2_with fail
  refine (awake7_any _).mono ?_
  rintro e w1 ⟨rfl, hb1⟩
  have HB1 := Lib.hid hb1
  clear hb1
  go_wp2_with fail
  have hlt := kv_light w1 A c xss (HR.out.below HB1.out) (by rw [← HN.out]; exact hc)
  rw [HSM.out, ← HN.out] at hlt
  have hlt := Lib.hid hlt
  refine hlt.out.mono ?_
  rintro e w2 ⟨rfl, rfl⟩
  clear hlt
  go_wp2_with fail
  refine (kv_new _).mono ?_
  rintro e w3 ⟨rfl, ht3, hb3⟩
  obtain ⟨g, hg⟩ : ∃ g, g = w2.heap.size + 1 := ⟨_, rfl⟩
  obtain ⟨B, hB⟩ : ∃ B, B = w2.heap.size := ⟨_, rfl⟩
  rw [← hg, ← hB] at ht3
  rw [← hg]
  have HBB := Lib.hid hB
  have HT3 := Lib.hid ht3; have HB3 := Lib.hid hb3
  clear ht3 hb3 hg hB
  obtain ⟨W4, hW4⟩ : ∃ W4, W4 = w3.alloc (.cells #[.slice none 0 0] 49) := ⟨_, rfl⟩
  have hb4 : Below w3.heap.size w3 W4 := by rw [hW4]; exact (Below.refl _ w3).alloc (Nat.le_refl _) _
  have hB3 : B ≤ w3.heap.size := by rw [HBB.out]; exact HB3.out.size
  have hj4 : J2 w2 W4 B g w3.heap.size 0 [] [] := ⟨HT3.out.below hb4, ⟨_, by rw [hW4]; exact heap_new w3 _ _ rfl, hB3, ⟨rfl, .inl ⟨rfl, rfl⟩⟩⟩⟩
  generalize hr : w3.heap.size = r at *
  have HJ4 := Lib.hid hj4; have HW4 := Lib.hid hW4
  have HRr := Lib.hid hr
  clear hb4 hj4 hW4 hB3 HT3 hr
  go_wp2_with fail
  rw [HRr.out, ← HW4.out]
  go_loopw [13, 14, 15, 16, 17] (fun i _ _ _ _ wr => ∃ p L, p ≤ n ∧ i = .int .i64 (p : Nat) ∧ J2 w2 wr B g r (8 * p) L L ∧ KvMath.Rise L ∧ L.length ≤ 8 * p ∧ ∀ e ∈ L, 0 < e.1.size ∧ e.1.size ≤ 200 ∧ e.2.length ≤ 200000) (fun i _ _ _ _ _ => n - (intOf i).toNat)
  case atStart => exact ⟨0, [], by omega, rfl, HJ4.out, List.Pairwise.nil, Nat.zero_le _, fun e he => by simp at he⟩
  case round =>
    rename World => wL
    obtain ⟨p, L, hp, rfl, hj, hri, hLl, hLz⟩ := hrel
    have hsm2 := HSM.out
    simp only [lightB, Bool.and_eq_true, decide_eq_true_eq] at hsm2
    by_cases hlt : p < n
    · have hltI : (p : Int) < n := by omega
      have hpx : p < xss.length := by rw [← HN.out]; exact hlt
      have hp20 : p < 20 := by omega
      have hw2B : Below w.heap.size w w2 := HB1.out
      obtain ⟨a, rfl, hrow⟩ := (HR.out.below hw2B) (by omega)
      obtain ⟨Ap, cp, c0, hcp, hrp⟩ := hrow p hpx
      have hxs := List.all_eq_true.1 hsm2.2 _ (List.getElem_mem hpx)
      generalize xss[p] = xs at *
      simp only [smallL, Bool.and_eq_true, decide_eq_true_eq] at hxs
      have hxz : ∀ x ∈ xs, x.key.size ≤ 300 ∧ x.val.length ≤ 200 := fun x hx => by
        have := List.all_eq_true.1 hxs.2 x hx
        simp only [PutD.small, Bool.and_eq_true, decide_eq_true_eq] at this
        exact this
      have hrnd := rnd_of (g := g) (r := r) (N := 8 * p) hrp hcp hxs.1 hxz (by omega) (by omega) hri
      rw [← HBB.out] at hrnd
      obtain ⟨L', hL'⟩ : ∃ L', L' = (if xs.all PutD.good then KvMath.all L (xs.map PutD.ent) else L) := ⟨_, rfl⟩
      obtain ⟨be, hbe⟩ : ∃ be, be = (if xs.all PutD.good then KvMath.encB (xs.map PutD.ent) else []) := ⟨_, rfl⟩
      obtain ⟨ne, hne⟩ : ∃ ne, ne = be.length := ⟨_, rfl⟩
      obtain ⟨er, her⟩ : ∃ er : Int, er = (if xs.all PutD.good then 0 else 1) := ⟨_, rfl⟩
      obtain ⟨nx, hnx⟩ : ∃ nx, nx = xs.length := ⟨_, rfl⟩
      rw [← hL', ← hbe, ← hne, ← her, ← hnx] at hrnd
      have hri' : KvMath.Rise L' := by rw [hL']; split; exact hri.all _; exact hri
      have hLl' : L'.length ≤ 8 * (p + 1) := by
        rw [hL']
        split
        · have := KvMath.all_len L hri (xs.map PutD.ent)
          rw [List.length_map] at this
          omega
        · omega
      have hLz' : ∀ e ∈ L', 0 < e.1.size ∧ e.1.size ≤ 200 ∧ e.2.length ≤ 200000 := by
        rw [hL']
        split
        · rename_i hg
          exact all_keys xs hg L hLz
        · exact hLz
      rw [← hnx] at c0 hcp
      have hnx8 : nx ≤ 8 := by omega
      have HRND := Lib.hid hrnd; have HJ := Lib.hid hj; have HRI := Lib.hid hri'; have HLL := Lib.hid hLl'; have HLZ := Lib.hid hLz'
      have HC : Hid (∀ W, GT B wL.drew W → W.cell? (a.add p) = some (.slice Ap nx cp)) := Lib.hid fun W hW => by
        have h1 : Below B w2 W := hj.bel.trans ((Below.drew (Below.refl _ wL)).mono hj.ge |>.trans hW.1)
        rw [HBB.out] at h1
        exact cell_below h1 c0
      have HGE : Hid (∀ W, GT B wL.drew W → B ≤ W.heap.size) := Lib.hid fun W hW => Nat.le_trans hj.ge hW.1.size
      have c0L : wL.cell? (a.add p) = some (.slice Ap nx cp) := by
        have h1 := hj.bel
        rw [HBB.out] at h1
        exact cell_below h1 c0
      have hwp : IntKind.i64.wrap ((p : Int) + 1) = ((p + 1 : Nat) : Int) := by rw [IntKind.wrap_i64]; omega
      obtain ⟨z, hz⟩ : ∃ z : ByteArray, z = ⟨be.toArray⟩ := ⟨_, rfl⟩
      have HZ := Lib.hid hz
      have HJd : Hid (J2 w2 wL.drew B g r (8 * p) L L) := Lib.hid (hj.below (Below.drew (Below.refl _ _)))
      clear hrnd hj hri hLl hLz hri' hLl' hLz' hxz hxs hrow hrp c0 hL' hbe hne her hnx hsm2 hw2B hz
      go_wp2_with fail
      refine Stu.wp_region_stu _ (Stu.mkT [(5, tvS B (.int .i64 er) (fun W => J2 w2 W B g r (8 * p + nx) L' L) J2.st), (11, trS B nx (JP w2 B g r (8 * p + nx) L' L xs) JP.st), (12, tvS B (.int .i64 er) (fun W => J2 w2 W B g r (8 * p + nx) L' L') J2.st), (14, tvS B (.bool false) (fun W => J2 w2 W B g r (8 * p + nx) L' L') J2.st), (19, tbS B ne be (fun W => J2 w2 W B g r (8 * p + nx) L' L') J2.st), (20, strS B z), (25, trS B nx (JP w2 B g r (8 * p + nx) L' L' xs) JP.st), (26, tbS B ne be (fun W => J2 w2 W B g r (8 * p + nx) L' L') J2.st), (27, strS B z)]) (fun W => J2 w2 W B g r (8 * p) L L) [5, 11, 12, 14, 19, 25, 26] (GT.refl B) GT.trans Gs.gt (fun _ _ h k => h.below k.1) HJd.out (Stu.mkT_ks _ (by show List.Nodup [5, 11, 12, 14, 19, 20, 25, 26, 27]; decide) _ rfl) (by kernel_rfl) (by kernel_rfl) (by kernel_rfl) ?_
      repeat (first
        | (refine Stu.wpR_plain ?_ (by rfl) (by rfl) (fun K hK => ?_); (focus (first | (simp only [Region.wanted]; done) | (go_simp; done))); apply Exists.intro; refine ⟨fun W hW => ?_, ?_⟩; (go_simp; (try simp only [Stu.plainUpon_value, true_and]); rfl); go_simp; refine hK _ ?_; clear hK K)
        | (refine Stu.wpR_plain ?_ (by rfl) (by rfl) (fun K hK => ?_); (focus (first | (simp only [Region.wanted]; done) | (go_simp; done))); apply Exists.intro; refine ⟨fun W hW => ?_, ?_⟩; (have hcw := HC.out W hW; go_simp; (try simp only [Stu.plainUpon_value, true_and]); rfl); go_simp; refine hK _ ?_; clear hK K)
        | (refine Stu.wpR_spu (by rfl) (by rfl) ?_ ?_ (fun W hW hU hF => ?_) (fun K v hv hK => ?_); (focus (first | (simp only [Region.wanted]; done) | (go_simp; done))); (focus (exact ⟨_, rfl⟩)); (go_simp; simp only [Stu.relUpon_enter]; refine (HRND.out.commit W hU).mono ?_; rintro e w' ⟨rfl, h1, h2⟩; exact ⟨_, rfl, h2, ⟨rfl, trivial⟩, h1⟩); (cases hv); go_simp; refine hK _ ?_; clear hK K)
        | (refine Stu.wpR_spu (by rfl) (by rfl) ?_ ?_ (fun W hW hU hF => ?_) (fun K v hv hK => ?_); (focus (first | (simp only [Region.wanted]; done) | (go_simp; done))); (focus (exact ⟨_, none, _, rfl, Nat.le_refl _⟩)); (go_simp; simp only [Stu.relUpon_enter]; refine (HRND.out.own W _ _ _ hU).mono ?_; rintro e w' ⟨v, rfl, h1, h2, h3⟩; exact ⟨_, rfl, h3, ⟨h1, trivial⟩, h2⟩); (obtain ⟨A6, c6, rfl, hc6⟩ := hv); go_simp; refine hK _ ?_; clear hK K)
        | (refine Stu.wpR_spu (by rfl) (by rfl) ?_ ?_ (fun W hW hU hF => ?_) (fun K v hv hK => ?_); (focus (first | (simp only [Region.wanted]; done) | (go_simp; done))); (focus (exact ⟨_, rfl⟩)); (go_simp; simp only [Stu.relUpon_enter]; refine (HRND.out.rcommit W _ _ hU).mono ?_; rintro e w' ⟨rfl, h1, h2⟩; exact ⟨_, rfl, h2, ⟨rfl, trivial⟩, h1⟩); (cases hv); go_simp; refine hK _ ?_; clear hK K))
      (refine Stu.wpR_spu (by rfl) (by rfl) ?_ ?_ (fun W hW hU hF => ?_) (fun K v hv hK => ?_); (focus (first | (simp only [Region.wanted]; done) | (go_simp; done))); (focus (exact ⟨_, rfl⟩)); (go_simp; exact ⟨GT.refl _ _, ⟨rfl, trivial⟩, hU⟩); (cases hv); go_simp; refine hK _ ?_; clear hK K)
      repeat (first
        | (refine Stu.wpR_plain ?_ (by rfl) (by rfl) (fun K hK => ?_); (focus (first | (simp only [Region.wanted]; done) | (go_simp; done))); apply Exists.intro; refine ⟨fun W hW => ?_, ?_⟩; (go_simp; (try simp only [Stu.plainUpon_value, true_and]); rfl); go_simp; refine hK _ ?_; clear hK K)
        | (refine Stu.wpR_plain ?_ (by rfl) (by rfl) (fun K hK => ?_); (focus (first | (simp only [Region.wanted]; done) | (go_simp; done))); apply Exists.intro; refine ⟨fun W hW => ?_, ?_⟩; (have hcw := HC.out W hW; go_simp; (try simp only [Stu.plainUpon_value, true_and]); rfl); go_simp; refine hK _ ?_; clear hK K))
      (refine Stu.wpR_spu (by rfl) (by rfl) ?_ ?_ (fun W hW hU hF => ?_) (fun K v hv hK => ?_); (focus (first | (simp only [Region.wanted]; done) | (go_simp; done))); (focus (exact ⟨_, none, _, rfl, Nat.le_refl _⟩)); (go_simp; simp only [Stu.relUpon_enter]; refine (HRND.out.enc W hU).mono ?_; rintro e w' ⟨v, rfl, h1, h2, h3, h4⟩; exact ⟨_, rfl, h4, ⟨h1, h2⟩, h3⟩); (obtain ⟨A19, c19, rfl, hc19⟩ := hv); go_simp; refine hK _ ?_; clear hK K)
      (refine Stu.wpR_spg (by rfl) (by rfl) ?_ ?_ (fun W hW hF => ?_) (fun K v hv hK => ?_); (focus (first | (simp only [Region.wanted]; done) | (go_simp; done))); (focus (exact ⟨_, rfl⟩)); (exact str_rel rfl rfl (show Sl W (.slice A19 ne c19) be from hF 19 rfl) HZ.out (HGE.out W hW) _); (cases hv); go_simp; refine hK _ ?_; clear hK K)
      repeat (first
        | (refine Stu.wpR_plain ?_ (by rfl) (by rfl) (fun K hK => ?_); (focus (first | (simp only [Region.wanted]; done) | (go_simp; done))); apply Exists.intro; refine ⟨fun W hW => ?_, ?_⟩; (go_simp; (try simp only [Stu.plainUpon_value, true_and]); rfl); go_simp; refine hK _ ?_; clear hK K)
        | (refine Stu.wpR_plain ?_ (by rfl) (by rfl) (fun K hK => ?_); (focus (first | (simp only [Region.wanted]; done) | (go_simp; done))); apply Exists.intro; refine ⟨fun W hW => ?_, ?_⟩; (have hcw := HC.out W hW; go_simp; (try simp only [Stu.plainUpon_value, true_and]); rfl); go_simp; refine hK _ ?_; clear hK K))
      (refine Stu.wpR_spu (by rfl) (by rfl) ?_ ?_ (fun W hW hU hF => ?_) (fun K v hv hK => ?_); (focus (first | (simp only [Region.wanted]; done) | (go_simp; done))); (focus (exact ⟨_, none, _, rfl, Nat.le_refl _⟩)); (go_simp; simp only [Stu.relUpon_enter]; refine (HRND.out.own W _ _ _ hU).mono ?_; rintro e w' ⟨v, rfl, h1, h2, h3⟩; exact ⟨_, rfl, h3, ⟨h1, trivial⟩, h2⟩); (obtain ⟨A25, c25, rfl, hc25⟩ := hv); go_simp; refine hK _ ?_; clear hK K)
      (refine Stu.wpR_spu (by rfl) (by rfl) ?_ ?_ (fun W hW hU hF => ?_) (fun K v hv hK => ?_); (focus (first | (simp only [Region.wanted]; done) | (go_simp; done))); (focus (exact ⟨_, none, _, rfl, Nat.le_refl _⟩)); (go_simp; simp only [Stu.relUpon_enter]; refine (HRND.out.renc W _ _ hU).mono ?_; rintro e w' ⟨v, rfl, h1, h2, h3, h4⟩; exact ⟨_, rfl, h4, ⟨h1, h2⟩, h3⟩); (obtain ⟨A26, c26, rfl, hc26⟩ := hv); go_simp; refine hK _ ?_; clear hK K)
      (refine Stu.wpR_spg (by rfl) (by rfl) ?_ ?_ (fun W hW hF => ?_) (fun K v hv hK => ?_); (focus (first | (simp only [Region.wanted]; done) | (go_simp; done))); (focus (exact ⟨_, rfl⟩)); (exact str_rel rfl rfl (show Sl W (.slice A26 ne c26) be from hF 26 rfl) HZ.out (HGE.out W hW) _); (cases hv); go_simp; refine hK _ ?_; clear hK K)
      repeat (refine Stu.wpR_plain ?_ (by rfl) (by rfl) (fun K hK => ?_); (focus (first | (simp only [Region.wanted]; done) | (go_simp; done))); apply Exists.intro; refine ⟨fun W hW => ?_, ?_⟩; (go_simp; (try simp only [Stu.plainUpon_value, true_and]); rfl); go_simp; refine hK _ ?_; clear hK K)
      refine Stu.wpR_nil (fun W hW hU hF => ?_)
      have hJ5 : J2 w2 W B g r (8 * p + nx) L' L' := hU
      have HJ5 := Lib.hid (J2.mono hJ5 (show 8 * p + nx ≤ 8 * (p + 1) by omega))
      clear hF hW hU hJ5 HC HGE HJd HJ HRND c0L HZ
      have hget := kv_get HJ5.out.1 fr (by omega)
      obtain ⟨gl, hgl⟩ : ∃ gl, gl = (KvMath.get L' fr).getD [] := ⟨_, rfl⟩
      obtain ⟨gb, hgb⟩ : ∃ gb, gb = (KvMath.get L' fr).isSome := ⟨_, rfl⟩
      obtain ⟨zg, hzg⟩ : ∃ zg : ByteArray, zg = getS L' fr := ⟨_, rfl⟩
      have hzg2 : zg = ⟨gl.toArray⟩ := by
        rw [hzg, hgl]
        unfold getS
        cases KvMath.get L' fr <;> rfl
      rw [← hgl, ← hgb] at hget
      obtain ⟨ng, hng⟩ : ∃ ng, ng = gl.length := ⟨_, rfl⟩
      have HNG := Lib.hid hng; have HZG := Lib.hid hzg; have HZG2 := Lib.hid hzg2; have HGB := Lib.hid hgb
      have HGT := Lib.hid hget
      clear hget hgl hgb hzg hzg2 hng
      go_wp2_with fail
      refine HGT.out.mono ?_
      rintro e w5 ⟨v5, rfl, hs5, hb5⟩
      obtain ⟨A5, c5, rfl, hc5, _⟩ := hs5.rd
      rw [← HNG.out] at hs5 hc5 ⊢
      have HJ6 := Lib.hid (HJ5.out.below hb5); have HS5 := Lib.hid hs5
      clear hs5 hb5 HJ5 HGT W
      have hrget := ref_get HJ6.out.2 HRI.out (by have := HLL.out; omega) fr
      rw [← HZG.out, ← HGB.out] at hrget
      have HRG := Lib.hid hrget
      clear hrget
      go_wp2_with fail
      refine HRG.out.mono ?_
      rintro e w6 ⟨rfl, hb6⟩
      have HJ7 := Lib.hid (HJ6.out.below hb6)
      have HS6 := Lib.hid (Sl.below HS5.out hb6)
      clear hb6 HJ6 HRG HS5
      obtain ⟨R, hR⟩ : ∃ R, R = KvMath.range L' fr to most := ⟨_, rfl⟩
      have hrnd2 := rnd2_of (wB := w2) (B := B) (g := g) (r := r) (N := 8 * (p + 1)) fr to most (by have := HLL.out; omega) HRI.out HLZ.out
      obtain ⟨nr, hnr⟩ : ∃ nr, nr = R.length := ⟨_, rfl⟩
      obtain ⟨nL, hnL⟩ : ∃ nL, nL = L'.length := ⟨_, rfl⟩
      obtain ⟨bb, hbb⟩ : ∃ bb, bb = bytesB L' := ⟨_, rfl⟩
      obtain ⟨nb, hnb⟩ : ∃ nb, nb = bb.length := ⟨_, rfl⟩
      obtain ⟨zb, hzb⟩ : ∃ zb : ByteArray, zb = ⟨bb.toArray⟩ := ⟨_, rfl⟩
      rw [← hR, ← hbb, ← hnr, ← hnL, ← hnb] at hrnd2
      obtain ⟨Am, cm, d0, hcm, _⟩ := HJ7.out.2.rd
      rw [← hnL] at d0 hcm
      have HR2 := Lib.hid hrnd2; have HZB := Lib.hid hzb
      have hJW : ∀ W, CB w6.drew W → J2 w2 W B g r (8 * (p + 1)) L' L' := fun W hW => HJ7.out.below ((Below.drew (Below.refl _ w6)).trans hW)
      have HJW := Lib.hid hJW
      have HC : Hid (∀ W, CB w6.drew W → W.cell? ⟨r, 0, none⟩ = some (.slice Am nL cm)) := Lib.hid fun W hW => cell_below ((Below.drew (Below.refl w6.heap.size w6)).trans hW) d0
      have HV : Hid (∀ W, CB w6.drew W → (convert 32 9 (.slice A5 ng c5)).run Try.prog W = .ok (.string zg) W) := Lib.hid fun W hW => by
        have h2 := Sl.below HS6.out ((Below.drew (Below.refl w6.heap.size w6)).trans hW)
        obtain ⟨A', c', e, _, h3⟩ := h2.rd
        injection e with e1 e2 e3
        subst e1
        rw [HZG2.out]
        exact h3.str ng c5 e2.symm
      clear hrnd2 hR hnr hnL hbb hnb hzb hJW d0 HGB HZG
      go_wp2_with fail
      refine Stu.wp_region_stu _ (Stu.mkT [(11, cvaS (.int .i64 nL)), (24, crcS nr R), (29, crrS R nr), (30, cvaS (.bool true)), (35, cslS nb bb), (36, cvaS (.string zb)), (38, cslS nb bb), (39, cvaS (.string zb))]) (fun _ => True) [] (fun W => Below.refl _ W) (fun _ _ _ h k => CB.trans h k) (fun _ _ h => h) (fun _ _ _ _ => trivial) trivial (Stu.mkT_ks _ (by show List.Nodup [11, 24, 29, 30, 35, 36, 38, 39]; decide) _ rfl) (by kernel_rfl) (by kernel_rfl) (by kernel_rfl) ?_
      repeat (first
        | (refine Stu.wpR_plain ?_ (by rfl) (by rfl) (fun K hK => ?_); (focus (first | (simp only [Region.wanted]; done) | (go_simp; done))); apply Exists.intro; refine ⟨fun W hW => ?_, ?_⟩; (go_simp; (try simp only [Stu.plainUpon_value, true_and]); rfl); go_simp; refine hK _ ?_; clear hK K)
        | (refine Stu.wpR_plain ?_ (by rfl) (by rfl) (fun K hK => ?_); (focus (first | (simp only [Region.wanted]; done) | (go_simp; done))); apply Exists.intro; refine ⟨fun W hW => ?_, ?_⟩; (have hcw := HV.out W hW; go_simp; (try simp only [Stu.plainUpon_value, true_and]); rfl); go_simp; refine hK _ ?_; clear hK K)
        | (refine Stu.wpR_plain ?_ (by rfl) (by rfl) (fun K hK => ?_); (focus (first | (simp only [Region.wanted]; done) | (go_simp; done))); apply Exists.intro; refine ⟨fun W hW => ?_, ?_⟩; (have hcw := HC.out W hW; go_simp; (try simp only [Stu.plainUpon_value, true_and]); rfl); go_simp; refine hK _ ?_; clear hK K)
        | (refine Stu.wpR_spg (by rfl) (by rfl) ?_ ?_ (fun W hW hF => ?_) (fun K v hv hK => ?_); (focus (first | (simp only [Region.wanted]; done) | (go_simp; done))); (focus (exact ⟨_, rfl⟩)); (go_simp; simp only [Stu.relUpon_enter]; refine (HR2.out.len W (HJW.out W hW)).mono ?_; rintro e w' ⟨rfl, h1⟩; exact ⟨_, rfl, h1, rfl, trivial⟩); (cases hv); go_simp; refine hK _ ?_; clear hK K))
      (refine Stu.wpR_spg (by rfl) (by rfl) ?_ ?_ (fun W hW hF => ?_) (fun K v hv hK => ?_); (focus (first | (simp only [Region.wanted]; done) | (go_simp; done))); (focus (exact ⟨_, none, _, rfl, Nat.le_refl _⟩)); (go_simp; simp only [Stu.relUpon_enter]; refine (HR2.out.rng W (HJW.out W hW)).mono ?_; rintro e w' ⟨v, rfl, h1, h2, h3⟩; exact ⟨_, rfl, h3, h1, h2⟩); (obtain ⟨A24, c24, rfl, hc24⟩ := hv); go_simp; refine hK _ ?_; clear hK K)
      repeat (refine Stu.wpR_plain ?_ (by rfl) (by rfl) (fun K hK => ?_); (focus (first | (simp only [Region.wanted]; done) | (go_simp; done))); apply Exists.intro; refine ⟨fun W hW => ?_, ?_⟩; (go_simp; (try simp only [Stu.plainUpon_value, true_and]); rfl); go_simp; refine hK _ ?_; clear hK K)
      (refine Stu.wpR_spg (by rfl) (by rfl) ?_ ?_ (fun W hW hF => ?_) (fun K v hv hK => ?_); (focus (first | (simp only [Region.wanted]; done) | (go_simp; done))); (focus (exact ⟨_, none, _, rfl, Nat.le_refl _⟩)); (go_simp; simp only [Stu.relUpon_enter]; refine (HR2.out.rrng W (HJW.out W hW)).mono ?_; rintro e w' ⟨v, rfl, h1, h2, h3⟩; exact ⟨_, rfl, h3, h1, h2⟩); (obtain ⟨A29, c29, rfl, hc29⟩ := hv); go_simp; refine hK _ ?_; clear hK K)
      (refine Stu.wpR_spg (by rfl) (by rfl) ?_ ?_ (fun W hW hF => ?_) (fun K v hv hK => ?_); (focus (first | (simp only [Region.wanted]; done) | (go_simp; done))); (focus (exact ⟨_, rfl⟩)); (go_simp; simp only [Stu.relUpon_enter]; refine (HR2.out.prs W _ _ (show ∃ b, Recs W b 34 (.slice A24 nr c24) R from hF 24 rfl) (show ∃ b, W.ownsRow b 82 2 (.slice A29 nr c29) R.length (pvl R) from hF 29 rfl)).mono ?_; rintro e w' ⟨rfl, h1⟩; exact ⟨_, rfl, h1, rfl, trivial⟩); (cases hv); go_simp; refine hK _ ?_; clear hK K)
      repeat (refine Stu.wpR_plain ?_ (by rfl) (by rfl) (fun K hK => ?_); (focus (first | (simp only [Region.wanted]; done) | (go_simp; done))); apply Exists.intro; refine ⟨fun W hW => ?_, ?_⟩; (go_simp; (try simp only [Stu.plainUpon_value, true_and]); rfl); go_simp; refine hK _ ?_; clear hK K)
      (refine Stu.wpR_spg (by rfl) (by rfl) ?_ ?_ (fun W hW hF => ?_) (fun K v hv hK => ?_); (focus (first | (simp only [Region.wanted]; done) | (go_simp; done))); (focus (exact ⟨_, none, _, rfl, Nat.le_refl _⟩)); (go_simp; simp only [Stu.relUpon_enter]; refine (HR2.out.byt W (HJW.out W hW)).mono ?_; rintro e w' ⟨v, rfl, h1, h2, h3⟩; exact ⟨_, rfl, h3, h1, h2⟩); (obtain ⟨A35, c35, rfl, hc35⟩ := hv); go_simp; refine hK _ ?_; clear hK K)
      (refine Stu.wpR_spg (by rfl) (by rfl) ?_ ?_ (fun W hW hF => ?_) (fun K v hv hK => ?_); (focus (first | (simp only [Region.wanted]; done) | (go_simp; done))); (focus (exact ⟨_, rfl⟩)); (exact cstr_rel rfl rfl (show Sl W (.slice A35 nb c35) bb from hF 35 rfl) HZB.out _); (cases hv); go_simp; refine hK _ ?_; clear hK K)
      repeat (refine Stu.wpR_plain ?_ (by rfl) (by rfl) (fun K hK => ?_); (focus (first | (simp only [Region.wanted]; done) | (go_simp; done))); apply Exists.intro; refine ⟨fun W hW => ?_, ?_⟩; (go_simp; (try simp only [Stu.plainUpon_value, true_and]); rfl); go_simp; refine hK _ ?_; clear hK K)
      (refine Stu.wpR_spg (by rfl) (by rfl) ?_ ?_ (fun W hW hF => ?_) (fun K v hv hK => ?_); (focus (first | (simp only [Region.wanted]; done) | (go_simp; done))); (focus (exact ⟨_, none, _, rfl, Nat.le_refl _⟩)); (go_simp; simp only [Stu.relUpon_enter]; refine (HR2.out.rbyt W (HJW.out W hW)).mono ?_; rintro e w' ⟨v, rfl, h1, h2, h3⟩; exact ⟨_, rfl, h3, h1, h2⟩); (obtain ⟨A38, c38, rfl, hc38⟩ := hv); go_simp; refine hK _ ?_; clear hK K)
      (refine Stu.wpR_spg (by rfl) (by rfl) ?_ ?_ (fun W hW hF => ?_) (fun K v hv hK => ?_); (focus (first | (simp only [Region.wanted]; done) | (go_simp; done))); (focus (exact ⟨_, rfl⟩)); (exact cstr_rel rfl rfl (show Sl W (.slice A38 nb c38) bb from hF 38 rfl) HZB.out _); (cases hv); go_simp; refine hK _ ?_; clear hK K)
      repeat (refine Stu.wpR_plain ?_ (by rfl) (by rfl) (fun K hK => ?_); (focus (first | (simp only [Region.wanted]; done) | (go_simp; done))); apply Exists.intro; refine ⟨fun W hW => ?_, ?_⟩; (go_simp; (try simp only [Stu.plainUpon_value, true_and]); rfl); go_simp; refine hK _ ?_; clear hK K)
      refine Stu.wpR_nil (fun W hW hU hF => ?_)
      have HJ8 := Lib.hid (HJW.out W hW)
      clear hF hW hU HC HV HJW HJ7 HS6 HR2 HZB
      go_wp2
      go_roundw
      case rel => exact ⟨p + 1, L', by omega, by go_num, HJ8.out, HRI.out, HLL.out, HLZ.out⟩
      case measure => simp [intOf]; omega
    · have hpn : p = n := by omega
      have hltI : ¬ (p : Int) < n := by omega
      have hbel : Below w.heap.size w wL := HB1.out.trans (by have := hj.bel; rw [HBB.out] at this; exact this.mono HB1.out.size)
      have hrdb := HRB.out.below hbel
      have HBL : Hid (Below w.heap.size w wL) := Lib.hid hbel
      clear hj hri hLl hLz hsm2 hpn hbel HB3 HSM HR HRB HB1 HBB
      have hdec := kv_decode wL Ab cb bs hrdb (by rw [← HMB.out]; exact hcb) (by rw [← HMB.out]; omega)
      rw [← HMB.out] at hdec
      have HDEC := Lib.hid hdec; have HRDB := Lib.hid hrdb
      clear hdec hrdb
      go_wp2_with fail
      refine HDEC.out.mono ?_
      rintro e w5 ⟨hb5, hd5⟩
      have hrdb5 := HRDB.out.below hb5
      have hdec := ref_decode w5 Ab cb bs hrdb5 (by rw [← HMB.out]; exact hcb) (by rw [← HMB.out]; omega)
      rw [← HMB.out] at hdec
      have HB5 := Lib.hid hb5; have HRD5 := Lib.hid hrdb5; have HDEC2 := Lib.hid hdec; have HD5 := Lib.hid hd5
      clear hdec hb5 hrdb5 hd5 HDEC HRDB
      rcases HD5.out with ⟨xs, v5, hds, rfl, hpr⟩ | ⟨hds, rfl⟩
      · have hg := decB_good _ bs xs (Nat.le_refl _) hds
        have hxz : ∀ x ∈ xs, x.key.size ≤ 200 ∧ x.val.length ≤ 200000 := fun x hx => by
          have h1 := List.all_eq_true.1 hg.1 x hx
          simp only [PutD.good, Bool.and_eq_true, decide_eq_true_eq] at h1
          exact ⟨h1.1.1.2, h1.1.2⟩
        have hxl : xs.length ≤ 600 := by have := hg.2; rw [← HMB.out] at this; omega
        have hxz2 : ∀ x ∈ xs, x.key.size ≤ 140737488351232 ∧ x.val.length ≤ 140737488351232 := fun x hx => by have := hxz x hx; omega
        obtain ⟨A5, c5, rfl, hc5, _⟩ := hpr.row hxz2
        obtain ⟨m, hm⟩ : ∃ m, m = xs.length := ⟨_, rfl⟩
        rw [← hm] at hc5 hpr ⊢
        have HM := Lib.hid hm; have HPR := Lib.hid hpr; have HXZ := Lib.hid hxz2; have HDS := Lib.hid hds; have HXL := Lib.hid hxl; have HGG := Lib.hid hg.1; have HXZ3 := Lib.hid hxz
        clear hm hpr hxz hxz2 hds hxl hg HD5
        go_wp2_with fail
        refine HDEC2.out.mono ?_
        rintro e w6 ⟨hb6, hd6⟩
        have hE : ∃ v6, e = .returned (.tuple #[v6, .bool true]) ∧ PutsG RS w6 w5.heap.size v6 xs := by
          obtain ⟨e1, e2⟩ := (dec_ref _ bs xs (Nat.le_refl _)).1 HDS.out
          rcases hd6 with ⟨ys, v6, h1, h2, h3, _⟩ | ⟨h1, h2⟩
          · rw [e1] at h1
            injection h1 with h1
            subst h1
            rw [e2] at h2
            exact ⟨v6, h2, h3⟩
          · rw [e1] at h1
            cases h1
        obtain ⟨v6, rfl, hpg6⟩ := hE
        obtain ⟨A6, c6, rfl, hc6⟩ := hpg6.shape HM.out
        have hrdb6 := HRD5.out.below hb6
        have hld := kv_load w6 Ab cb bs hrdb6 (by rw [← HMB.out]; exact hcb) (by rw [← HMB.out]; omega)
        rw [← HMB.out] at hld
        have HLD := Lib.hid hld; have HRD6 := Lib.hid hrdb6; have HB6 := Lib.hid hb6; have HPG6 := Lib.hid hpg6; have HPR6 := Lib.hid (HPR.out.below hb6)
        clear hld hrdb6 hd6 HDEC2 hb6 hpg6 HPR
        go_wp2_with fail
        refine HLD.out.mono ?_
        rintro e w7 ⟨hb7, hd7⟩
        have hrdb7 := HRD6.out.below hb7
        have hld := ref_load w7 Ab cb bs hrdb7 (by rw [← HMB.out]; exact hcb) (by rw [← HMB.out]; omega)
        rw [← HMB.out] at hld
        have HLD2 := Lib.hid hld; have HB7 := Lib.hid hb7; have HPG7 := Lib.hid (HPG6.out.below hb7 (fun v l h => Sl.below h hb7)); have HPR7 := Lib.hid (HPR6.out.below hb7)
        have HD7 := Lib.hid hd7
        clear hld hrdb7 HLD HRD6 hb7 HPG6 HPR6 hd7
        rcases HD7.out with ⟨ys, B', g', w1', h1, h2, rfl, h4, h5⟩ | ⟨h1, rfl⟩
        · rw [HDS.out] at h1
          injection h1 with h1
          subst h1
          have HTB := Lib.hid h4
          have heq := (load_ref bs xs HDS.out).1 h2
          clear h2 h4 HD7
          go_wp2_with fail
          refine HLD2.out.mono ?_
          rintro e w8 ⟨hb8, (⟨ys, g8, h1, h2, rfl, h4⟩ | ⟨h1, rfl⟩)⟩
          · rw [HDS.out] at h1
            injection h1 with h1
            subst h1
            have HTB8 := Lib.hid (HTB.out.below hb8); have HRT8 := Lib.hid h4
            have HPG8 := Lib.hid (HPG7.out.below hb8 (fun v l h => Sl.below h hb8)); have HPR8 := Lib.hid (HPR7.out.below hb8)
            have HB8 : Hid (Below w.heap.size w w8) := Lib.hid (below_then (below_then (below_then (below_then HBL.out HBL.out.size HB5.out) (Nat.le_trans HBL.out.size HB5.out.size) HB6.out) (Nat.le_trans HBL.out.size (Nat.le_trans HB5.out.size HB6.out.size)) HB7.out) (Nat.le_trans HBL.out.size (Nat.le_trans HB5.out.size (Nat.le_trans HB6.out.size HB7.out.size))) hb8)
            clear hb8 h2 h4 h5 HLD2 HTB heq
            obtain ⟨be, hbe⟩ : ∃ be, be = KvMath.encB (xs.map PutD.ent) := ⟨_, rfl⟩
            obtain ⟨ne, hne⟩ : ∃ ne, ne = be.length := ⟨_, rfl⟩
            obtain ⟨z, hz⟩ : ∃ z : ByteArray, z = ⟨be.toArray⟩ := ⟨_, rfl⟩
            have hbW : ∀ W, CB w8.drew W → Below w8.heap.size w8 W := fun W hW => (Below.drew (Below.refl _ w8)).trans hW
            have HEN : Hid (∀ W, CB w8.drew W → Calls Try.prog 17 #[.slice A5 m c5] W fun e w' => ∃ v, e = .returned v ∧ shpn ne v ∧ Sl w' v be ∧ CB W w') := Lib.hid fun W hW => by
              obtain ⟨A', c', e, h1, h2⟩ := (HPR8.out.below (hbW W hW)).row HXZ.out
              injection e with e1 e2 e3
              subst e1; subst e3
              have h3 := kv_encode W A5 c5 xs h2 h1 (by have := HXL.out; omega)
              rw [if_pos HGG.out, ← hbe, ← e2] at h3
              refine h3.mono ?_
              rintro e w' ⟨v, rfl, h5, h6⟩
              obtain ⟨A, c, rfl, h7, _⟩ := h5.rd
              rw [← hne] at h7 ⊢
              exact ⟨_, rfl, ⟨A, c, rfl, h7⟩, by rw [hne]; exact h5.sl, h6⟩
            have HREN : Hid (∀ W, CB w8.drew W → Calls Try.prog 20 #[.slice A6 m c6] W fun e w' => ∃ v, e = .returned v ∧ shpn ne v ∧ Sl w' v be ∧ CB W w') := Lib.hid fun W hW => by
              obtain ⟨A', c', e, h1, h2⟩ := (HPG8.out.below (hbW W hW) (fun v l h => Sl.below h (hbW W hW))).row (fun v l h => Sl.rd h) HXZ.out
              injection e with e1 e2 e3
              subst e1; subst e3
              have h3 := ref_encode W A6 c6 xs h2 h1 (by have := HXL.out; omega)
              rw [if_pos HGG.out, ← hbe, ← e2] at h3
              refine h3.mono ?_
              rintro e w' ⟨v, rfl, h5, h6⟩
              obtain ⟨A, c, rfl, h7, _⟩ := h5.rd
              rw [← hne] at h7 ⊢
              exact ⟨_, rfl, ⟨A, c, rfl, h7⟩, by rw [hne]; exact h5.sl, h6⟩
            have HZ := Lib.hid hz
            clear hbe hne hz
            obtain ⟨L9, hL9⟩ : ∃ L9, L9 = KvMath.all [] (xs.map PutD.ent) := ⟨_, rfl⟩
            have h9l : L9.length ≤ 1000 := by
              have h1 := KvMath.all_len [] List.Pairwise.nil (xs.map PutD.ent)
              rw [← hL9, List.length_map] at h1
              have := HXL.out
              simp at h1
              omega
            have h9z : ∀ p ∈ L9, p.1.size ≤ 200 ∧ p.2.length ≤ 200000 := fun p hp => (all_keys xs HGG.out [] (fun p hp => by simp at hp) p (by rw [← hL9]; exact hp)).2
            rw [← hL9] at HTB8 HRT8
            obtain ⟨bb, hbb⟩ : ∃ bb, bb = bytesB L9 := ⟨_, rfl⟩
            obtain ⟨nb, hnb⟩ : ∃ nb, nb = bb.length := ⟨_, rfl⟩
            obtain ⟨zb, hzb⟩ : ∃ zb : ByteArray, zb = ⟨bb.toArray⟩ := ⟨_, rfl⟩
            have HBY : Hid (∀ W, CB w8.drew W → Calls Try.prog 14 #[.pointer (some ⟨g', 0, none⟩)] W fun e w' => ∃ v, e = .returned v ∧ shpn nb v ∧ Sl w' v bb ∧ CB W w') := Lib.hid fun W hW => by
              refine (kv_bytes (HTB8.out.below (hbW W hW)) h9l).mono ?_
              rintro e w' ⟨v, rfl, h1, h2⟩
              rw [← hbb] at h1
              obtain ⟨A, c, rfl, h3, _⟩ := h1.rd
              rw [← hnb] at h3 ⊢
              exact ⟨_, rfl, ⟨A, c, rfl, h3⟩, by rw [hnb]; exact h1, h2⟩
            have HRBY : Hid (∀ W, CB w8.drew W → Calls Try.prog 25 #[.pointer (some ⟨g8, 0, none⟩)] W fun e w' => ∃ v, e = .returned v ∧ shpn nb v ∧ Sl w' v bb ∧ CB W w') := Lib.hid fun W hW => by
              refine (ref_bytes (HRT8.out.below (hbW W hW)) h9l h9z).mono ?_
              rintro e w' ⟨v, rfl, h1, h2⟩
              rw [← hbb] at h1
              obtain ⟨A, c, rfl, h3, _⟩ := h1.rd
              rw [← hnb] at h3 ⊢
              exact ⟨_, rfl, ⟨A, c, rfl, h3⟩, by rw [hnb]; exact h1, h2⟩
            have HZB := Lib.hid hzb
            clear hbW hL9 h9l h9z hbb hnb hzb HTB8 HRT8 HPR8 HPG8
            go_wp2_with fail
            refine Stu.wp_region_stu _ (Stu.mkT [(4, cslS ne be), (5, cvaS (.string z)), (7, cslS ne be), (8, cvaS (.string z)), (25, cslS nb bb), (26, cvaS (.string zb)), (28, cslS nb bb), (29, cvaS (.string zb))]) (fun _ => True) [] (fun W => Below.refl _ W) (fun _ _ _ h k => CB.trans h k) (fun _ _ h => h) (fun _ _ _ _ => trivial) trivial (Stu.mkT_ks _ (by show List.Nodup [4, 5, 7, 8, 25, 26, 28, 29]; decide) _ rfl) (by kernel_rfl) (by kernel_rfl) (by kernel_rfl) ?_
            repeat (first
              | (refine Stu.wpR_plain ?_ (by rfl) (by rfl) (fun K hK => ?_); (focus (first | (simp only [Region.wanted]; done) | (go_simp; done))); apply Exists.intro; refine ⟨fun W hW => ?_, ?_⟩; (go_simp; (try simp only [Stu.plainUpon_value, true_and]); rfl); go_simp; refine hK _ ?_; clear hK K)
              | (refine Stu.wpR_spg (by rfl) (by rfl) ?_ ?_ (fun W hW hF => ?_) (fun K v hv hK => ?_); (focus (first | (simp only [Region.wanted]; done) | (go_simp; done))); (focus (exact ⟨_, none, _, rfl, Nat.le_refl _⟩)); (go_simp; simp only [Stu.relUpon_enter]; refine (HEN.out W hW).mono ?_; rintro e w' ⟨v, rfl, h1, h2, h3⟩; exact ⟨_, rfl, h3, h1, h2⟩); (obtain ⟨A19, c19, rfl, hc19⟩ := hv); go_simp; refine hK _ ?_; clear hK K))
            (refine Stu.wpR_spg (by rfl) (by rfl) ?_ ?_ (fun W hW hF => ?_) (fun K v hv hK => ?_); (focus (first | (simp only [Region.wanted]; done) | (go_simp; done))); (focus (exact ⟨_, rfl⟩)); (exact cstr_rel rfl rfl (show Sl W (.slice A19 ne c19) be from hF 4 rfl) HZ.out _); (cases hv); go_simp; refine hK _ ?_; clear hK K)
            repeat (refine Stu.wpR_plain ?_ (by rfl) (by rfl) (fun K hK => ?_); (focus (first | (simp only [Region.wanted]; done) | (go_simp; done))); apply Exists.intro; refine ⟨fun W hW => ?_, ?_⟩; (go_simp; (try simp only [Stu.plainUpon_value, true_and]); rfl); go_simp; refine hK _ ?_; clear hK K)
            (refine Stu.wpR_spg (by rfl) (by rfl) ?_ ?_ (fun W hW hF => ?_) (fun K v hv hK => ?_); (focus (first | (simp only [Region.wanted]; done) | (go_simp; done))); (focus (exact ⟨_, none, _, rfl, Nat.le_refl _⟩)); (go_simp; simp only [Stu.relUpon_enter]; refine (HREN.out W hW).mono ?_; rintro e w' ⟨v, rfl, h1, h2, h3⟩; exact ⟨_, rfl, h3, h1, h2⟩); (obtain ⟨A29, c29, rfl, hc29⟩ := hv); go_simp; refine hK _ ?_; clear hK K)
            (refine Stu.wpR_spg (by rfl) (by rfl) ?_ ?_ (fun W hW hF => ?_) (fun K v hv hK => ?_); (focus (first | (simp only [Region.wanted]; done) | (go_simp; done))); (focus (exact ⟨_, rfl⟩)); (exact cstr_rel rfl rfl (show Sl W (.slice A29 ne c29) be from hF 7 rfl) HZ.out _); (cases hv); go_simp; refine hK _ ?_; clear hK K)
            repeat (first | (refine Stu.wpR_plain ?_ (by rfl) (by rfl) (fun K hK => ?_); (focus (first | (simp only [Region.wanted]; done) | (go_simp; done))); apply Exists.intro; refine ⟨fun W hW => ?_, ?_⟩; (go_simp; (try simp only [Stu.plainUpon_value, true_and]); rfl); go_simp; refine hK _ ?_; clear hK K) | (refine Stu.wpR_skip ?_ (fun K hK => ?_); (focus (first | (simp only [Region.wanted]; done) | (go_simp; done) | (simp [Region.wanted, yielded, undef]; done) | (go_simp; simp [undef]; done) | (go_simp; decide) | rfl)); go_simp; refine hK _ ?_; clear hK K))
            (refine Stu.wpR_spg (by rfl) (by rfl) ?_ ?_ (fun W hW hF => ?_) (fun K v hv hK => ?_); (focus (first | (simp only [Region.wanted]; done) | (go_simp; done))); (focus (exact ⟨_, none, _, rfl, Nat.le_refl _⟩)); (go_simp; simp only [Stu.relUpon_enter]; refine (HBY.out W hW).mono ?_; rintro e w' ⟨v, rfl, h1, h2, h3⟩; exact ⟨_, rfl, h3, h1, h2⟩); (obtain ⟨A35, c35, rfl, hc35⟩ := hv); go_simp; refine hK _ ?_; clear hK K)
            (refine Stu.wpR_spg (by rfl) (by rfl) ?_ ?_ (fun W hW hF => ?_) (fun K v hv hK => ?_); (focus (first | (simp only [Region.wanted]; done) | (go_simp; done))); (focus (exact ⟨_, rfl⟩)); (exact cstr_rel rfl rfl (show Sl W (.slice A35 nb c35) bb from hF 25 rfl) HZB.out _); (cases hv); go_simp; refine hK _ ?_; clear hK K)
            repeat (refine Stu.wpR_plain ?_ (by rfl) (by rfl) (fun K hK => ?_); (focus (first | (simp only [Region.wanted]; done) | (go_simp; done))); apply Exists.intro; refine ⟨fun W hW => ?_, ?_⟩; (go_simp; (try simp only [Stu.plainUpon_value, true_and]); rfl); go_simp; refine hK _ ?_; clear hK K)
            (refine Stu.wpR_spg (by rfl) (by rfl) ?_ ?_ (fun W hW hF => ?_) (fun K v hv hK => ?_); (focus (first | (simp only [Region.wanted]; done) | (go_simp; done))); (focus (exact ⟨_, none, _, rfl, Nat.le_refl _⟩)); (go_simp; simp only [Stu.relUpon_enter]; refine (HRBY.out W hW).mono ?_; rintro e w' ⟨v, rfl, h1, h2, h3⟩; exact ⟨_, rfl, h3, h1, h2⟩); (obtain ⟨A38, c38, rfl, hc38⟩ := hv); go_simp; refine hK _ ?_; clear hK K)
            (refine Stu.wpR_spg (by rfl) (by rfl) ?_ ?_ (fun W hW hF => ?_) (fun K v hv hK => ?_); (focus (first | (simp only [Region.wanted]; done) | (go_simp; done))); (focus (exact ⟨_, rfl⟩)); (exact cstr_rel rfl rfl (show Sl W (.slice A38 nb c38) bb from hF 28 rfl) HZB.out _); (cases hv); go_simp; refine hK _ ?_; clear hK K)
            repeat (refine Stu.wpR_plain ?_ (by rfl) (by rfl) (fun K hK => ?_); (focus (first | (simp only [Region.wanted]; done) | (go_simp; done))); apply Exists.intro; refine ⟨fun W hW => ?_, ?_⟩; (go_simp; (try simp only [Stu.plainUpon_value, true_and]); rfl); go_simp; refine hK _ ?_; clear hK K)
            refine Stu.wpR_nil (fun W hW hU hF => ?_)
            have HBZ := Lib.hid (below_then HB8.out HB8.out.size ((Below.drew (Below.refl _ w8)).trans hW))
            clear hF hW hU HEN HREN HBY HRBY
            go_wp2
            go_ret
            exact ⟨rfl, HBZ.out⟩
          · exact absurd heq (h1 xs HDS.out)
        · have hne : bytesB (KvMath.all [] (xs.map PutD.ent)) ≠ bs := fun e => h1 xs HDS.out ((load_ref bs xs HDS.out).2 e)
          clear h1 HD7
          go_wp2_with fail
          refine HLD2.out.mono ?_
          rintro e w8 ⟨hb8, (⟨ys, g8, h1, h2, rfl, h4⟩ | ⟨h1, rfl⟩)⟩
          · rw [HDS.out] at h1
            injection h1 with h1
            subst h1
            exact absurd h2 hne
          · have HPG8 := Lib.hid (HPG7.out.below hb8 (fun v l h => Sl.below h hb8)); have HPR8 := Lib.hid (HPR7.out.below hb8)
            have HB8 : Hid (Below w.heap.size w w8) := Lib.hid (below_then (below_then (below_then (below_then HBL.out HBL.out.size HB5.out) (Nat.le_trans HBL.out.size HB5.out.size) HB6.out) (Nat.le_trans HBL.out.size (Nat.le_trans HB5.out.size HB6.out.size)) HB7.out) (Nat.le_trans HBL.out.size (Nat.le_trans HB5.out.size (Nat.le_trans HB6.out.size HB7.out.size))) hb8)
            clear hb8 h1 hne HLD2
            obtain ⟨be, hbe⟩ : ∃ be, be = KvMath.encB (xs.map PutD.ent) := ⟨_, rfl⟩
            obtain ⟨ne, hne⟩ : ∃ ne, ne = be.length := ⟨_, rfl⟩
            obtain ⟨z, hz⟩ : ∃ z : ByteArray, z = ⟨be.toArray⟩ := ⟨_, rfl⟩
            have hbW : ∀ W, CB w8.drew W → Below w8.heap.size w8 W := fun W hW => (Below.drew (Below.refl _ w8)).trans hW
            have HEN : Hid (∀ W, CB w8.drew W → Calls Try.prog 17 #[.slice A5 m c5] W fun e w' => ∃ v, e = .returned v ∧ shpn ne v ∧ Sl w' v be ∧ CB W w') := Lib.hid fun W hW => by
              obtain ⟨A', c', e, h1, h2⟩ := (HPR8.out.below (hbW W hW)).row HXZ.out
              injection e with e1 e2 e3
              subst e1; subst e3
              have h3 := kv_encode W A5 c5 xs h2 h1 (by have := HXL.out; omega)
              rw [if_pos HGG.out, ← hbe, ← e2] at h3
              refine h3.mono ?_
              rintro e w' ⟨v, rfl, h5, h6⟩
              obtain ⟨A, c, rfl, h7, _⟩ := h5.rd
              rw [← hne] at h7 ⊢
              exact ⟨_, rfl, ⟨A, c, rfl, h7⟩, by rw [hne]; exact h5.sl, h6⟩
            have HREN : Hid (∀ W, CB w8.drew W → Calls Try.prog 20 #[.slice A6 m c6] W fun e w' => ∃ v, e = .returned v ∧ shpn ne v ∧ Sl w' v be ∧ CB W w') := Lib.hid fun W hW => by
              obtain ⟨A', c', e, h1, h2⟩ := (HPG8.out.below (hbW W hW) (fun v l h => Sl.below h (hbW W hW))).row (fun v l h => Sl.rd h) HXZ.out
              injection e with e1 e2 e3
              subst e1; subst e3
              have h3 := ref_encode W A6 c6 xs h2 h1 (by have := HXL.out; omega)
              rw [if_pos HGG.out, ← hbe, ← e2] at h3
              refine h3.mono ?_
              rintro e w' ⟨v, rfl, h5, h6⟩
              obtain ⟨A, c, rfl, h7, _⟩ := h5.rd
              rw [← hne] at h7 ⊢
              exact ⟨_, rfl, ⟨A, c, rfl, h7⟩, by rw [hne]; exact h5.sl, h6⟩
            have HZ := Lib.hid hz
            clear hbe hne hz
            clear hbW HPR8 HPG8
            go_wp2_with fail
            refine Stu.wp_region_stu _ (Stu.mkT [(4, cslS ne be), (5, cvaS (.string z)), (7, cslS ne be), (8, cvaS (.string z))]) (fun _ => True) [] (fun W => Below.refl _ W) (fun _ _ _ h k => CB.trans h k) (fun _ _ h => h) (fun _ _ _ _ => trivial) trivial (Stu.mkT_ks _ (by show List.Nodup [4, 5, 7, 8]; decide) _ rfl) (by kernel_rfl) (by kernel_rfl) (by kernel_rfl) ?_
            repeat (first
              | (refine Stu.wpR_plain ?_ (by rfl) (by rfl) (fun K hK => ?_); (focus (first | (simp only [Region.wanted]; done) | (go_simp; done))); apply Exists.intro; refine ⟨fun W hW => ?_, ?_⟩; (go_simp; (try simp only [Stu.plainUpon_value, true_and]); rfl); go_simp; refine hK _ ?_; clear hK K)
              | (refine Stu.wpR_spg (by rfl) (by rfl) ?_ ?_ (fun W hW hF => ?_) (fun K v hv hK => ?_); (focus (first | (simp only [Region.wanted]; done) | (go_simp; done))); (focus (exact ⟨_, none, _, rfl, Nat.le_refl _⟩)); (go_simp; simp only [Stu.relUpon_enter]; refine (HEN.out W hW).mono ?_; rintro e w' ⟨v, rfl, h1, h2, h3⟩; exact ⟨_, rfl, h3, h1, h2⟩); (obtain ⟨A19, c19, rfl, hc19⟩ := hv); go_simp; refine hK _ ?_; clear hK K))
            (refine Stu.wpR_spg (by rfl) (by rfl) ?_ ?_ (fun W hW hF => ?_) (fun K v hv hK => ?_); (focus (first | (simp only [Region.wanted]; done) | (go_simp; done))); (focus (exact ⟨_, rfl⟩)); (exact cstr_rel rfl rfl (show Sl W (.slice A19 ne c19) be from hF 4 rfl) HZ.out _); (cases hv); go_simp; refine hK _ ?_; clear hK K)
            repeat (refine Stu.wpR_plain ?_ (by rfl) (by rfl) (fun K hK => ?_); (focus (first | (simp only [Region.wanted]; done) | (go_simp; done))); apply Exists.intro; refine ⟨fun W hW => ?_, ?_⟩; (go_simp; (try simp only [Stu.plainUpon_value, true_and]); rfl); go_simp; refine hK _ ?_; clear hK K)
            (refine Stu.wpR_spg (by rfl) (by rfl) ?_ ?_ (fun W hW hF => ?_) (fun K v hv hK => ?_); (focus (first | (simp only [Region.wanted]; done) | (go_simp; done))); (focus (exact ⟨_, none, _, rfl, Nat.le_refl _⟩)); (go_simp; simp only [Stu.relUpon_enter]; refine (HREN.out W hW).mono ?_; rintro e w' ⟨v, rfl, h1, h2, h3⟩; exact ⟨_, rfl, h3, h1, h2⟩); (obtain ⟨A29, c29, rfl, hc29⟩ := hv); go_simp; refine hK _ ?_; clear hK K)
            (refine Stu.wpR_spg (by rfl) (by rfl) ?_ ?_ (fun W hW hF => ?_) (fun K v hv hK => ?_); (focus (first | (simp only [Region.wanted]; done) | (go_simp; done))); (focus (exact ⟨_, rfl⟩)); (exact cstr_rel rfl rfl (show Sl W (.slice A29 ne c29) be from hF 7 rfl) HZ.out _); (cases hv); go_simp; refine hK _ ?_; clear hK K)
            repeat (first | (refine Stu.wpR_plain ?_ (by rfl) (by rfl) (fun K hK => ?_); (focus (first | (simp only [Region.wanted]; done) | (go_simp; done))); apply Exists.intro; refine ⟨fun W hW => ?_, ?_⟩; (go_simp; (try simp only [Stu.plainUpon_value, true_and]); rfl); go_simp; refine hK _ ?_; clear hK K) | (refine Stu.wpR_skip ?_ (fun K hK => ?_); (focus (first | (simp only [Region.wanted]; done) | (go_simp; done) | (simp [Region.wanted, yielded, undef]; done) | (go_simp; simp [undef]; done) | (go_simp; decide) | rfl)); go_simp; refine hK _ ?_; clear hK K))
            refine Stu.wpR_nil (fun W hW hU hF => ?_)
            have HBZ := Lib.hid (below_then HB8.out HB8.out.size ((Below.drew (Below.refl _ w8)).trans hW))
            clear hF hW hU HEN HREN
            go_wp2
            go_ret
            exact ⟨rfl, HBZ.out⟩
      · go_wp2_with fail
        refine HDEC2.out.mono ?_
        rintro e w6 ⟨hb6, hd6⟩
        have hE : ∃ v, e = .returned (.tuple #[v, .bool false]) := by
          rcases hd6 with ⟨ys, v6, h1, h2, h3, h4⟩ | ⟨h1, h2⟩
          · refine ⟨v6, ?_⟩
            rw [h2]
            cases hg : ys.all PutD.good with
            | false => rfl
            | true =>
              rw [(dec_ref _ bs ys (Nat.le_refl _)).2 ⟨h1, hg⟩] at hds
              cases hds
          · exact ⟨_, h2⟩
        obtain ⟨v6, rfl⟩ := hE
        have hrdb6 := HRD5.out.below hb6
        have hld := kv_load w6 Ab cb bs hrdb6 (by rw [← HMB.out]; exact hcb) (by rw [← HMB.out]; omega)
        rw [← HMB.out] at hld
        have HLD := Lib.hid hld; have HRD6 := Lib.hid hrdb6; have HDS := Lib.hid hds; have HB6 := Lib.hid hb6
        clear hld hrdb6 hds hd6 HDEC2 HD5 hb6
        go_wp2_with fail
        refine HLD.out.mono ?_
        rintro e w7 ⟨hb7, (⟨xs, B', g', w1', h1, _⟩ | ⟨_, rfl⟩)⟩
        · rw [HDS.out] at h1
          cases h1
        have hrdb7 := HRD6.out.below hb7
        have hld := ref_load w7 Ab cb bs hrdb7 (by rw [← HMB.out]; exact hcb) (by rw [← HMB.out]; omega)
        rw [← HMB.out] at hld
        have HLD2 := Lib.hid hld; have HB7 := Lib.hid hb7
        clear hld hrdb7 HLD HRD6 hb7
        go_wp2_with fail
        refine HLD2.out.mono ?_
        rintro e w8 ⟨hb8, (⟨xs, g', h1, _⟩ | ⟨_, rfl⟩)⟩
        · rw [HDS.out] at h1
          cases h1
        have HB8 : Hid (Below w.heap.size w w8) := Lib.hid (below_then (below_then (below_then (below_then HBL.out HBL.out.size HB5.out) (Nat.le_trans HBL.out.size HB5.out.size) HB6.out) (Nat.le_trans HBL.out.size (Nat.le_trans HB5.out.size HB6.out.size)) HB7.out) (Nat.le_trans HBL.out.size (Nat.le_trans HB5.out.size (Nat.le_trans HB6.out.size HB7.out.size))) hb8)
        clear hb8 HLD2
        go_wp2_with fail
        refine wp_region_tbl _ (fun _ => none) (w8.heap.size) (by kernel_rfl) (by kernel_rfl) (by kernel_rfl) ?_
        repeat (first | (refine wpR_plain ?_ (by rfl) (fun K hK => ?_); (focus (first | (simp only [Region.wanted]; done) | (go_simp; done))); apply Exists.intro; refine ⟨fun W hW => ?_, ?_⟩; (go_simp; (try simp only [plainUpon_value, true_and]); rfl); go_simp; refine hK _ ?_; clear hK K) | (refine wpR_skip ?_ (fun K hK => ?_); (focus (first | (simp only [Region.wanted]; done) | (go_simp; done) | (simp [Region.wanted, yielded, undef]; done) | (go_simp; simp [undef]; done) | (go_simp; decide) | rfl)); go_simp; refine hK _ ?_; clear hK K))
        refine wpR_nil (fun W hW hF => ?_)
        have HBZ := Lib.hid (HB8.out.trans ((Below.drew (Below.refl w8.heap.size w8)).mono HB8.out.size |>.trans (hW.1.mono HB8.out.size)))
        clear hW hF
        go_wp2
        go_ret
        exact ⟨rfl, HBZ.out⟩
set_option maxRecDepth 1000000 in
theorem KvPlays_any (A : Option Addr) (c : Nat) (xss : List (List PutD)) (fr to : ByteArray) (most : Int) (Ab : Option Addr) (cb : Nat) (bs : List UInt8) (w : World) (hr : PutLs w A xss) (hc : xss.length ≤ c) (hrb : Rd w Ab bs) (hcb : bs.length ≤ cb) :
    Calls Try.prog 6 #[.slice A xss.length c, .string fr, .string to, .int .i64 most, .slice Ab bs.length cb] w fun e w' => e = .returned (.bool true) ∧ Below w.heap.size w w' := by
  by_cases hok : lightB xss = true ∧ fr.size ≤ 300 ∧ to.size ≤ 300 ∧ bs.length ≤ 600
  · exact KvPlays_ok A c xss fr to most Ab cb bs w hr hc hok.1 hok.2.1 hok.2.2.1 hrb hcb hok.2.2.2
  · obtain ⟨n, hnn⟩ : ∃ n, n = xss.length := ⟨_, rfl⟩
    obtain ⟨mb, hmb⟩ : ∃ mb, mb = bs.length := ⟨_, rfl⟩
    rw [← hmb] at hok ⊢
    rw [← hnn] at hc ⊢
    have HN := Lib.hid hnn; have HR := Lib.hid hr; have HOK := Lib.hid hok
    clear hnn hr hok hmb hrb hcb
    go_enter Try.func6, Try.ntmps6
    go_wp2_with fail
    refine (awake7_any _).mono ?_
    rintro e w1 ⟨rfl, hb1⟩
    have HB1 := Lib.hid hb1
    clear hb1
    go_wp2_with fail
    have hlt := kv_light w1 A c xss (HR.out.below HB1.out) (by rw [← HN.out]; exact hc)
    rw [← HN.out] at hlt
    have hlt := Lib.hid hlt
    refine hlt.out.mono ?_
    rintro e w2 ⟨rfl, rfl⟩
    clear hlt
    cases hsm : lightB xss with
    | false =>
      clear hsm
      go_wp2
      go_ret
      exact ⟨rfl, HB1.out⟩
    | true =>
      by_cases h1 : fr.size ≤ 300
      · have h1i : ¬ (300 : Int) < fr.size := by omega
        by_cases h2 : to.size ≤ 300
        · have h2i : ¬ (300 : Int) < to.size := by omega
          have h3i : (600 : Int) < mb := by
            have := HOK.out
            by_cases e : mb ≤ 600
            · exact absurd ⟨hsm, h1, h2, e⟩ this
            · omega
          clear hsm
          go_wp2
          go_ret
          exact ⟨rfl, HB1.out⟩
        · have h2i : (300 : Int) < to.size := by omega
          clear hsm
          go_wp2
          go_ret
          exact ⟨rfl, HB1.out⟩
      · have h1i : (300 : Int) < fr.size := by omega
        clear hsm
        go_wp2
        go_ret
        exact ⟨rfl, HB1.out⟩
end Go.Proofs.Ytgaccogekmaijaa
