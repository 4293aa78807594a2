/- The reference's device: Write. -/
import Derived.Test.YtbpecfbliglboaaRdApp
namespace Go.Proofs.Ytbpecfbliglboaa
open Go.RowKit Go.Maps
set_option linter.unusedVariables false
set_option linter.unusedSimpArgs false
theorem orow_low {w : World} {B B' e size n : Nat} {v : Value} {xs : List Value} (h : w.ownsRow B e size v n xs) (hb : B' ≤ B) : w.ownsRow B' e size v n xs := by
  refine ⟨h.1, ?_⟩
  rcases h.2 with hn | ⟨g, cap, cur, h1, h2, h3, h4⟩
  · exact .inl hn
  · exact .inr ⟨g, cap, cur, h1, Nat.le_trans hb h2, h3, h4⟩
attribute [local irreducible] wpR relOp Stu.wpR Stu.relOp
set_option maxRecDepth 20000 in
set_option maxHeartbeats 1000000 in
theorem ref_write (w : World) (B r : Nat) (rf : Int) (vs vl vk : Value) (d : DevMath.Dev) (ss : List ByteArray) (ws : List (Int × ByteArray)) (h : RdM w B r rf vs vl vk d ss ws) (hI : DvI d) (hm1 : ws.length ≤ 1000000) (hkl : d.keep.length ≤ 1000000) (hB : B ≤ w.heap.size) (at_ : Int) (vb : Value) (l : List UInt8) (hs : Sl w vb l) (hl : l.length ≤ 1000000) :
    Calls Try.prog 26 #[.pointer (some ⟨r, 0, none⟩), .int .i64 at_, vb] w fun e w' => e = .returned (.int .i64 (d.write at_ l).2) ∧ (∃ rf' vl' ss' ws', RdM w' B r rf' vs vl' vk (d.write at_ l).1 ss' ws') ∧ Chg (OwnR r vs) w w' := by
  have hce0 : w.cell? ⟨r, 0, none⟩ = some (.int .i64 d.sectors) := by rw [cell_of_row _ r 0 _ _ _ h.st]; rfl
  have hce1 : w.cell? ⟨r, 1, none⟩ = some (.bool d.off) := by rw [cell_of_row _ r 1 _ _ _ h.st]; rfl
  unfold DevMath.Dev.write
  obtain ⟨A, c, rfl, hc, hr⟩ := hs.rd
  have HD := Lib.hid h
  have HS := Lib.hid hs
  obtain ⟨n, hnn⟩ : ∃ n, n = l.length := ⟨_, rfl⟩
  rw [← hnn] at hc hl ⊢
  cases ho : d.off with
  | true =>
    rw [ho] at hce1
    rw [if_pos rfl]
    clear h hce0 hr
    go_enter Try.func26, Try.ntmps26
    go_wp2
    go_ret
    exact ⟨rfl, ⟨_, _, _, _, HD.out⟩, Chg.refl _ _⟩
  | false =>
    rw [ho] at hce1
    rw [if_neg (by decide)]
    by_cases hb : d.has at_ = false ∨ n ≠ 512
    · rw [if_pos hb]
      by_cases hneg : at_ < 0
      · clear h hr hb
        go_enter Try.func26, Try.ntmps26
        go_wp2
        go_ret
        exact ⟨rfl, ⟨_, _, _, _, HD.out⟩, Chg.refl _ _⟩
      · by_cases hge : (d.sectors : Int) ≤ at_
        · clear h hr hb
          go_enter Try.func26, Try.ntmps26
          go_wp2
          go_ret
          exact ⟨rfl, ⟨_, _, _, _, HD.out⟩, Chg.refl _ _⟩
        · have hn5 : ¬ ((n : Int) = 512) := by
            rcases hb with hb | hb
            · simp [DevMath.Dev.has] at hb
              omega
            · omega
          have hde : decide (n = 512) = false := decide_eq_false (by omega)
          clear h hr hb
          go_enter Try.func26, Try.ntmps26
          go_wp2
          go_ret
          exact ⟨rfl, ⟨_, _, _, _, HD.out⟩, Chg.refl _ _⟩
    · rw [if_neg hb]
      have hn5 : n = 512 := by
        by_cases e : n = 512
        · exact e
        · exact absurd (.inr e) hb
      have hhas : d.has at_ = true := by
        cases e : d.has at_ with
        | true => rfl
        | false => exact absurd (.inl e) hb
      simp [DevMath.Dev.has] at hhas
      obtain ⟨ha0, ha1⟩ := hhas
      subst hn5
      have hge : ¬ (d.sectors : Int) ≤ at_ := by omega
      have hneg : ¬ at_ < 0 := by omega
      have hbl := Lib.hid (ref_blown w B r rf vs vl vk d ss ws h hI ho hm1 hkl)
      have hwl : ws.length = d.cache.length := by rw [← h.cw]; simp [wof]
      have hbc := burn_cache d
      have hbcl : d.burn.cache.length ≤ 1000000 := by
        rcases hbc with e | e
        · rw [e]; omega
        · rw [e]; simp
      clear hbc hb hwl hI hm1 hkl h hr
      generalize d.burn = db at hbl hbcl ⊢
      have HNN := Lib.hid hnn
      clear hnn
      cases hbo : db.off with
      | true =>
        rw [if_pos rfl]
        rw [hbo] at hbl
        go_enter Try.func26, Try.ntmps26
        go_wp2_with fail
        refine hbl.out.mono ?_
        rintro e w1 ⟨rfl, hr1, hc1⟩
        have HR1 := Lib.hid hr1; have HC1 := Lib.hid hc1
        clear hr1 hc1 hbl
        go_wp2
        go_ret
        exact ⟨rfl, HR1.out, HC1.out⟩
      | false =>
        rw [if_neg (by decide)]
        rw [hbo] at hbl
        go_enter Try.func26, Try.ntmps26
        go_wp2_with fail
        refine hbl.out.mono ?_
        rintro e w1 ⟨rfl, ⟨rf1, vl1, ss1, ws1, hd1⟩, hc1⟩
        have hwl1 : ws1.length = db.cache.length := by rw [← hd1.cw]; simp [wof]
        obtain ⟨Al, cl, hvl, hcl⟩ := shpn.of_row hd1.ca
        subst hvl
        have hsl1 : Sl w1 (.slice A 512 c) l := HS.out.chg hc1 (fun k hk => HD.out.not (by decide) (by decide) k hk) |> fun h => by rw [← HNN.out] at h; exact h
        obtain ⟨nn, hnw⟩ : ∃ nn, nn = ws1.length := ⟨_, rfl⟩
        rw [← hnw] at hcl
        have hn1 : nn ≤ 1000000 := by omega
        obtain ⟨z, hz⟩ : ∃ z : ByteArray, z = ⟨l.toArray⟩ := ⟨_, rfl⟩
        obtain ⟨S0, hS0⟩ : ∃ S0, S0 = w1.heap.size := ⟨_, rfl⟩
        have hBW : ∀ W, TB S0 w1.drew W → Below w1.heap.size w1 W := fun W hW => (Below.drew (Below.refl _ w1)).trans (by rw [← hS0]; exact hW.1)
        have hRW : ∀ W, TB S0 w1.drew W → RdM W B r rf1 vs (.slice Al nn cl) vk db ss1 ws1 := fun W hW => by rw [hnw]; exact hd1.tr (TR.of_below (hBW W hW))
        have HC : Hid (∀ W, TB S0 w1.drew W → W.cell? ⟨r, 3, none⟩ = some (.slice Al nn cl)) := Lib.hid fun W hW => by rw [cell_of_row _ r 3 _ _ _ (hRW W hW).st]; rfl
        have HV : Hid (∀ W, TB S0 w1.drew W → (convert 33 9 (.slice A 512 c)).run Try.prog W = .ok (.string z) W) := Lib.hid fun W hW => by
          rw [hz]
          have h2 : Sl W (.slice A 512 c) l := hsl1.chg (Chg.of_below (S := fun _ => False) (hBW W hW)) (fun _ h => h.elim)
          obtain ⟨A', c', e, _, hr⟩ := h2.rd
          injection e with e1 e2 e3
          subst e1
          exact Rd.str hr 512 c HNN.out.symm
        have HRow : Hid (∀ W, TB S0 w1.drew W → W.ownsRow B 85 2 (.slice Al nn cl) nn (wvl ws1)) := Lib.hid fun W hW => by
          have := (hRW W hW).ca
          rw [← hnw] at this
          exact this
        have HRW := Lib.hid hRW; have HBW := Lib.hid hBW
        have HSz : Hid (∀ W, TB S0 w1.drew W → S0 ≤ W.heap.size) := Lib.hid fun W h => by rw [hS0]; exact h.1.size
        have HSB : Hid (B ≤ S0) := Lib.hid (by rw [hS0]; exact Nat.le_trans hB hc1.size)
        have HBd : Hid (Below S0 w1 w1.drew) := Lib.hid (by rw [hS0]; exact Below.drew (Below.refl _ w1))
        have HC1 := Lib.hid hc1; have HZ := Lib.hid hz; have HNW := Lib.hid hnw; have HS0 := Lib.hid hS0; have HBO := Lib.hid hbo; have HWL := Lib.hid hwl1
        clear hS0 hz hnw hRW hBW hc1 hd1 hwl1 hsl1 hbl hce0 hce1 hneg hge hB hbo
        go_wp2_with fail
        refine Stu.wp_region_stu_tail _ 13 (Stu.mkT [(1, wlit0 S0), (6, wsp1 S0 w1 nn ws1), (11, wlit1 S0 at_ z), (12, wsp2 S0 w1 (nn + 1) (ws1 ++ [(at_, z)]))]) (fun W => Below S0 w1 W) [6, 12] (TB.refl _) TB.trans Gn.tb (fun _ _ h hg => h.trans (hg.1.mono hg.2)) HBd.out (Stu.mkT_ks _ (by show List.Nodup [1, 6, 11, 12]; decide) _ rfl) (by kernel_rfl) (by kernel_rfl) (by kernel_rfl) ?_
        simp only [List.take_succ_cons, List.take_zero, List.drop_succ_cons, List.drop_zero]
        repeat (first
          | (refine Stu.wpR_plain ?_ (by rfl) (by rfl) (fun K hK => ?_); (focus (first | (simp only [Region.wanted]; done) | (go_simp; done))); apply Exists.intro; refine ⟨fun W hW => ?_, ?_⟩; (go_simp; (try simp only [Stu.plainUpon_value, true_and]); rfl); go_simp; refine hK _ ?_; clear hK K)
          | (refine Stu.wpR_plain ?_ (by rfl) (by rfl) (fun K hK => ?_); (focus (first | (simp only [Region.wanted]; done) | (go_simp; done))); apply Exists.intro; refine ⟨fun W hW => ?_, ?_⟩; (have hcw := HC.out W hW; go_simp; (try simp only [Stu.plainUpon_value, true_and]); rfl); go_simp; refine hK _ ?_; clear hK K)
          | (refine Stu.wpR_plain ?_ (by rfl) (by rfl) (fun K hK => ?_); (focus (first | (simp only [Region.wanted]; done) | (go_simp; done))); apply Exists.intro; refine ⟨fun W hW => ?_, ?_⟩; (have hcw := HV.out W hW; go_simp; (try simp only [Stu.plainUpon_value, true_and]); rfl); go_simp; refine hK _ ?_; clear hK K)
          | (refine Stu.wpR_spg (by rfl) (by rfl) ?_ ?_ (fun W hW hF => ?_) (fun K v hv hK => ?_); (focus (first | (simp only [Region.wanted]; done) | (go_simp; done))); (focus (exact ⟨_, 0, rfl⟩)); (go_simp; exact wlit_rel (HSz.out W hW) _ ⟨_, rfl⟩ ⟨_, rfl, HSz.out W hW, heap_new _ _ _ rfl⟩); (obtain ⟨g2, rfl⟩ := hv); go_simp; refine hK _ ?_; clear hK K)
          | (refine Stu.wpR_spg (by rfl) (by rfl) ?_ ?_ (fun W hW hF => ?_) (fun K v hv hK => ?_); (focus (first | (simp only [Region.wanted]; done) | (go_simp; done))); (focus (exact ⟨_, 0, rfl⟩)); (go_simp; exact wlit_rel (HSz.out W hW) _ ⟨_, rfl⟩ ⟨_, rfl, heap_new _ _ _ rfl⟩); (obtain ⟨g10, rfl⟩ := hv); go_simp; refine hK _ ?_; clear hK K)
          | (refine Stu.wpR_spu (by rfl) (by rfl) ?_ ?_ (fun W hW hU hF => ?_) (fun K v hv hK => ?_); (focus (first | (simp only [Region.wanted]; done) | (go_simp; done))); (focus (exact ⟨_, none, _, rfl, Nat.le_refl _⟩)); (obtain ⟨g', e1, e2, e3⟩ := (show (wlit0 S0).q [] (.slice (some ⟨g2, 0, none⟩) 0 0) W from hF 1 rfl); cases e1; exact wapp1_rel rfl rfl rfl e3 e2 (HSz.out W hW) (HRow.out W hW) hn1 hU); (obtain ⟨A7, c7, rfl, hc7⟩ := hv); go_simp; refine hK _ ?_; clear hK K)
          | (refine Stu.wpR_spu (by rfl) (by rfl) ?_ ?_ (fun W hW hU hF => ?_) (fun K v hv hK => ?_); (focus (first | (simp only [Region.wanted]; done) | (go_simp; done))); (focus (exact ⟨_, none, _, rfl, Nat.le_refl _⟩)); (obtain ⟨g', e1, e3⟩ := (show (wlit1 S0 at_ z).q [] (.slice (some ⟨g10, 0, none⟩) 1 1) W from hF 11 rfl); cases e1; exact wapp2_rel rfl rfl rfl e3 (HSz.out W hW) hn1 hU); (obtain ⟨A11, c11, rfl, hc11⟩ := hv); go_simp; refine hK _ ?_; clear hK K))
        refine Stu.wpR_nil (fun W hW hU hF => ?_)
        have hU2 : WApp2 S0 w1 (nn + 1) (ws1 ++ [(at_, z)]) (.slice A11 (nn + 1) c11) W := hU
        have HRd := Lib.hid (HRW.out W hW)
        have HBe := Lib.hid (HBW.out W hW)
        have HU := Lib.hid hU2
        have hc3 := HRd.out.cells.2.2.2.1
        have hf3 := HRd.out.cells.2.2.2.2.2.2.2 3
        clear hU hU2 hF hW HC HV HRow HRW HBW HSz
        go_wp2
        go_ret
        have x1 := heap_setCell_same W r 3 _ _ (.slice A11 (nn + 1) c11) HRd.out.st
        have hc3 : Chg (· = r) W (W.setCell ⟨r, 3, none⟩ (.slice A11 (nn + 1) c11)) := Chg.setCell _ _ _ _
        have hrw := HRd.out.rows hc3
        have hca : W.ownsRow B 85 2 (.slice A11 (nn + 1) c11) (nn + 1) (wvl (ws1 ++ [(at_, z)])) := orow_low HU.out.1 HSB.out
        have hca2 : (W.setCell ⟨r, 3, none⟩ (.slice A11 (nn + 1) c11)).ownsRow B 85 2 (.slice A11 (nn + 1) c11) (nn + 1) (wvl (ws1 ++ [(at_, z)])) := orow_stay hca (fun k cs fr hk => hc3.heap hk (fun e => by
          subst e
          rw [HRd.out.st] at hk
          injection hk with hk
          injection hk with _ hk
          exact absurd hk (by decide)))
        refine ⟨rfl, ⟨rf1, .slice A11 (nn + 1) c11, ss1, ws1 ++ [(at_, z)], ?_⟩, HC1.out.trans ((Chg.of_below HBe.out).trans (hc3.imp fun k hk => .inl hk))⟩
        unfold rdCells at x1
        refine HRd.out.turn hc3 x1 rfl rfl (by rw [List.length_append, ← HNW.out]; exact hca2) hrw.2 ?_ HRd.out.ff HRd.out.wf
        show wof (ws1 ++ [(at_, z)]) = db.cache ++ [(at_, l)]
        rw [← HRd.out.cw, HZ.out]
        simp [wof]
end Go.Proofs.Ytbpecfbliglboaa
