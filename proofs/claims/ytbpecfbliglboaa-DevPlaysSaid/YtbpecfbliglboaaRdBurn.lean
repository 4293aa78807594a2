/- The reference's device: a call is counted; Flush. -/
import Derived.Test.YtbpecfbliglboaaRdCrash
namespace Go.Proofs.Ytbpecfbliglboaa
open Go.RowKit Go.Maps
set_option linter.unusedVariables false
set_option linter.unusedSimpArgs false
set_option maxRecDepth 20000 in
set_option maxHeartbeats 1000000 in
/-- does the fuse blow at this call? -/
theorem ref_blown (w : World) (B r : Nat) (rf : Int) (vs vl vk : Value) (d : DevMath.Dev) (ss : List ByteArray) (ws : List (Int × ByteArray)) (h : RdM w B r rf vs vl vk d ss ws) (hI : DvI d) (hoff : d.off = false) (hm1 : ws.length ≤ 1000000) (hkl : d.keep.length ≤ 1000000) :
    Calls Try.prog 51 #[.pointer (some ⟨r, 0, none⟩)] w fun e w' => e = .returned (.bool d.burn.off) ∧ (∃ rf' vl' ss' ws', RdM w' B r rf' vs vl' vk d.burn ss' ws') ∧ Chg (OwnR r vs) w w' := by
  obtain ⟨_, _, _, _, h4, h5, h6, f0⟩ := h.cells
  have hff := h.ff
  have hb := bounds_i64 h.wf
  have f4 := f0 4
  by_cases h1 : rf < 1
  · have hbn : d.burn = d := by
      unfold DevMath.Dev.burn
      rw [if_neg (by omega)]
    rw [hbn, hoff]
    have HD := Lib.hid h
    clear h f0 hff
    go_enter Try.func51, Try.ntmps51
    go_wp2
    go_ret
    exact ⟨rfl, ⟨_, _, _, _, HD.out⟩, Chg.refl _ _⟩
  · have hfe : d.fuse = rf := by omega
    have hws : IntKind.i64.wrap (rf - 1) = rf - 1 := by rw [IntKind.wrap_i64]; omega
    have hc : Chg (· = r) w (w.setCell ⟨r, 4, none⟩ (.int .i64 (rf - 1))) := Chg.setCell w r 4 _
    have hrw := h.rows hc
    have hd1 : RdM (w.setCell ⟨r, 4, none⟩ (.int .i64 (rf - 1))) B r (rf - 1) vs vl vk { d with fuse := rf - 1 } ss ws :=
      h.turn hc (heap_setCell_same w r 4 _ _ _ h.st) rfl rfl hrw.1 hrw.2 h.cw (by show rf - 1 = max (rf - 1) 0; omega) (by simp [Lit.wf, IntKind.min, IntKind.max, IntKind.signed, IntKind.bits]; omega)
    obtain ⟨W1, hW1⟩ : ∃ W1, W1 = w.setCell ⟨r, 4, none⟩ (.int .i64 (rf - 1)) := ⟨_, rfl⟩
    rw [← hW1] at hd1 hc
    have hcW : Chg (OwnR r vs) w W1 := hc.imp fun k hk => .inl hk
    have HD1 := Lib.hid hd1; have HCW := Lib.hid hcW; have HW1 := Lib.hid hW1
    by_cases h2 : rf - 1 = 0
    · have hI1 : DvI { d with fuse := rf - 1 } := ⟨hI.n1, hI.sf, hI.cf, by show 0 ≤ rf - 1; omega, by show rf - 1 ≤ _; omega, hI.t0⟩
      have hbn : d.burn = ({ d with fuse := rf - 1 } : DevMath.Dev).crash d.keep d.torn := by
        unfold DevMath.Dev.burn
        rw [if_pos ⟨by omega, hoff⟩, if_pos (by omega), hfe]
      have hof : d.burn.off = true := by
        rw [hbn]
        unfold DevMath.Dev.crash
        rw [if_neg (by show ¬ d.off = true; rw [hoff]; decide)]
      rw [hof, hbn]
      have hrf : rf = 1 := by omega
      have HI1 := Lib.hid hI1
      obtain ⟨_, _, _, _, c4, c5, c6, _⟩ := hd1.cells
      rw [h2] at c4
      have HC : Hid (∀ W, Gr W1.heap.size W1.drew W → W.cell? ⟨r, 5, none⟩ = some vk ∧ W.cell? ⟨r, 6, none⟩ = some (.int .i64 d.torn)) := Lib.hid fun W hW => by
        have hb := Below.trans (Below.drew (Below.refl W1.heap.size W1)) hW.1
        exact ⟨cell_below hb c5, cell_below hb c6⟩
      have hc4 : W1.cell? ⟨r, 4, none⟩ = some (.int .i64 0) := c4
      have HW0 : Hid (W1 = w.setCell ⟨r, 4, none⟩ (.int .i64 0)) := Lib.hid (by rw [hW1, h2])
      have HKE := Lib.hid hd1.ke
      clear h hI hd1 hcW hc hrw hI1 hbn hof f0 hff hW1 hb c4 c5 c6
      go_enter Try.func51, Try.ntmps51
      go_wp2_with fail
      rw [← HW0.out]
      (refine wp_region_tbl_tail _ 9 (fun _ => none) W1.heap.size (by kernel_rfl) (by kernel_rfl) (by kernel_rfl) ?_; simp only [List.take_succ_cons, List.take_zero, List.drop_succ_cons, List.drop_zero])
      repeat (first
        | (refine wpR_plain ?_ (by rfl) (fun K hK => ?_); (focus (first | (simp only [Region.wanted]; done) | (go_simp; done))); apply Exists.intro; refine ⟨fun W hW => ?_, ?_⟩; (go_simp; (try simp only [plainUpon_value, true_and]); rfl); go_simp; refine hK _ ?_; clear hK K)
        | (refine wpR_plain ?_ (by rfl) (fun K hK => ?_); (focus (first | (simp only [Region.wanted]; done) | (go_simp; done))); apply Exists.intro; refine ⟨fun W hW => ?_, ?_⟩; (have hcw := HC.out W hW; go_simp; (try simp only [plainUpon_value, true_and]); rfl); go_simp; refine hK _ ?_; clear hK K))
      refine wpR_nil (fun W hW hF => ?_)
      have hb := Below.trans (Below.drew (Below.refl W1.heap.size W1)) hW.1
      have hdw := HD1.out.tr (TR.of_below hb)
      have hcon := Lib.hid (ref_crash W B r _ vs vl vk _ ss ws hdw HI1.out hm1 vk d.keep d.torn (fun W' hW' => (hdw.ke.chg hW' (hdw.not (by decide) (by decide))).r) hkl)
      have HCV := Lib.hid (HCW.out.trans (Chg.of_below hb))
      clear hF hW hb hdw
      go_wp2_with fail
      refine hcon.out.mono ?_
      rintro e w4 ⟨rfl, hr, hc⟩
      have HR := Lib.hid hr; have HC4 := Lib.hid (HCV.out.trans hc)
      clear hr hc hcon
      go_wp2
      go_ret
      exact ⟨rfl, HR.out, HC4.out⟩
    · have hbn : d.burn = { d with fuse := rf - 1 } := by
        unfold DevMath.Dev.burn
        rw [if_pos ⟨by omega, hoff⟩, if_neg (by omega), hfe]
      rw [hbn]
      have hgt : 0 < rf - 1 := by omega
      clear h hI hd1 hcW hc hrw hbn f0 hff hW1 hb
      go_enter Try.func51, Try.ntmps51
      go_wp2
      go_ret
      rw [← HW1.out]
      have hd := HD1.out
      rw [hoff] at hd
      exact ⟨rfl, ⟨_, _, _, _, hd⟩, HCW.out⟩
theorem RdM.len {w : World} {B r : Nat} {rf : Int} {vs vl vk : Value} {d : DevMath.Dev} {ss : List ByteArray} {ws : List (Int × ByteArray)} (h : RdM w B r rf vs vl vk d ss ws) : ws.length = d.cache.length := by
  rw [← h.cw]; simp [wof]
end Go.Proofs.Ytbpecfbliglboaa
