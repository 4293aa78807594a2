/- Calls that count: burn. -/
import Derived.Test.YtbpecfbliglboaaCrash
namespace Go.Proofs.Ytbpecfbliglboaa
open Go.RowKit Go.Maps
set_option linter.unusedVariables false
set_option linter.unusedSimpArgs false
attribute [local irreducible] wpR relOp
/-- what a call that counts leaves of the cache's slice -/
def Vc (vc vc' : Value) : Prop := vc' = vc ∨ vc' = .slice none 0 0
theorem Own.of_vc {g m : Nat} {vc vc' : Value} (h : Vc vc vc') {k : Nat} (hk : Own g m vc' k) : Own g m vc k := by
  rcases h with rfl | rfl
  · exact hk
  · rcases hk with h | h | h
    · exact .inl h
    · exact .inr (.inl h)
    · simp [Value.ownBlock] at h
set_option maxRecDepth 20000 in
set_option maxHeartbeats 1000000 in
theorem burn_any (w : World) (B g m : Nat) (vc vk : Value) (d : DevMath.Dev) (h : DvM w B g m vc vk d) (hI : DvI d) (hcl : d.cache.length ≤ 1000000000) (hkl : d.keep.length ≤ 1000000000) :
    Calls Try.prog 43 #[.pointer (some ⟨g, 0, none⟩)] w fun e w' => e = .returned (.bool (!d.burn.off)) ∧ ∃ vc', Vc vc vc' ∧ DvM w' B g m vc' vk d.burn ∧ Chg (Own g m vc) w w' := by
  unfold DevMath.Dev.burn
  obtain ⟨h0, h1, h2, h3, h4, h5, h6, h7⟩ := h.cells
  have HD := Lib.hid h
  by_cases hf : 0 < d.fuse
  · cases ho : d.off with
    | true =>
      rw [if_neg (by simp)]
      rw [ho] at h3
      clear h h0 h1 h2 h5 h6 h7
      go_enter Try.func43, Try.ntmps43
      go_wp2
      go_ret
      exact ⟨by rw [ho]; rfl, _, .inl rfl, HD.out, Chg.refl _ _⟩
    | false =>
      rw [if_pos ⟨hf, rfl⟩]
      rw [ho] at h3
      clear h0 h1 h2
      have hw : IntKind.i64.wrap (d.fuse - 1) = d.fuse - 1 := by have := hI.f1; rw [IntKind.wrap_i64]; omega
      by_cases h1 : d.fuse - 1 = 0
      · rw [if_pos h1]
        have f4 := h7 4
        have hd1 : decide (d.fuse - 1 = 0) = true := decide_eq_true h1
        go_enter Try.func43, Try.ntmps43
        go_wp2_with fail
        obtain ⟨w2, hw2⟩ : ∃ w2, w2 = w.setCell ⟨g, 4, none⟩ (.int .i64 0) := ⟨_, rfl⟩
        have hd2 : DvM w2 B g m vc vk { d with fuse := d.fuse - 1 } := by
          rw [hw2]
          refine HD.out.turn (?_) (Chg.setCell w g 4 _) rfl rfl rfl rfl
          rw [heap_setCell_same w g 4 _ _ _ HD.out.st]
          rw [h1]; rfl
        have hc2 : Chg (Own g m vc) w w2 := by rw [hw2]; exact (Chg.setCell w g 4 _).imp fun k hk => .inl hk
        obtain ⟨_, _, _, q3, q4, q5, q6, _⟩ := hd2.cells
        rw [← hw2]
        have HD2 := Lib.hid hd2; have HC2 := Lib.hid hc2
        clear hd2 hc2 h3 h4 h5 h6 h7 h f4
        have HC : Hid (∀ W, Gr w2.heap.size w2.drew W → W.cell? ⟨g, 5, none⟩ = some vk ∧ W.cell? ⟨g, 6, none⟩ = some (.int .i64 d.torn)) := Lib.hid fun W hW => by
          have hb := Below.trans (Below.drew (Below.refl w2.heap.size w2)) hW.1
          exact ⟨cell_below hb q5, cell_below hb q6⟩
        (refine wp_region_tbl_tail _ 9 (fun _ => none) w2.heap.size (by kernel_rfl) (by kernel_rfl) (by kernel_rfl) ?_; simp only [List.take_succ_cons, List.take_zero, List.drop_succ_cons, List.drop_zero])
        repeat (first
          | (refine wpR_plain ?_ (by rfl) (fun K hK => ?_); (focus (first | (simp only [Region.wanted]; done) | (go_simp; done))); apply Exists.intro; refine ⟨fun W hW => ?_, ?_⟩; (go_simp; (try simp only [plainUpon_value, true_and]); rfl); go_simp; refine hK _ ?_; clear hK K)
          | (refine wpR_plain ?_ (by rfl) (fun K hK => ?_); (focus (first | (simp only [Region.wanted]; done) | (go_simp; done))); apply Exists.intro; refine ⟨fun W hW => ?_, ?_⟩; (have hcw := HC.out W hW; go_simp; (try simp only [plainUpon_value, true_and]); rfl); go_simp; refine hK _ ?_; clear hK K))
        refine wpR_nil (fun W hW hF => ?_)
        have hb := Below.trans (Below.drew (Below.refl w2.heap.size w2)) hW.1
        have hcon := Lib.hid (crash_any W B g m vc vk { d with fuse := d.fuse - 1 } (HD2.out.below hb) ⟨hI.n1, hI.sf, hI.cf, by show 0 ≤ d.fuse - 1; omega, by have := hI.f1; show d.fuse - 1 ≤ _; omega, hI.t0⟩ hcl vk d.keep d.torn (fun W' hc => ((HD2.out.below hb).ke.chg hc ((HD2.out.below hb).not8 (by decide) (by decide))).r) hkl)
        have HC3 := Lib.hid (HC2.out.trans (Chg.of_below hb))
        clear hF hW hb q3 q4 q5 q6
        go_wp2_with fail
        refine hcon.out.mono ?_
        rintro e w3 ⟨rfl, hd3, hc3⟩
        rw [ho, if_neg (by decide)] at hd3
        have hoff : ({ d with off := false, fuse := d.fuse - 1 }.crash d.keep d.torn : DevMath.Dev).off = true := rfl
        obtain ⟨_, _, _, q3, _, _, _, _⟩ := hd3.cells
        rw [hoff] at q3
        have HD3 := Lib.hid hd3
        have HC4 := Lib.hid (HC3.out.trans hc3)
        clear hd3 hc3 hcon
        go_wp2
        go_ret
        exact ⟨rfl, _, .inr rfl, HD3.out, HC4.out⟩
      · rw [if_neg h1]
        have f4 := h7 4
        have hd1 : decide (d.fuse - 1 = 0) = false := decide_eq_false h1
        have hx : DvM (w.setCell ⟨g, 4, none⟩ (.int .i64 (d.fuse - 1))) B g m vc vk { d with off := false, fuse := d.fuse - 1 } := by
          refine HD.out.turn (?_) (Chg.setCell w g 4 _) rfl rfl rfl rfl
          rw [heap_setCell_same w g 4 _ _ _ HD.out.st]
          rw [show dvCells d m vc vk = dvCells { d with off := false } m vc vk by rw [← ho]]
          rfl
        have HX := Lib.hid hx
        clear h hx h5 h6 h7
        go_enter Try.func43, Try.ntmps43
        go_wp2
        go_ret
        exact ⟨rfl, _, .inl rfl, HX.out, (Chg.setCell w g 4 _).imp fun k hk => .inl hk⟩
  · rw [if_neg (by intro h; exact hf h.1)]
    have hd1 : decide (0 < d.fuse) = false := decide_eq_false hf
    clear h h0 h1 h2 h5 h6 h7
    cases ho : d.off with
    | true =>
      rw [ho] at h3
      go_enter Try.func43, Try.ntmps43
      go_wp2
      go_ret
      exact ⟨rfl, _, .inl rfl, HD.out, Chg.refl _ _⟩
    | false =>
      rw [ho] at h3
      go_enter Try.func43, Try.ntmps43
      go_wp2
      go_ret
      exact ⟨rfl, _, .inl rfl, HD.out, Chg.refl _ _⟩
end Go.Proofs.Ytbpecfbliglboaa
