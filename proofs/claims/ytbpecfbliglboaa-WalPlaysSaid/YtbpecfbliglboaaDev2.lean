/- New, On, sector; the law's sector. -/
import Derived.Test.YtbpecfbliglboaaDev
import Derived.Maps.OwnOps
namespace Go.Proofs.Ytbpecfbliglboaa
open Go.RowKit Go.Maps
set_option linter.unusedVariables false
set_option linter.unusedSimpArgs false
theorem Recs.chg {S : Nat → Prop} {w w1 : World} {B e : Nat} {v : Value} {rs : List (Int × List UInt8)} (h : Recs w B e v rs) (hc : Chg S w w1) (hv : ∀ k, S k → some k ≠ v.ownBlock) (hS : ∀ k, S k → ∀ cs fr, w.heap[k]? ≠ some (.cells cs 5 fr)) : Recs w1 B e v rs := by
  obtain ⟨xs, h1, h2⟩ := h
  refine ⟨xs, ?_, h2.imp fun _ _ h => h.chg hc hS⟩
  rcases h1 with ⟨h1, h3⟩
  refine ⟨h1, ?_⟩
  rcases h3 with h3 | ⟨g, cap, cur, rfl, hb, hh, hr⟩
  · exact .inl h3
  · exact .inr ⟨g, cap, cur, rfl, hb, hc.heap hh (fun hs => hv g hs rfl), hr⟩
/-- the struct's own cells turn, nothing else -/
theorem DvM.turn {w w1 : World} {B g m : Nat} {vc vk : Value} {d d' : DevMath.Dev} (h : DvM w B g m vc vk d) (hst : w1.heap[g]? = some (.cells (dvCells d' m vc vk) 71)) (hc : Chg (· = g) w w1) (e1 : d'.safe = d.safe) (e2 : d'.cache = d.cache) (e3 : d'.keep = d.keep) (e4 : d'.sectors = d.sectors) : DvM w1 B g m vc vk d' := by
  obtain ⟨f, n, h1, h2, h3⟩ := h.mp
  have hn8 : ∀ t : Nat, t ≠ 71 → t ≠ 75 → ∀ k, k = g → ∀ cs fr, w.heap[k]? ≠ some (.cells cs t fr) := fun t ht ht2 k hk => h.not8 ht ht2 k (.inl hk)
  refine ⟨hst, ⟨f, n, ?_, by rw [e1, e4]; exact h2, by rw [e1]; exact h3.imp fun _ _ h4 => h4.chg hc (hn8 _ (by decide) (by decide))⟩, ?_, ?_, h.gb, h.mb⟩
  · refine h1.kept (row := some g) ⟨hc.os, hc.tape, hc.output, hc.size, fun k hk hn => hc.block k hk (fun e => hn (by rw [e]))⟩ ?_
    intro e
    injection e with e
    obtain ⟨es, clock, hb⟩ := h1.blk
    have := h.st
    rw [← e, hb] at this
    injection this with this
    cases this
  · rw [e2]
    refine h.ca.chg hc (fun k hk e => ?_) (hn8 _ (by decide) (by decide))
    subst hk
    obtain ⟨_, _, cs, fr, hh⟩ := h.ca.lt e
    have := h.st
    rw [hh] at this
    injection this with this
    injection this with _ this
    revert this; decide
  · rw [e3]
    exact h.ke.chg hc (hn8 _ (by decide) (by decide))
theorem on_any (w : World) (B g m : Nat) (vc vk : Value) (d : DevMath.Dev) (h : DvM w B g m vc vk d) : Calls Try.prog 20 #[.pointer (some ⟨g, 0, none⟩)] w fun e w' => e = .returned (.tuple #[]) ∧ DvM w' B g m vc vk { d with off := false } ∧ Chg (Own g m vc) w w' := by
  obtain ⟨h0, h1, h2, h3, h4, h5, h6, h7⟩ := h.cells
  have hf := h7 3
  have HD := Lib.hid h
  clear h h1 h2 h5 h7
  go_enter Try.func20, Try.ntmps20
  go_wp2
  go_end0
  have hc : Chg (· = g) w (w.setCell ⟨g, 3, none⟩ (.bool false)) := Chg.setCell w g 3 _
  exact ⟨rfl, HD.out.turn (heap_setCell_same w g 3 _ _ _ HD.out.st) hc rfl rfl rfl rfl, hc.imp fun k hk => .inl hk⟩
theorem new_any (w : World) (n : Nat) (h1 : 1 ≤ n) (h2 : n ≤ 8192) : Calls Try.prog 14 #[.int .i64 n] w fun e w' => e = .returned (.tuple #[.pointer (some ⟨w.heap.size + 1, 0, none⟩), .int .i64 0]) ∧ DvM w' w.heap.size (w.heap.size + 1) w.heap.size (.slice none 0 0) (.slice none 0 0) (DevMath.Dev.new n) ∧ Below w.heap.size w w' := by
  have hmm := @run_makeMap Try.prog
  go_enter Try.func14, Try.ntmps14
  go_wp2
  go_ret2
  have hb : Below w.heap.size w (w.alloc (.map #[] 0)) := (Below.refl _ w).alloc (Nat.le_refl _) _
  refine ⟨rfl, ⟨?_, ⟨fun _ => none, 0, ?_, Nat.zero_le _, fun k => rfl⟩, Recs.nil _ _ _, IntV.nil _, by omega, Nat.le_refl _⟩, hb.alloc (by simp) _⟩
  · exact heap_new _ _ _ (by simp)
  · exact (Mp.made w).below ((Below.refl _ _).alloc (Nat.le_refl _) _)
theorem new_bad (w : World) (n : Int) (h : n < 1 ∨ 8192 < n) : Calls Try.prog 14 #[.int .i64 n] w fun e w' => e = .returned (.tuple #[.pointer none, .int .i64 1]) ∧ w' = w := by
  by_cases h1 : n < 1
  · clear h
    go_enter Try.func14, Try.ntmps14
    go_wp2
    go_ret2
    exact ⟨rfl, rfl⟩
  · have h2 : 8192 < n := by omega
    clear h
    go_enter Try.func14, Try.ntmps14
    go_wp2
    go_ret2
    exact ⟨rfl, rfl⟩
theorem info_u8 : (Try.prog.info? 5).map (fun i => (i.zero, i.size, i.bytes)) = some (some (.int .u8 0), 1, 1) := by kernel_rfl
/-- a safe sector, or noughts -/
theorem sector_any (w : World) (B g m : Nat) (vc vk : Value) (d : DevMath.Dev) (h : DvM w B g m vc vk d) (at_ : Int) (wf : (Lit.int .i64 at_).wf = true) :
    Calls Try.prog 46 #[.pointer (some ⟨g, 0, none⟩), .int .i64 at_] w fun e w' => ∃ v, e = .returned v ∧ Sl w' v (d.sector at_) ∧ Below w.heap.size w w' := by
  obtain ⟨h0, h1, h2, h3, h4, h5, h6, h7⟩ := h.cells
  obtain ⟨f, n, hm, hn, hs⟩ := h.mp
  have hlook := hm.look at_ wf
  have hsa := hs at_
  unfold DevMath.Dev.sector
  cases hk : d.safe at_ with
  | none =>
    rw [hk] at hsa
    replace hsa : f at_ = none := hsa
    rw [hsa] at hlook
    simp only [Option.getD_none, Option.isSome_none] at hlook
    obtain ⟨mc, hmc⟩ : ∃ mc, mc = madeCells #[.int .u8 0] 512 := ⟨_, rfl⟩
    have hmk : ∀ W : World, (Instr.makeSlice 33 (.int .i64 512) (.int .i64 512)).run Try.prog W = .ok (.slice (some ⟨W.heap.size, 0, none⟩) 512 512) (W.alloc (.cells mc 5)) := by
      intro W
      rw [hmc]
      exact make_bytes (P := Try.prog) 33 5 Try.underlying33 info_u8 512 (by decide) W
    have HMC := Lib.hid hmc
    clear h h0 h2 h3 h4 h5 h6 h7 hm hn hs hsa hmc
    go_enter Try.func46, Try.ntmps46
    go_wp2
    go_ret
    have hM := Mb.made w 5 512 (by decide)
    rw [← HMC.out] at hM
    have hb : Below w.heap.size w (w.alloc (.cells mc 5)) := (Below.refl _ w).alloc (Nat.le_refl _) _
    have hz : ((none : Option (List UInt8)).getD DevMath.zeros) = List.replicate 512 0 := rfl
    have hlen : (List.replicate 512 (0 : UInt8)).length = 512 := List.length_replicate
    rw [hz]
    refine ⟨.slice (some ⟨w.heap.size, 0, none⟩) 512 512, rfl, ⟨_, 512, by rw [hlen], by rw [hlen]; exact Nat.le_refl _, hM.rd, fun a e => ?_⟩, hb⟩
    injection e with e
    subst e
    exact ⟨_, _, heap_new _ _ _ rfl⟩
  | some l =>
    rw [hk] at hsa
    obtain ⟨v, hf, hsl⟩ := hsa
    rw [hf] at hlook
    simp only [Option.getD_some, Option.isSome_some] at hlook
    have HS := Lib.hid hsl
    clear h h0 h2 h3 h4 h5 h6 h7 hm hn hs hsl hf
    go_enter Try.func46, Try.ntmps46
    go_wp2
    go_ret
    exact ⟨_, rfl, HS.out, Below.refl _ _⟩
end Go.Proofs.Ytbpecfbliglboaa
