/- A sector is made safe. -/
import Derived.Test.YtbpecfbliglboaaDev2
namespace Go.Proofs.Ytbpecfbliglboaa
open Go.RowKit Go.Maps
set_option linter.unusedVariables false
set_option linter.unusedSimpArgs false
theorem Safe.some_iff {w : World} {f : Int → Option Value} {s : Int → Option (List UInt8)} (h : Safe w f s) (k : Int) : (f k).isSome = (s k).isSome := by
  have := h k
  cases hs : s k with
  | none => rw [hs] at this; rw [this]; rfl
  | some l =>
    rw [hs] at this
    obtain ⟨v, h1, _⟩ := this
    rw [h1]; rfl
theorem DvM.put {w : World} {B g m : Nat} {vc vk : Value} {d : DevMath.Dev} (h : DvM w B g m vc vk d) (hn : d.sectors ≤ 8192) (at_ : Int) (h0 : 0 ≤ at_) (h1 : at_ < d.sectors) {v : Value} {l : List UInt8} (hs : Sl w v l) :
    ∃ w', (Instr.mapUpdate 68 (.map (some m)) (.int .i64 at_) v).run Try.prog w = .ok () w' ∧ DvM w' B g m vc vk { d with safe := DevMath.put d.safe at_ l } ∧ Chg (· = m) w w' := by
  obtain ⟨f, n, hm, hc, hsf⟩ := h.mp
  have wf : (Lit.int .i64 at_).wf = true := by simp [Lit.wf, IntKind.min, IntKind.max, IntKind.signed, IntKind.bits]; omega
  have hcnt := DevMath.cnt_le d.sectors (fun j => (d.safe j).isSome)
  obtain ⟨w', hrun, h2, h3⟩ := hm.update2 (by unfold maxLen; omega) at_ wf v
  have hch : Chg (· = m) w w' := ⟨h3.os, h3.tape, h3.output, h3.size, fun k hk hne => h3.block k hk (fun e => hne (by injection e))⟩
  have hn8 : ∀ t : Nat, t ≠ 71 → t ≠ 75 → ∀ k, k = m → ∀ cs fr, w.heap[k]? ≠ some (.cells cs t fr) := fun t ht ht2 k hk => h.not8 ht ht2 k (.inr (.inl hk))
  obtain ⟨es, clock, hblk⟩ := hm.blk
  have hgm : g ≠ m := by
    intro e
    have := h.st
    rw [e, hblk] at this
    injection this with this
    cases this
  refine ⟨w', hrun, ⟨hch.heap h.st hgm, ⟨_, _, h2, ?_, ?_⟩, ?_, h.ke.chg hch (hn8 _ (by decide) (by decide)), h.gb, h.mb⟩, hch⟩
  · have e := DevMath.cnt_set d.sectors at_.toNat (fun j => (d.safe j).isSome) (fun j => (DevMath.put d.safe at_ l j).isSome) (fun j hj => by
      show (if (j : Int) = at_ then some l else d.safe j).isSome = _
      rw [if_neg (by omega)]) (by omega) (by
      show (if ((at_.toNat : Nat) : Int) = at_ then some l else d.safe _).isSome = true
      rw [if_pos (by omega)]; rfl)
    show _ ≤ DevMath.cnt d.sectors (fun j => (DevMath.put d.safe at_ l j).isSome)
    rw [e, hsf.some_iff at_, show ((at_.toNat : Nat) : Int) = at_ by omega]
    split <;> omega
  · intro k
    show match (if k = at_ then some l else d.safe k) with | none => (if k = at_ then some v else f k) = none | some l' => ∃ v', (if k = at_ then some v else f k) = some v' ∧ Sl w' v' l'
    by_cases e : k = at_
    · rw [if_pos e, if_pos e]
      exact ⟨v, rfl, hs.chg hch (hn8 _ (by decide) (by decide))⟩
    · rw [if_neg e, if_neg e]
      exact (hsf.imp (fun v l hv => hv.chg hch (hn8 _ (by decide) (by decide)))) k
  · refine h.ca.chg hch (fun k hk e => ?_) (hn8 _ (by decide) (by decide))
    subst hk
    obtain ⟨_, _, cs, fr, hh⟩ := h.ca.lt e
    rw [hh] at hblk
    injection hblk with hblk
    cases hblk
/-- the struct's own cells turn, the cache is gone -/
theorem DvM.turn_nil {w w1 : World} {B g m : Nat} {vc vk : Value} {d d' : DevMath.Dev} (h : DvM w B g m vc vk d) (hst : w1.heap[g]? = some (.cells (dvCells d' m (.slice none 0 0) vk) 71)) (hc : Chg (· = g) w w1) (e1 : d'.safe = d.safe) (e2 : d'.cache = []) (e3 : d'.keep = d.keep) (e4 : d'.sectors = d.sectors) : DvM w1 B g m (.slice none 0 0) vk d' := by
  obtain ⟨f, n, h1, h2, h3⟩ := h.mp
  have hn8 : ∀ t : Nat, t ≠ 71 → t ≠ 75 → ∀ k, k = g → ∀ cs fr, w.heap[k]? ≠ some (.cells cs t fr) := fun t ht ht2 k hk => h.not8 ht ht2 k (.inl hk)
  refine ⟨hst, ⟨f, n, ?_, by rw [e1, e4]; exact h2, by rw [e1]; exact h3.imp fun _ _ h4 => h4.chg hc (hn8 _ (by decide) (by decide))⟩, by rw [e2]; exact Recs.nil _ _ _, ?_, h.gb, h.mb⟩
  · refine h1.kept (row := some g) ⟨hc.os, hc.tape, hc.output, hc.size, fun k hk hn => hc.block k hk (fun e => hn (by rw [e]))⟩ ?_
    intro e
    injection e with e
    obtain ⟨es, clock, hb⟩ := h1.blk
    have := h.st
    rw [← e, hb] at this
    injection this with this
    cases this
  · rw [e3]
    exact h.ke.chg hc (hn8 _ (by decide) (by decide))
end Go.Proofs.Ytbpecfbliglboaa
