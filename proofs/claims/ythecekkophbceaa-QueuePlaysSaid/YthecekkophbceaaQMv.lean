/- QueuePlays: Move, as the law's regions see it. -/
import Derived.Test.YthecekkophbceaaQApp
import Derived.Test.YthecekkophbceaaQMove
namespace Go.Proofs.Ythecekkophbceaa
open Go.RowKit Go.Conc
set_option linter.unusedVariables false
set_option linter.unusedSimpArgs false
theorem moved_no {w W : World} {gq gw gc : Nat} {g ch : Nat → Nat} {room : Nat} {ls : Nat → List ByteArray} {cl : Nat → Bool} (h : Mid w W gq gw gc g ch room ls cl ls cl) (hD : Dst w.heap.size g ch) (q to : Nat) (hq : q < 3) (ht : to < 3) (hno : ¬ (q ≠ to ∧ 0 < (ls q).length ∧ (ls to).length < room ∧ cl to = false)) :
    Calls Try.prog 15 #[.pointer (some ⟨g q, 0, none⟩), .pointer (some ⟨g to, 0, none⟩)] W fun e w' => e = .returned (.bool false) ∧ Below W.heap.size W w' := by
  by_cases hqt : q = to
  · subst hqt
    exact move_self W (g q)
  · have hne := hD.gi q to hq ht hqt
    have h1 := h.q q hq
    have h2 := h.q to ht
    cases hl : ls q with
    | nil =>
      rw [hl] at h1
      exact move_none W _ _ _ _ _ _ _ _ _ h1 h2 hne
    | cons s rest =>
      have hp : 0 < (ls q).length := by rw [hl]; simp
      cases hc : cl to with
      | true =>
        rw [hc] at h2
        exact move_closed W _ _ _ _ _ _ (bys (ls q)).length _ _ _ h1 h2 hne rfl (by rw [bys_length]; exact hp)
      | false =>
        rw [hc] at h2
        have hfull : ¬ (ls to).length < room := fun hlt => hno ⟨hqt, hp, hlt, hc⟩
        have hle := (h.l to ht).1
        have he : room = (bys (ls to)).length := by rw [bys_length]; omega
        exact move_full W _ _ _ _ _ (bys (ls q)).length room _ _ _ h1 h2 hne rfl (by rw [bys_length]; exact hp) he
theorem moved_no_rel {w W : World} {gq gw gc : Nat} {g ch : Nat → Nat} {room : Nat} {ls : Nat → List ByteArray} {cl : Nat → Bool} (h : Mid w W gq gw gc g ch room ls cl ls cl) (hD : Dst w.heap.size g ch) (q to : Nat) (hq : q < 3) (ht : to < 3) (hno : ¬ (q ≠ to ∧ 0 < (ls q).length ∧ (ls to).length < room ∧ cl to = false)) (gp gt : Nat) (hg : gp = g q) (hgt : gt = g to) :
    Calls Try.prog 15 #[.pointer (some ⟨gp, 0, none⟩), .pointer (some ⟨gt, 0, none⟩)] W fun e w' => ∃ v, e = .returned v ∧ TQ w.heap.size W w' ∧ (v = .bool false ∧ True) ∧ Mid w w' gq gw gc g ch room ls cl ls cl := by
  subst hg; subst hgt
  refine (moved_no h hD q to hq ht hno).mono ?_
  rintro e w1 ⟨rfl, hb⟩
  exact ⟨_, rfl, Gb.tq _ _ ⟨hb, h.b.size⟩, ⟨rfl, trivial⟩, h.below hb⟩
theorem moved_yes_rel {w W : World} {gq gw gc : Nat} {g ch : Nat → Nat} {room : Nat} {ls : Nat → List ByteArray} {cl : Nat → Bool} (h : Mid w W gq gw gc g ch room ls cl ls cl) (hD : Dst w.heap.size g ch) (q to : Nat) (hq : q < 3) (ht : to < 3) (hqt : q ≠ to) (s1 : ByteArray) (rest : List ByteArray) (hl : ls q = s1 :: rest) (hlt : (ls to).length < room) (hc : cl to = false) (gp gt : Nat) (hg : gp = g q) (hgt : gt = g to) :
    Calls Try.prog 15 #[.pointer (some ⟨gp, 0, none⟩), .pointer (some ⟨gt, 0, none⟩)] W fun e w' => ∃ v, e = .returned v ∧ TQ w.heap.size W w' ∧ (v = .bool true ∧ True) ∧ Mid w w' gq gw gc g ch room (upq (upq ls q rest) to (ls to ++ [s1])) cl ls cl := by
  subst hg; subst hgt
  have h1 := h.q q hq
  have h2 := h.q to ht
  rw [hl] at h1
  rw [hc] at h2
  have hs1 : s1.size ≤ 100 := (h.l q hq).2 s1 (by rw [hl]; exact List.mem_cons_self ..)
  have hsz : s1.data.toList.length = s1.size := by rw [Array.length_toList]; rfl
  refine (move_yes W _ _ _ _ _ _ ((bys rest).length + 1) (bys (ls to)).length s1.data.toList (bys rest) (bys (ls to)) (cl q) h1 h2 (hD.gi q to hq ht hqt) rfl rfl (by rw [bys_length]; exact hlt) (hD.ci q to hq ht hqt) (by rw [hsz]; omega)).mono ?_
  rintro e w1 ⟨rfl, k1, k2, k3⟩
  have hS : ∀ k, (k = ch q ∨ k = ch to) → ∃ i, i < 3 ∧ (k = g i ∨ k = ch i) := fun k hk => by
    rcases hk with e | e
    · exact ⟨q, hq, .inr e⟩
    · exact ⟨to, ht, .inr e⟩
  refine ⟨_, rfl, h.tq hD k3 hS, ⟨rfl, trivial⟩, h.turn hD k3 hS (fun i hi => ?_) (fun i hi => ?_)⟩
  · by_cases e1 : i = to
    · subst e1
      rw [upq_same, hc]
      simpa [bys] using k2
    · rw [upq_other _ _ _ _ e1]
      by_cases e2 : i = q
      · subst e2
        rw [upq_same]; exact k1
      · rw [upq_other _ _ _ _ e2]
        obtain ⟨⟨cs, fr, p1⟩, p2⟩ := (h.q i hi).obj
        have o1 := (h.q q hq).obj.2
        have o2 := (h.q to ht).obj.2
        refine (h.q i hi).chg k3 (fun hs => ?_) (fun hs => ?_) (fun k hk cs'' fr'' e3 => ?_)
        · rcases hs with e3 | e3
          · exact o1 _ _ _ (by rw [← e3]; exact p1)
          · exact o2 _ _ _ (by rw [← e3]; exact p1)
        · rcases hs with e3 | e3
          · exact hD.ci i q hi hq e2 e3
          · exact hD.ci i to hi ht e1 e3
        · rcases hk with e4 | e4
          · rw [e4] at e3; exact o1 _ _ _ e3
          · rw [e4] at e3; exact o2 _ _ _ e3
  · by_cases e1 : i = to
    · subst e1
      rw [upq_same]
      refine ⟨by simp; omega, fun x hx => ?_⟩
      simp only [List.mem_append, List.mem_singleton] at hx
      rcases hx with hx | rfl
      · exact (h.l i hi).2 x hx
      · exact hs1
    · rw [upq_other _ _ _ _ e1]
      by_cases e2 : i = q
      · subst e2
        rw [upq_same]
        have := h.l i hi
        rw [hl] at this
        exact ⟨by have := this.1; simp at this; omega, fun x hx => this.2 x (List.mem_cons_of_mem _ hx)⟩
      · rw [upq_other _ _ _ _ e2]; exact h.l i hi
end Go.Proofs.Ythecekkophbceaa
