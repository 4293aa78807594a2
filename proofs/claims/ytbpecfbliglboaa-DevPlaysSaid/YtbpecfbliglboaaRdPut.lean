/- The reference's device: a sector is laid down. -/
import Derived.Test.YtbpecfbliglboaaRdRead
namespace Go.Proofs.Ytbpecfbliglboaa
open Go.RowKit Go.Maps
set_option linter.unusedVariables false
set_option linter.unusedSimpArgs false
theorem RdM.own {w : World} {B r : Nat} {rf : Int} {vs vl vk : Value} {d : DevMath.Dev} {ss : List ByteArray} {ws : List (Int × ByteArray)} (h : RdM w B r rf vs vl vk d ss ws) {ad : Addr} {n c : Nat} (hv : vs = .slice (some ad) n c) :
    ∃ g, ad = ⟨g, 0, none⟩ ∧ n = d.sectors ∧ w.ownsRow B 9 1 (.slice (some ⟨g, 0, none⟩) d.sectors c) d.sectors (svl ss) ∧ ∀ j, ad.add j = ⟨g, j, none⟩ := by
  have hs := h.sf
  rcases hs.2 with ⟨e, h0⟩ | ⟨g, cap, cur, e, h2, h3, h4, h5⟩
  · rw [e] at hv; cases hv
  · rw [e] at hv
    injection hv with e1 e2 e3
    injection e1 with e1
    subst e1; subst e2; subst e3
    refine ⟨g, rfl, rfl, ?_, fun j => by unfold Addr.add; split <;> simp_all⟩
    rw [← e]
    exact hs
theorem RdM.at {w : World} {B r : Nat} {rf : Int} {vs vl vk : Value} {d : DevMath.Dev} {ss : List ByteArray} {ws : List (Int × ByteArray)} (h : RdM w B r rf vs vl vk d ss ws) {ad : Addr} {n c : Nat} (hv : vs = .slice (some ad) n c) (p : Nat) (hp : p < ss.length) :
    w.cell? (ad.add p) = some (.string ss[p]) ∧ w.frozen? (ad.add p) = false := by
  obtain ⟨g, rfl, rfl, ho, ha⟩ := h.own hv
  rw [ha]
  refine ⟨?_, ho.frozenAt p⟩
  rw [ho.cellAt p (by rw [Nat.mul_one, ← h.sl]; exact hp)]
  simp [svl, hp]
theorem RdM.put {w : World} {B r : Nat} {rf : Int} {vs vl vk : Value} {d : DevMath.Dev} {ss : List ByteArray} {ws : List (Int × ByteArray)} (h : RdM w B r rf vs vl vk d ss ws) {ad : Addr} {n c : Nat} (hv : vs = .slice (some ad) n c) (p : Nat) (s2 : ByteArray) :
    RdM (w.setCell (ad.add p) (.string s2)) B r rf vs vl vk { d with safe := DevMath.put d.safe p s2.data.toList } (ss.set p s2) ws ∧ Chg (OwnR r vs) w (w.setCell (ad.add p) (.string s2)) := by
  obtain ⟨g, rfl, hn, ho, ha⟩ := h.own hv
  rw [ha]
  have hc := Chg.setCell w g p (.string s2)
  have hg : ∃ cur, w.heap[g]? = some (.cells cur 9) := by
    rcases ho.2 with ⟨e, _⟩ | ⟨g', cap, cur, e, _, h3, _⟩
    · cases e
    · injection e with e
      injection e with e
      injection e with e
      subst e
      exact ⟨_, h3⟩
  obtain ⟨cur, hg⟩ := hg
  have hty : ∀ {t : Nat} {k : Nat} {cs : Array Value} {fr : Nat × Nat}, t ≠ 9 → w.heap[k]? = some (.cells cs t fr) → k ≠ g := by
    intro t k cs fr ht hk e
    subst e
    rw [hg] at hk
    injection hk with hk
    injection hk with _ hk
    exact ht hk.symm
  have hst := (ho.stored p (.string s2)).1
  have hsv : (svl ss).set p (.string s2) = svl (ss.set p s2) := by simp [svl, List.map_set]
  rw [hsv] at hst
  refine ⟨⟨hc.heap h.st (hty (by decide) h.st), ?_, orow_stay h.ca (fun k cs fr hk => hc.heap hk (hty (by decide) hk)), h.ke.chg hc (fun k e cs fr hk => hty (by decide) hk e), by rw [List.length_set]; exact h.sl, fun i hi => ?_, h.cw, h.ff, h.rb, h.wf⟩, hc.imp fun k hk => .inr (by rw [hv, hk]; rfl)⟩
  · rw [hv, hn]
    exact hst
  · have hi2 : i < ss.length := by simpa using hi
    rw [List.getElem_set]
    unfold DevMath.Dev.sector DevMath.put
    dsimp only
    by_cases e : p = i
    · subst e
      rw [if_pos rfl, if_pos rfl]
      rfl
    · rw [if_neg e, if_neg (by omega)]
      exact h.se i hi2
theorem RdM.wr {w : World} {B r : Nat} {rf : Int} {vs vl vk : Value} {d : DevMath.Dev} {ss : List ByteArray} {ws : List (Int × ByteArray)} (h : RdM w B r rf vs vl vk d ss ws) {A : Option Addr} {n c : Nat} (hv : vl = .slice A n c) (p : Nat) (hp : p < ws.length) :
    ∃ a, A = some a ∧ w.cell? (a.add (p * 2)) = some (.int .i64 ws[p].1) ∧ w.cell? ⟨(a.add (p * 2)).block, (a.add (p * 2)).off + 1, none⟩ = some (.string ws[p].2) := by
  obtain ⟨A', c', e, h1, h2⟩ := h.vl
  rw [e] at hv
  injection hv with e1 e2 e3
  subst e1
  obtain ⟨a, e4, h3⟩ := h2 (by omega)
  exact ⟨a, e4, h3 p hp⟩
theorem RdM.cells {w : World} {B r : Nat} {rf : Int} {vs vl vk : Value} {d : DevMath.Dev} {ss : List ByteArray} {ws : List (Int × ByteArray)} (h : RdM w B r rf vs vl vk d ss ws) :
    w.cell? ⟨r, 0, none⟩ = some (.int .i64 d.sectors) ∧ w.cell? ⟨r, 1, none⟩ = some (.bool d.off) ∧ w.cell? ⟨r, 2, none⟩ = some vs ∧ w.cell? ⟨r, 3, none⟩ = some vl ∧ w.cell? ⟨r, 4, none⟩ = some (.int .i64 rf) ∧ w.cell? ⟨r, 5, none⟩ = some vk ∧ w.cell? ⟨r, 6, none⟩ = some (.int .i64 d.torn) ∧ ∀ i, w.frozen? ⟨r, i, none⟩ = false :=
  ⟨by rw [cell_of_row _ r 0 _ _ _ h.st]; rfl, by rw [cell_of_row _ r 1 _ _ _ h.st]; rfl, by rw [cell_of_row _ r 2 _ _ _ h.st]; rfl, by rw [cell_of_row _ r 3 _ _ _ h.st]; rfl, by rw [cell_of_row _ r 4 _ _ _ h.st]; rfl, by rw [cell_of_row _ r 5 _ _ _ h.st]; rfl, by rw [cell_of_row _ r 6 _ _ _ h.st]; rfl, fun i => frozen_of_row _ r i _ _ h.st⟩
end Go.Proofs.Ytbpecfbliglboaa
