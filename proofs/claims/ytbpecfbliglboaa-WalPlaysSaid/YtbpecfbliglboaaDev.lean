/- A device in memory; the small functions. -/
import Derived.Test.YtbpecfbliglboaaMp
import Derived.Test.YtbpecfbliglboaaRecs
import Derived.Test.YtbpecfbliglboaaDevMath
namespace Go.Proofs.Ytbpecfbliglboaa
open Go.RowKit Go.Maps
set_option linter.unusedVariables false
set_option linter.unusedSimpArgs false
/-- v is a slice of the numbers ks, in a row of numbers (or nil) -/
def IntV (w : World) (v : Value) (ks : List Int) : Prop := ∃ A c, v = .slice A ks.length c ∧ ks.length ≤ c ∧ (∀ a, A = some a → ∃ cs fr, w.heap[a.block]? = some (.cells cs 3 fr)) ∧
  (0 < ks.length → ∃ a, A = some a ∧ ∀ j, (h : j < ks.length) → w.cell? (a.add j) = some (.int .i64 ks[j]))
theorem IntV.nil (w : World) : IntV w (.slice none 0 0) [] := ⟨none, 0, rfl, Nat.le_refl _, (fun a h => by cases h), (fun h => absurd h (by simp))⟩
theorem IntV.chg {S : Nat → Prop} {w w1 : World} {v : Value} {ss : List Int} (h : IntV w v ss) (hc : Chg S w w1) (hS : ∀ k, S k → ∀ cs fr, w.heap[k]? ≠ some (.cells cs 3 fr)) : IntV w1 v ss := by
  obtain ⟨A, c, h1, h2, h3, h4⟩ := h
  have hne : ∀ a, A = some a → w1.heap[a.block]? = w.heap[a.block]? := fun a e => by
    obtain ⟨cs, fr, h5⟩ := h3 a e
    exact hc.block _ (Array.getElem?_eq_some_iff.1 h5).1 (fun hs => hS _ hs cs fr h5)
  refine ⟨A, c, h1, h2, fun a e => ?_, fun hp => ?_⟩
  · obtain ⟨cs, fr, h5⟩ := h3 a e
    exact ⟨cs, fr, (hne a e).trans h5⟩
  · obtain ⟨a, e, hc⟩ := h4 hp
    refine ⟨a, e, fun j hj => ?_⟩
    have h6 : (a.add j).block = a.block := by unfold Addr.add; split <;> rfl
    rw [World.cell?_of_block (w := w) (by rw [h6]; exact hne a e)]
    exact hc j hj
/-- v is a slice of the numbers ks, as it is read -/
def IntR (w : World) (v : Value) (ks : List Int) : Prop := ∃ A c, v = .slice A ks.length c ∧ ks.length ≤ c ∧ (0 < ks.length → ∃ a, A = some a ∧ ∀ j, (h : j < ks.length) → w.cell? (a.add j) = some (.int .i64 ks[j]))
theorem IntV.r {w : World} {v : Value} {ks : List Int} (h : IntV w v ks) : IntR w v ks := by
  obtain ⟨A, c, h1, h2, _, h3⟩ := h
  exact ⟨A, c, h1, h2, h3⟩
theorem IntR.below {w w1 : World} {v : Value} {ks : List Int} (h : IntR w v ks) (hb : Below w.heap.size w w1) : IntR w1 v ks := by
  obtain ⟨A, c, h1, h2, h3⟩ := h
  exact ⟨A, c, h1, h2, fun hp => by
    obtain ⟨a, e, hc⟩ := h3 hp
    exact ⟨a, e, fun j hj => cell_below hb (hc j hj)⟩⟩
/-- the struct's cells -/
def dvCells (d : DevMath.Dev) (m : Nat) (vc vk : Value) : Array Value := #[.int .i64 d.sectors, .map (some m), vc, .bool d.off, .int .i64 d.fuse, vk, .int .i64 d.torn]
/-- the safe sectors, as the map holds them -/
def Safe (w : World) (f : Int → Option Value) (s : Int → Option (List UInt8)) : Prop := ∀ k, match s k with | none => f k = none | some l => ∃ v, f k = some v ∧ Sl w v l
/-- A device in memory, its own blocks from B on. -/
structure DvM (w : World) (B g m : Nat) (vc vk : Value) (d : DevMath.Dev) : Prop where
  st : w.heap[g]? = some (.cells (dvCells d m vc vk) 71)
  mp : ∃ f n, Mp w m n f ∧ n ≤ DevMath.cnt d.sectors (fun j => (d.safe j).isSome) ∧ Safe w f d.safe
  ca : Recs w B 75 vc d.cache
  ke : IntV w vk d.keep
  gb : B ≤ g
  mb : B ≤ m
/-- what a device of the program is like -/
structure DvI (d : DevMath.Dev) : Prop where
  n1 : d.sectors ≤ 8192
  sf : ∀ k l, d.safe k = some l → 0 ≤ k ∧ k < d.sectors ∧ l.length = 512
  cf : ∀ r ∈ d.cache, 0 ≤ r.1 ∧ r.1 < d.sectors ∧ r.2.length = 512
  f0 : 0 ≤ d.fuse
  f1 : d.fuse ≤ 9223372036854775807
  t0 : (Lit.int .i64 d.torn).wf = true
/-- the device's own blocks -/
def Own (g m : Nat) (vc : Value) (k : Nat) : Prop := k = g ∨ k = m ∨ some k = vc.ownBlock
theorem Recs.lt {w : World} {B e : Nat} {v : Value} {rs : List (Int × List UInt8)} (h : Recs w B e v rs) {k : Nat} (hk : some k = v.ownBlock) : k < w.heap.size ∧ B ≤ k ∧ ∃ cs fr, w.heap[k]? = some (.cells cs e fr) := by
  obtain ⟨xs, ho, _⟩ := h
  rcases ho.2 with ⟨rfl, _⟩ | ⟨g, cap, cur, rfl, hb, hh, _⟩
  · simp [Value.ownBlock] at hk
  · simp [Value.ownBlock] at hk
    subst hk
    exact ⟨(Array.getElem?_eq_some_iff.1 hh).1, hb, _, _, hh⟩
theorem Mp.blk {w : World} {b n : Nat} {f : Int → Option Value} (h : Mp w b n f) : ∃ es clock, w.heap[b]? = some (.map es clock) := by
  obtain ⟨D, ⟨es, clock, hb, _⟩, _⟩ := h
  exact ⟨es, clock, hb⟩
/-- none of them holds bytes or numbers -/
theorem DvM.not8 {w : World} {B g m : Nat} {vc vk : Value} {d : DevMath.Dev} (h : DvM w B g m vc vk d) {t : Nat} (ht : t ≠ 71) (ht2 : t ≠ 75) : ∀ k, Own g m vc k → ∀ cs fr, w.heap[k]? ≠ some (.cells cs t fr) := by
  intro k hk cs fr h1
  rcases hk with rfl | rfl | hk
  · rw [h.st] at h1
    injection h1 with h1
    injection h1 with _ h1
    exact ht h1.symm
  · obtain ⟨f, n, hm, _⟩ := h.mp
    obtain ⟨es, clock, hb⟩ := hm.blk
    rw [hb] at h1
    injection h1 with h1
    cases h1
  · obtain ⟨_, _, cs', fr', h2⟩ := h.ca.lt hk
    rw [h2] at h1
    injection h1 with h1
    injection h1 with _ h1
    exact ht2 h1.symm
theorem DvM.lt {w : World} {B g m : Nat} {vc vk : Value} {d : DevMath.Dev} (h : DvM w B g m vc vk d) : ∀ k, Own g m vc k → k < w.heap.size ∧ B ≤ k := by
  intro k hk
  rcases hk with rfl | rfl | hk
  · exact ⟨(Array.getElem?_eq_some_iff.1 h.st).1, h.gb⟩
  · obtain ⟨f, n, hm, _⟩ := h.mp
    exact ⟨hm.lt, h.mb⟩
  · exact ⟨(h.ca.lt hk).1, (h.ca.lt hk).2.1⟩
theorem Safe.imp {w w1 : World} {f : Int → Option Value} {s : Int → Option (List UInt8)} (h : Safe w f s) (hi : ∀ v l, Sl w v l → Sl w1 v l) : Safe w1 f s := by
  intro k
  have := h k
  cases hs : s k with
  | none => rw [hs] at this; exact this
  | some l =>
    rw [hs] at this
    obtain ⟨v, h1, h2⟩ := this
    exact ⟨v, h1, hi _ _ h2⟩
theorem Mp.below {w w1 : World} {b n : Nat} {f : Int → Option Value} (h : Mp w b n f) (hb : Below w.heap.size w w1) : Mp w1 b n f :=
  h.kept (row := none) ⟨hb.os, hb.tape, hb.output, hb.size, fun k hk _ => hb.block k hk⟩ (by simp)
theorem DvM.below {w w1 : World} {B g m : Nat} {vc vk : Value} {d : DevMath.Dev} (h : DvM w B g m vc vk d) (hb : Below w.heap.size w w1) : DvM w1 B g m vc vk d := by
  obtain ⟨f, n, h1, h2, h3⟩ := h.mp
  exact ⟨(Chg.of_below (S := fun _ => False) hb).heap h.st (by simp), ⟨f, n, h1.below hb, h2, h3.imp fun _ _ h => h.below hb⟩, h.ca.below hb, h.ke.chg (Chg.of_below (S := fun _ => False) hb) (fun _ h => h.elim), h.gb, h.mb⟩
/-- what a walk reads of the struct -/
theorem DvM.cells {w : World} {B g m : Nat} {vc vk : Value} {d : DevMath.Dev} (h : DvM w B g m vc vk d) : w.cell? ⟨g, 0, none⟩ = some (.int .i64 d.sectors) ∧ w.cell? ⟨g, 1, none⟩ = some (.map (some m)) ∧ w.cell? ⟨g, 2, none⟩ = some vc ∧ w.cell? ⟨g, 3, none⟩ = some (.bool d.off) ∧
    w.cell? ⟨g, 4, none⟩ = some (.int .i64 d.fuse) ∧ w.cell? ⟨g, 5, none⟩ = some vk ∧ w.cell? ⟨g, 6, none⟩ = some (.int .i64 d.torn) ∧ (∀ i, w.frozen? ⟨g, i, none⟩ = false) :=
  ⟨by rw [cell_of_row w g 0 _ _ _ h.st]; rfl, by rw [cell_of_row w g 1 _ _ _ h.st]; rfl, by rw [cell_of_row w g 2 _ _ _ h.st]; rfl, by rw [cell_of_row w g 3 _ _ _ h.st]; rfl, by rw [cell_of_row w g 4 _ _ _ h.st]; rfl, by rw [cell_of_row w g 5 _ _ _ h.st]; rfl, by rw [cell_of_row w g 6 _ _ _ h.st]; rfl, fun i => frozen_of_row w g i _ _ h.st⟩
theorem off_any (w : World) (B g m : Nat) (vc vk : Value) (d : DevMath.Dev) (h : DvM w B g m vc vk d) : Calls Try.prog 23 #[.pointer (some ⟨g, 0, none⟩)] w fun e w' => e = .returned (.bool d.off) ∧ w' = w := by
  obtain ⟨h0, h1, h2, h3, h4, h5, h6, h7⟩ := h.cells
  clear h h1 h2 h5
  go_enter Try.func23, Try.ntmps23
  go_wp2
  go_ret
  exact ⟨rfl, rfl⟩
theorem sectors_any (w : World) (B g m : Nat) (vc vk : Value) (d : DevMath.Dev) (h : DvM w B g m vc vk d) : Calls Try.prog 24 #[.pointer (some ⟨g, 0, none⟩)] w fun e w' => e = .returned (.int .i64 d.sectors) ∧ w' = w := by
  obtain ⟨h0, h1, h2, h3, h4, h5, h6, h7⟩ := h.cells
  clear h h1 h2 h5
  go_enter Try.func24, Try.ntmps24
  go_wp2
  go_ret
  exact ⟨rfl, rfl⟩
theorem Recs.shape {w : World} {B e : Nat} {v : Value} {rs : List (Int × List UInt8)} (h : Recs w B e v rs) : ∃ A c, v = .slice A rs.length c ∧ rs.length ≤ c := by
  obtain ⟨A, c, h1, h2, _⟩ := h.rd
  exact ⟨A, c, h1, h2⟩
theorem unsafe_any (w : World) (B g m : Nat) (vc vk : Value) (d : DevMath.Dev) (h : DvM w B g m vc vk d) : Calls Try.prog 21 #[.pointer (some ⟨g, 0, none⟩)] w fun e w' => e = .returned (.int .i64 d.cache.length) ∧ w' = w := by
  obtain ⟨h0, h1, h2, h3, h4, h5, h6, h7⟩ := h.cells
  obtain ⟨A, c, rfl, hc⟩ := h.ca.shape
  clear h h1 h5
  go_enter Try.func21, Try.ntmps21
  go_wp2
  go_ret
  exact ⟨rfl, rfl⟩
theorem has_any (w : World) (B g m : Nat) (vc vk : Value) (d : DevMath.Dev) (h : DvM w B g m vc vk d) (at_ : Int) : Calls Try.prog 42 #[.pointer (some ⟨g, 0, none⟩), .int .i64 at_] w fun e w' => e = .returned (.bool (d.has at_)) ∧ w' = w := by
  obtain ⟨h0, h1, h2, h3, h4, h5, h6, h7⟩ := h.cells
  unfold DevMath.Dev.has
  clear h h1 h2 h5
  by_cases hp : 0 ≤ at_
  · have hd : decide (0 ≤ at_) = true := decide_eq_true hp
    go_enter Try.func42, Try.ntmps42
    go_wp2
    go_ret
    exact ⟨by simp [hp], rfl⟩
  · have hd : decide (0 ≤ at_) = false := decide_eq_false hp
    go_enter Try.func42, Try.ntmps42
    go_wp2
    go_ret
    exact ⟨by simp [hp], rfl⟩
end Go.Proofs.Ytbpecfbliglboaa
