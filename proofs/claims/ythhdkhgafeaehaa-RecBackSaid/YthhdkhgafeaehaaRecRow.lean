/- Records one behind the other: how far Scan finds them in bytes that are cut; reading rows of records; a record in a box. -/
import Derived.Test.YthhdkhgafeaehaaRecPlain
import Derived.Test.YthhdkhgafeaehaaRecScan
namespace RecMath
set_option linter.unusedVariables false
set_option linter.unusedSimpArgs false
/-- the records' bytes, one behind the other, numbers from N on -/
def recs : Nat → List (List UInt8) → List UInt8
  | _, [] => []
  | N, l :: ls => recB N l ++ recs (N + 1) ls
theorem recs_snoc (N : Nat) (ls : List (List UInt8)) (x : List UInt8) : recs N (ls ++ [x]) = recs N ls ++ recB (N + ls.length) x := by
  induction ls generalizing N with
  | nil => simp [recs]
  | cons l ls ih =>
    rw [List.cons_append, recs, recs, ih, List.append_assoc, List.length_cons]
    rw [show N + 1 + ls.length = N + (ls.length + 1) by omega]
/-- how many bytes the first i take -/
def upto (ls : List (List UInt8)) (i : Nat) : Nat := (ls.take i).foldr (fun l n => 16 + l.length + n) 0
theorem recs_length (N : Nat) (ls : List (List UInt8)) : (recs N ls).length = ls.foldr (fun l n => 16 + l.length + n) 0 := by
  induction ls generalizing N with
  | nil => rfl
  | cons l ls ih => rw [recs, List.length_append, recB_length, ih]; rfl
theorem upto_cons (l : List UInt8) (ls : List (List UInt8)) (i : Nat) : upto (l :: ls) (i + 1) = 16 + l.length + upto ls i := rfl
theorem upto_zero (ls : List (List UInt8)) : upto ls 0 = 0 := rfl
theorem upto_succ (ls : List (List UInt8)) (i : Nat) (h : i < ls.length) : upto ls (i + 1) = upto ls i + (16 + ls[i].length) := by
  induction ls generalizing i with
  | nil => simp at h
  | cons l ls ih =>
    cases i with
    | zero => simp [upto_cons, upto_zero]
    | succ i =>
      rw [upto_cons, upto_cons, ih i (by simpa using h)]
      simp only [List.getElem_cons_succ]
      omega
/-- how many of the first i lie whole within cut bytes -/
def whole (ls : List (List UInt8)) (cut : Int) : Nat → Nat
  | 0 => 0
  | i + 1 => if (upto ls (i + 1) : Int) ≤ cut then i + 1 else whole ls cut i
theorem whole_spec (ls : List (List UInt8)) (cut : Nat) (i : Nat) : whole ls cut i ≤ i ∧ upto ls (whole ls cut i) ≤ cut ∧ (whole ls cut i = i ∨ cut < upto ls (whole ls cut i + 1)) := by
  induction i with
  | zero => exact ⟨Nat.le_refl _, by simp [whole, upto_zero], .inl rfl⟩
  | succ i ih =>
    rw [whole]
    split
    · rename_i h; exact ⟨Nat.le_refl _, by omega, .inl rfl⟩
    · rename_i h
      obtain ⟨h1, h2, h3⟩ := ih
      refine ⟨by omega, h2, ?_⟩
      rcases h3 with h3 | h3
      · right; rw [h3]; omega
      · exact .inr h3
/-- the records of the first W -/
def pairs : Nat → List (List UInt8) → List (Int × List UInt8)
  | _, [] => []
  | N, l :: ls => ((N : Int), l) :: pairs (N + 1) ls
theorem pairs_length (N : Nat) (ls : List (List UInt8)) : (pairs N ls).length = ls.length := by
  induction ls generalizing N with
  | nil => rfl
  | cons l ls ih => simp [pairs, ih]
theorem pairs_at (N : Nat) (ls : List (List UInt8)) (i : Nat) (h : i < ls.length) : (pairs N ls)[i]'(by rw [pairs_length]; exact h) = (((N + i : Nat) : Int), ls[i]) := by
  induction ls generalizing N i with
  | nil => simp at h
  | cons l ls ih =>
    cases i with
    | zero => rfl
    | succ i =>
      have := ih (N + 1) i (by simpa using h)
      simp only [pairs, List.getElem_cons_succ]
      rw [this, show N + 1 + i = N + (i + 1) by omega]
theorem scan_cut (ls : List (List UInt8)) (N W cut f : Nat) (h1 : 1 ≤ N) (hN : N + ls.length < 9223372036854775808) (hl : ∀ l ∈ ls, l.length ≤ 200000) (hW : W ≤ ls.length) (hc : upto ls W ≤ cut) (hn : W = ls.length ∨ cut < upto ls (W + 1)) (hf : ((recs N ls).take cut).length ≤ f) :
    scan f ((recs N ls).take cut) N = (pairs N (ls.take W), upto ls W) := by
  induction ls generalizing N W cut f with
  | nil =>
    have : W = 0 := by simpa using hW
    subst this
    simp [recs]
    exact scan_stop f [] N (.inl (get_nil_err [] (by simp)))
  | cons l ls ih =>
    have hll := hl l (List.mem_cons_self ..)
    have hrl : (recB N l).length = 16 + l.length := recB_length N l
    cases W with
    | zero =>
      rcases hn with hn | hn
      · simp at hn
      · rw [upto_cons, upto_zero] at hn
        rw [recs, List.take_append_of_le_length (by omega)]
        have hg := get_cut N l cut (by omega) hll
        rw [scan_stop f _ N (.inl (by rw [hg]; decide))]
        simp [pairs, upto_zero]
    | succ W =>
      rw [upto_cons] at hc
      have e1 : (recs N (l :: ls)).take cut = recB N l ++ (recs (N + 1) ls).take (cut - (16 + l.length)) := by
        rw [recs, List.take_append, hrl, List.take_of_length_le (by omega)]
      rw [e1] at hf ⊢
      have hg := get_recB N l ((recs (N + 1) ls).take (cut - (16 + l.length))) h1 (by simp at hN; omega) hll
      rw [scan_go f _ N (by rw [hg]; simp) hf, hg]
      dsimp only
      rw [List.drop_left' hrl]
      have := ih (N + 1) W (cut - (16 + l.length)) f (by omega) (by simp at hN; omega) (fun x hx => hl x (List.mem_cons_of_mem _ hx)) (by simpa using hW) (by omega)
        (by rcases hn with hn | hn
            · left; simpa using hn
            · right; rw [upto_cons] at hn; omega)
        (by rw [List.length_append] at hf; omega)
      rw [show ((N : Int) + 1) = ((N + 1 : Nat) : Int) by omega, this]
      rw [List.take_succ_cons, pairs, upto_cons]
theorem scan_len (f : Nat) (b : List UInt8) (first : Int) : (scan f b first).1.length ≤ f := by
  induction f generalizing b first with
  | zero => simp [scan]
  | succ f ih =>
    rw [scan]
    split
    · simp
    · simpa using ih _ _
end RecMath
namespace Go.Proofs.Ythhdkhgafeaehaa
open Go.RowKit
set_option linter.unusedVariables false
set_option linter.unusedSimpArgs false
/-- two cells in a box just made -/
theorem box2 (w : World) (a b : Value) (t : Nat) : ∃ W, W = w.alloc (.cells #[a, b] t) ∧ Below w.heap.size w W ∧ w.heap.size < W.heap.size ∧ ∀ W', Below W.heap.size W W' → W'.cell? ⟨w.heap.size, 0, none⟩ = some a ∧ W'.cell? ⟨w.heap.size, 1, none⟩ = some b := by
  refine ⟨_, rfl, (Below.refl _ w).alloc (Nat.le_refl _) _, by simp, fun W' h => ?_⟩
  have hh : (w.alloc (.cells #[a, b] t)).heap[w.heap.size]? = some (.cells #[a, b] t) := heap_new w _ _ rfl
  exact ⟨cell_below h (by rw [cell_of_row _ w.heap.size 0 _ _ _ hh]; rfl), cell_below h (by rw [cell_of_row _ w.heap.size 1 _ _ _ hh]; rfl)⟩
/-- a row of records is read -/
theorem Recs.rd {w : World} {base e : Nat} {v : Value} {rs : List (Int × List UInt8)} (h : Recs w base e v rs) :
    ∃ A c, v = .slice A rs.length c ∧ rs.length ≤ c ∧ ∀ i, (hi : i < rs.length) → ∃ g vb, A = some ⟨g, 0, none⟩ ∧ w.cell? ⟨g, i * 2, none⟩ = some (.int .i64 rs[i].1) ∧ w.cell? ⟨g, i * 2 + 1, none⟩ = some vb ∧ Sl w vb rs[i].2 := by
  obtain ⟨xs, ho, hC⟩ := h
  obtain ⟨hxl, hat⟩ := hC.at_
  rcases ho.2 with ⟨rfl, hn⟩ | ⟨g, cap, cur, rfl, hb, hh, hc, hm, hsz, htk⟩
  · exact ⟨none, 0, by rw [hn], by omega, fun i hi => by omega⟩
  · refine ⟨_, cap, rfl, hc, fun i hi => ?_⟩
    obtain ⟨vb, h1, h2, h3⟩ := hat i hi
    have ha : ∀ j, (⟨g, 0, none⟩ : Addr).add j = ⟨g, j, none⟩ := fun j => by unfold Addr.add; split <;> simp_all
    refine ⟨g, vb, rfl, ?_, ?_, h3⟩
    · have := World.ownsRow.cells (g := g) ho rfl (2 * i) _ h1
      rw [ha] at this
      rw [Nat.mul_comm]; exact this
    · have := World.ownsRow.cells (g := g) ho rfl (2 * i + 1) _ h2
      rw [ha] at this
      rw [Nat.mul_comm i 2]; exact this
end Go.Proofs.Ythhdkhgafeaehaa
