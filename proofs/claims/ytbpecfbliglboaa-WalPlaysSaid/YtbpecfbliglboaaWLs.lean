/- wal: rows of slices of bytes of the log's own; the log's state in memory. -/
import Derived.Test.YtbpecfbliglboaaWNum
import Derived.Test.YtbpecfbliglboaaRecs
namespace Go.Proofs.Ytbpecfbliglboaa
open Go.RowKit Go.Maps
set_option linter.unusedVariables false
set_option linter.unusedSimpArgs false
def BsC (w : World) : List Value → List (List UInt8) → Prop
  | xs, [] => xs = []
  | xs, r :: rs => ∃ vb t, xs = vb :: t ∧ Sl w vb r ∧ BsC w t rs
theorem BsC.snoc {w : World} {xs : List Value} {rs : List (List UInt8)} (h : BsC w xs rs) {vb : Value} {l : List UInt8} (hb : Sl w vb l) : BsC w (xs ++ [vb]) (rs ++ [l]) := by
  induction rs generalizing xs with
  | nil => cases h; exact ⟨vb, [], rfl, hb, rfl⟩
  | cons r rs ih =>
    obtain ⟨v, t, rfl, h1, h2⟩ := h
    exact ⟨v, t ++ [vb], rfl, h1, ih h2⟩
theorem BsC.imp {w w1 : World} {xs : List Value} {rs : List (List UInt8)} (h : BsC w xs rs) (hi : ∀ v l, Sl w v l → Sl w1 v l) : BsC w1 xs rs := by
  induction rs generalizing xs with
  | nil => exact h
  | cons r rs ih =>
    obtain ⟨v, t, rfl, h1, h2⟩ := h
    exact ⟨v, t, rfl, hi _ _ h1, ih h2⟩
theorem BsC.at_ {w : World} {xs : List Value} {rs : List (List UInt8)} (h : BsC w xs rs) : xs.length = rs.length ∧ ∀ i, (hi : i < rs.length) → ∃ vb, xs[i]? = some vb ∧ Sl w vb rs[i] := by
  induction rs generalizing xs with
  | nil => cases h; exact ⟨rfl, fun i hi => absurd hi (by simp)⟩
  | cons r rs ih =>
    obtain ⟨v, t, rfl, h1, h2⟩ := h
    obtain ⟨h3, h4⟩ := ih h2
    refine ⟨by simp [h3], fun i hi => ?_⟩
    cases i with
    | zero => exact ⟨v, rfl, h1⟩
    | succ i =>
      obtain ⟨vb, h5, h7⟩ := h4 i (by simpa using hi)
      exact ⟨vb, by simpa using h5, by simpa using h7⟩
/-- a slice of slices of bytes of the log's own -/
def Bsr (w : World) (base : Nat) (v : Value) (rs : List (List UInt8)) : Prop := ∃ xs, w.ownsRow base 33 1 v rs.length xs ∧ BsC w xs rs ∧ (rs = [] → v = .slice none 0 0)
theorem Bsr.nil (w : World) (base : Nat) : Bsr w base (.slice none 0 0) [] := ⟨[], ⟨rfl, .inl ⟨rfl, rfl⟩⟩, rfl, fun _ => rfl⟩
theorem Bsr.below {w w1 : World} {base : Nat} {v : Value} {rs : List (List UInt8)} (h : Bsr w base v rs) (hb : Below w.heap.size w w1) : Bsr w1 base v rs := by
  obtain ⟨xs, h1, h2, h3⟩ := h
  exact ⟨xs, World.ownsRow.kept h1 ⟨hb.os, hb.tape, hb.output, hb.size, fun k hk _ => hb.block k hk⟩ (row := none) (by cases v.ownBlock <;> simp), h2.imp (fun _ _ h => h.below hb), h3⟩
theorem Bsr.tk {w w1 : World} {base : Nat} {v : Value} {rs : List (List UInt8)} (h : Bsr w base v rs) (ht : TK w w1) : Bsr w1 base v rs := by
  obtain ⟨xs, h1, h2, h3⟩ := h
  refine ⟨xs, ⟨h1.1, ?_⟩, h2.imp (fun _ _ h => ht.sl h), h3⟩
  rcases h1.2 with h | ⟨g, cap, cur, hv, hb, hh, hr⟩
  · exact .inl h
  · exact .inr ⟨g, cap, cur, hv, hb, ht _ _ _ _ (by decide) (by decide) hh, hr⟩
theorem info_bs : (Try.prog.info? 33).map (fun i => (i.zero, i.size, i.bytes)) = some (some (.slice none 0 0), 1, 24) := by kernel_rfl
/-- append of one slice: its run -/
theorem bsr_app {W : World} {base : Nat} {v vb : Value} {rs : List (List UInt8)} {l : List UInt8} {gg : Nat} (HO : Bsr W base v rs) (hb : Sl W vb l) (hg : W.heap[gg]? = some (.cells #[vb] 33)) (hB : base ≤ W.heap.size) (hlen : rs.length ≤ 1000000000) :
    ∃ v' W', (Builtin.append_ #[53, 53] 53 #[v, .slice (some ⟨gg, 0, none⟩) 1 1]).run Try.prog W = .ok v' W' ∧ Bsr W' base v' (rs ++ [l]) ∧ Below base W W' ∧ W.grownBy W' v.ownBlock ∧ (v'.ownBlock = v.ownBlock ∨ ∃ b, v'.ownBlock = some b ∧ W.heap.size ≤ b) := by
  obtain ⟨xs, hO, hC, _⟩ := HO
  obtain ⟨i0, hi, hzz⟩ := Option.map_eq_some_iff.1 info_bs
  simp only [Prod.mk.injEq] at hzz
  have hone : ∀ u ∈ [vb], u.oneCell' = true := by
    intro u hu
    simp at hu
    subst hu
    obtain ⟨A, c, rfl, _⟩ := hb.rd
    rfl
  have hsrc : Src W (some ⟨gg, 0, none⟩) [vb] := fun _ => ⟨_, rfl, fun j u hu => by
    have ha : (⟨gg, 0, none⟩ : Addr).add j = ⟨gg, j, none⟩ := by unfold Addr.add; split <;> simp_all
    rw [ha, cell_of_row _ gg j _ _ _ hg]
    simpa using hu⟩
  obtain ⟨v1, W', hr, k1, k2⟩ := append_dicho (P := Try.prog) W base 53 53 33 i0 _ 1 24 Try.underlying53 hi hzz.1 hzz.2.1 hzz.2.2 rfl (by decide) (by decide) v rs.length xs hO (some ⟨gg, 0, none⟩) 1 1 [vb] rfl hsrc hone (by omega) hB
  have hgr : W.grownBy W' v.ownBlock := by
    rcases k2 with ⟨g, cur, q1, q2, q3, q4, q5, q6⟩ | ⟨q1, q2⟩
    · rw [q1]; exact q6
    · exact ⟨q1.os, q1.tape, q1.output, q1.size, fun k hk _ => q1.block k hk⟩
  refine ⟨v1, W', hr, ⟨xs ++ [vb], by rw [List.length_append]; exact k1, ?_, fun e => by simp at e⟩, ?_, hgr, ?_⟩
  · exact (hC.imp fun _ _ h => h.wrote hO (by decide) hgr).snoc (hb.wrote hO (by decide) hgr)
  · exact ⟨hgr.os, hgr.tape, hgr.output, hgr.size, fun k hk => hgr.block k (Nat.lt_of_lt_of_le hk hB) (fun e => by have := (hO.lt k e.symm).1; omega)⟩
  · rcases k2 with ⟨g, cur, q1, q2, q3, q4, q5, q6⟩ | ⟨q1, q2⟩
    · exact .inl (by rw [q1]; exact q2)
    · rcases q2 with q2 | q2
      · exact .inl (by rw [q2])
      · exact .inr ⟨_, q2, Nat.le_refl _⟩
theorem Bsr.shp {w : World} {base : Nat} {v : Value} {rs : List (List UInt8)} (h : Bsr w base v rs) : ∃ A c, v = .slice A rs.length c ∧ rs.length ≤ c := by
  obtain ⟨xs, ho, _, _⟩ := h
  rcases ho.2 with ⟨rfl, hn⟩ | ⟨g, cap, cur, rfl, hb, hh, hc, _⟩
  · exact ⟨none, 0, by rw [hn], by omega⟩
  · exact ⟨_, cap, rfl, hc⟩
/-- the log in memory -/
def LS (w0 w : World) (B g gl : Nat) (d : DevMath.Dev) (x : WalMath.Lg) (dn : Bool) : Prop := ∃ vb va, w.heap[gl]? = some (.cells #[.pointer (some ⟨g, 0, none⟩), .int .i64 x.region, .int .i64 x.base, vb, va, .bool dn] 87) ∧ B ≤ gl ∧ Sl w vb x.buf ∧ Bsr w B va x.all ∧ DS w0 w B g d
theorem LS.below {w0 w w1 : World} {B g gl : Nat} {d : DevMath.Dev} {x : WalMath.Lg} {dn : Bool} (h : LS w0 w B g gl d x dn) (hb : Below w.heap.size w w1) : LS w0 w1 B g gl d x dn := by
  obtain ⟨vb, va, h1, h2, h3, h4, h5⟩ := h
  exact ⟨vb, va, (hb.block _ (Array.getElem?_eq_some_iff.1 h1).1).trans h1, h2, h3.below hb, h4.below hb, h5.below hb⟩
theorem LS.tk {w0 w w1 : World} {B g gl : Nat} {d d' : DevMath.Dev} {x : WalMath.Lg} {dn : Bool} (h : LS w0 w B g gl d x dn) (ht : TK w w1) (hd : DS w0 w1 B g d') : LS w0 w1 B g gl d' x dn := by
  obtain ⟨vb, va, h1, h2, h3, h4, h5⟩ := h
  exact ⟨vb, va, ht _ _ _ _ (by decide) (by decide) h1, h2, ht.sl h3, h4.tk ht, hd⟩
end Go.Proofs.Ytbpecfbliglboaa
