/- wal: stores into the log. -/
import Derived.Test.YtbpecfbliglboaaWBap
namespace Go.Proofs.Ytbpecfbliglboaa
open Go.RowKit Go.Maps
set_option linter.unusedVariables false
set_option linter.unusedSimpArgs false
theorem not_u8 {w : World} {gl : Nat} {cs : Array Value} {t : Nat} {fr : Nat × Nat} (hh : w.heap[gl]? = some (.cells cs t fr)) (ht : t ≠ 5) : ∀ k, k = gl → ∀ cs fr, w.heap[k]? ≠ some (.cells cs 5 fr) := by
  rintro k rfl cs' fr' e
  rw [hh] at e
  injection e with e
  injection e with _ e
  exact ht e
theorem own_ne {w : World} {base e size n gl : Nat} {v : Value} {xs : List Value} {cs : Array Value} {t : Nat} {fr : Nat × Nat} (ho : w.ownsRow base e size v n xs) (hh : w.heap[gl]? = some (.cells cs t fr)) (he : t ≠ e) : ∀ k, k = gl → some k ≠ v.ownBlock := by
  rintro k rfl h
  rcases ho.2 with ⟨rfl, _⟩ | ⟨g, cap, cur, rfl, hb, hg, _⟩
  · cases h
  · simp only [Value.ownBlock, Option.some.injEq] at h
    subst h
    rw [hg] at hh
    injection hh with hh
    injection hh with _ hh
    exact he hh.symm
theorem Recs.log {w w1 : World} {B e gl : Nat} {v : Value} {rs : List (Int × List UInt8)} {cs : Array Value} {t : Nat} {fr : Nat × Nat} (h : Recs w B e v rs) (hh : w.heap[gl]? = some (.cells cs t fr)) (ht : t ≠ 5) (he : t ≠ e) (hc : Chg (· = gl) w w1) : Recs w1 B e v rs := by
  have h' := h
  obtain ⟨xs, ho, _⟩ := h'
  exact h.chg hc (own_ne ho hh he) (not_u8 hh ht)
theorem Bsr.log {w w1 : World} {B gl : Nat} {v : Value} {rs : List (List UInt8)} {cs : Array Value} {t : Nat} {fr : Nat × Nat} (h : Bsr w B v rs) (hh : w.heap[gl]? = some (.cells cs t fr)) (ht : t ≠ 5) (he : t ≠ 33) (hc : Chg (· = gl) w w1) : Bsr w1 B v rs := by
  obtain ⟨xs, ho, h2, h3⟩ := h
  have hn := own_ne ho hh he
  refine ⟨xs, ?_, h2.imp (fun _ _ h => h.chg hc (not_u8 hh ht)), h3⟩
  exact World.ownsRow.kept ho ⟨hc.os, hc.tape, hc.output, hc.size, fun k hk hne => hc.block k hk (fun e => hne (by rw [e]))⟩ (row := some gl) (.inr (fun e => hn gl rfl e.symm))
/-- the log, its row of records above S -/
def LSB (w0 w : World) (B S g gl : Nat) (d : DevMath.Dev) (x : WalMath.Lg) (dn : Bool) : Prop := ∃ vb va, w.heap[gl]? = some (.cells #[.pointer (some ⟨g, 0, none⟩), .int .i64 x.region, .int .i64 x.base, vb, va, .bool dn] 87) ∧ B ≤ gl ∧ Sl w vb x.buf ∧ Bsr w S va x.all ∧ DS w0 w B g d
theorem LSB.ls {w0 w : World} {B S g gl : Nat} {d : DevMath.Dev} {x : WalMath.Lg} {dn : Bool} (h : LSB w0 w B S g gl d x dn) (hS : B ≤ S) : LS w0 w B g gl d x dn := by
  obtain ⟨vb, va, h1, h2, h3, h4, h5⟩ := h
  exact ⟨vb, va, h1, h2, h3, h4.base hS, h5⟩
theorem Chg.thenB {S : Nat → Prop} {a b c : World} (h : Chg S a b) (k : Below a.heap.size b c) : Chg S a c :=
  ⟨k.os.trans h.os, k.tape.trans h.tape, k.output.trans h.output, Nat.le_trans h.size k.size, fun i hi hn => (k.block i hi).trans (h.block i hi hn)⟩
theorem ls_start {w0 w1 W3 : World} {B S g gl : Nat} {d : DevMath.Dev} {R Bn : Nat} {vb : Value} {bf : List UInt8} (hd : DS w0 w1 B g d) (hgl : B ≤ gl) (hh : w1.heap[gl]? = some (.cells #[.pointer (some ⟨g, 0, none⟩), .int .i64 0, .int .i64 0, .slice none 0 0, .slice none 0 0, .bool false] 87)) (hs : Sl w1 vb bf)
    (hW3 : W3 = ((w1.setCell ⟨gl, 1, none⟩ (.int .i64 R)).setCell ⟨gl, 2, none⟩ (.int .i64 Bn)).setCell ⟨gl, 3, none⟩ vb) : LSB w0 W3 B S g gl d ⟨R, Bn, bf, []⟩ false ∧ Chg (· = gl) w1 W3 := by
  have hc : Chg (· = gl) w1 W3 := by
    rw [hW3]
    exact (Chg.setCell w1 gl 1 _).trans ((Chg.setCell _ gl 2 _).trans (Chg.setCell _ gl 3 _))
  refine ⟨⟨vb, .slice none 0 0, ?_, hgl, hs.chg hc (not_u8 hh (by decide)), Bsr.nil _ _, hd.other hh hgl (by decide) (by decide) (by decide) (by decide) hc⟩, hc⟩
  rw [hW3, heap_setCell_same _ _ _ _ _ _ (heap_setCell_same _ _ _ _ _ _ (heap_setCell_same _ _ _ _ _ _ hh))]
  rfl
/-- a store of a longer row of records -/
theorem ls_all {w0 w1 W : World} {B S g gl : Nat} {d : DevMath.Dev} {x : WalMath.Lg} {dn : Bool} {va' vb va : Value} {ls : List (List UInt8)} (hh1 : w1.heap[gl]? = some (.cells #[.pointer (some ⟨g, 0, none⟩), .int .i64 x.region, .int .i64 x.base, vb, va, .bool dn] 87)) (hgl : B ≤ gl) (hs1 : Sl w1 vb x.buf) (hd : DS w0 w1 B g d)
    (hb : Bsr w1 S va' ls) (hW : W = w1.setCell ⟨gl, 4, none⟩ va') : LSB w0 W B S g gl d { x with all := ls } dn ∧ Chg (· = gl) w1 W := by
  have hc : Chg (· = gl) w1 W := by rw [hW]; exact Chg.setCell _ _ _ _
  refine ⟨⟨vb, va', ?_, hgl, hs1.chg hc (not_u8 hh1 (by decide)), hb.log hh1 (by decide) (by decide) hc, hd.other hh1 hgl (by decide) (by decide) (by decide) (by decide) hc⟩, hc⟩
  rw [hW, heap_setCell_same _ _ _ _ _ _ hh1]
  rfl
/-- a row of records stays where rows of slices turn -/
theorem Recs.te {S0 B : Nat} {w w1 : World} {v : Value} {rs : List (Int × List UInt8)} (h : Recs w B 91 v rs) (ht : TE 33 1 S0 w w1) : Recs w1 B 91 v rs := by
  obtain ⟨xs, h1, h2⟩ := h
  refine ⟨xs, ⟨h1.1, ?_⟩, h2.imp fun _ _ h => ht.sl (by decide) h⟩
  rcases h1.2 with h | ⟨g, cap, cur, hv, hb, hh, hr⟩
  · exact .inl h
  · exact .inr ⟨g, cap, cur, hv, hb, ht.2 _ _ _ _ (.inl (by decide)) hh, hr⟩
end Go.Proofs.Ytbpecfbliglboaa
