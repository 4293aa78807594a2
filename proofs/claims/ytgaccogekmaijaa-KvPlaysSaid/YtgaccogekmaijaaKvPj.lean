/- The program's table and the document's side by side. -/
import Derived.Test.YtgaccogekmaijaaKvRg1
import Derived.Test.YtgaccogekmaijaaKvTwo
import Derived.Test.YtgaccogekmaijaaKvLoad
namespace Go.Proofs.Ytgaccogekmaijaa
open Go.RowKit Go.Maps
set_option linter.unusedVariables false
set_option linter.unusedSimpArgs false
/-- what the calls of a round leave: all below B, all bytes -/
def GT (B : Nat) (w w' : World) : Prop := Below B w w' ∧ ∀ (k : Nat) cs fr, w.heap[k]? = some (.cells cs 5 fr) → w'.heap[k]? = some (.cells cs 5 fr)
theorem GT.refl (B : Nat) (w : World) : GT B w w := ⟨Below.refl _ _, fun _ _ _ h => h⟩
theorem GT.trans {B : Nat} (a b c : World) (h : GT B a b) (k : GT B b c) : GT B a c := ⟨h.1.trans k.1, fun i cs fr h1 => k.2 i cs fr (h.2 i cs fr h1)⟩
theorem GT.of_below {B : Nat} {w w' : World} (h : Below w.heap.size w w') (hB : B ≤ w.heap.size) : GT B w w' := ⟨h.mono hB, fun k _ _ h3 => (h.block k (Array.getElem?_eq_some_iff.1 h3).1).trans h3⟩
theorem TV.gt {B : Nat} {w w' : World} (h : TV B w w') : GT B w w' := ⟨h.1, fun k cs fr hk => h.2 k cs _ fr (by decide) (by decide) hk⟩
theorem Sl.gt {B : Nat} {w w' : World} {v : Value} {l : List UInt8} (h : GT B w w') (hs : Sl w v l) : Sl w' v l := by
  obtain ⟨A, c, h1, h2, h3, h4⟩ := hs
  refine ⟨A, c, h1, h2, ⟨h3.1, fun hp => ?_⟩, fun a e => ?_⟩
  · obtain ⟨a, e, hc⟩ := h3.2 hp
    obtain ⟨cs, fr, h5⟩ := h4 a e
    refine ⟨a, e, fun j hj => ?_⟩
    have h6 : (a.add j).block = a.block := by unfold Addr.add; split <;> rfl
    rw [World.cell?_of_block (w := w) (by rw [h6]; exact (h.2 _ _ _ h5).trans h5.symm)]
    exact hc j hj
  · obtain ⟨cs, fr, h5⟩ := h4 a e
    exact ⟨cs, fr, h.2 _ _ _ h5⟩
theorem RT.tv {w w' : World} {B B' r : Nat} {L : List KvMath.Ent} (h : RT w B r L) (ht : TV B' w w') : RT w' B r L := by
  obtain ⟨v, h1, h2, h3⟩ := h
  exact ⟨v, ht.2 _ _ _ _ (by decide) (by decide) h1, h2, orow_stay h3 (fun k cs fr _ hk => ht.2 _ _ _ _ (by decide) (by decide) hk)⟩
theorem RT.gt {w w' : World} {B r : Nat} {L : List KvMath.Ent} (h : RT w B r L) (hc : Chg (· = r) w w') : GT B w w' := by
  have hb : B ≤ r := by obtain ⟨v, h1, h2, h3⟩ := h; exact h2
  refine ⟨⟨hc.os, hc.tape, hc.output, hc.size, fun k hk => ?_⟩, fun k cs fr hk => hc.heap hk (fun e => ?_)⟩
  · by_cases hkw : k < w.heap.size
    · exact hc.block k hkw (fun e => by have e : k = r := e; omega)
    · have hr : r < w.heap.size := by obtain ⟨v, h1, h2, h3⟩ := h; exact (Array.getElem?_eq_some_iff.1 h1).1
      omega
  · have e : k = r := e
    subst e
    exact h.ty _ (by decide) _ _ hk
theorem Tb.aside {w0 w w' : World} {B g r N : Nat} {L L2 : List KvMath.Ent} (h : Tb w0 w B g N L) (hr : RT w B r L2) (hc : Chg (· = r) w w') : Tb w0 w' B g N L := by
  obtain ⟨m, vk, f, n, h1, h2, h3, h4⟩ := h
  have hg := hr.gt hc
  refine ⟨m, vk, f, n, h1.apart hc (fun k hk ho => ?_) (fun k hk cs fr => ?_), h2, h3.trans hg.1, Nat.le_trans h4 hc.size⟩
  · have hk : k = r := hk
    subst hk
    obtain ⟨v, e1, e2, e3⟩ := hr
    rcases (h1.typ k ho).2 _ _ _ e1 with e | e
    · exact absurd e (by decide)
    · exact absurd e (by decide)
  · have hk : k = r := hk
    subst hk
    exact hr.ty _ (by decide) cs fr
def J2 (w0 w : World) (B g r N : Nat) (L1 L2 : List KvMath.Ent) : Prop := Tb w0 w B g N L1 ∧ RT w B r L2
theorem J2.below {w0 w w' : World} {B g r N : Nat} {L1 L2 : List KvMath.Ent} (h : J2 w0 w B g r N L1 L2) (hb : Below w.heap.size w w') : J2 w0 w' B g r N L1 L2 := ⟨h.1.below hb, h.2.below hb⟩
theorem j2_commit {w0 w : World} {B g r N : Nat} {L L2 : List KvMath.Ent} (h : J2 w0 w B g r N L L2) (A : Option Addr) (c : Nat) (xs : List PutD) (hr : PutS B w A xs) (hl : xs.length ≤ c) (hn : xs.length ≤ 10000) (hN : N ≤ 100000) (hL : L.length ≤ 100000) :
    Calls Try.prog 11 #[.pointer (some ⟨g, 0, none⟩), .slice A xs.length c] w fun e w' => e = .returned (.int .i64 (if xs.all PutD.good then 0 else 1)) ∧ J2 w0 w' B g r (N + xs.length) (if xs.all PutD.good then KvMath.all L (xs.map PutD.ent) else L) L2 ∧ GT B w w' := by
  refine (kv_commit h.1 A c xs hr hl hn hN hL).mono ?_
  rintro e w1 ⟨rfl, h1, h2⟩
  exact ⟨rfl, ⟨h1, h.2.tv h2⟩, h2.gt⟩
theorem j2_rcommit {wX w0 w : World} {B b g r N : Nat} {L L2 : List KvMath.Ent} (h : J2 w0 w B g r N L L2) (hri : KvMath.Rise L2) (hX : Below wX.heap.size wX w) (hB : wX.heap.size ≤ B) (A : Option Addr) (c : Nat) (xs : List PutD) (hp : PutsG (RO wX) w b (.slice A xs.length c) xs) (hz : ∀ x ∈ xs, x.key.size ≤ 140737488351232 ∧ x.val.length ≤ 140737488351232) (hn : xs.length ≤ 10000) (hL : L2.length ≤ 100000) :
    Calls Try.prog 18 #[.pointer (some ⟨r, 0, none⟩), .slice A xs.length c] w fun e w' => e = .returned (.int .i64 (if xs.all PutD.good then 0 else 1)) ∧ J2 w0 w' B g r N L (if xs.all PutD.good then KvMath.all L2 (xs.map PutD.ent) else L2) ∧ GT B w w' := by
  have hBw : B ≤ w.heap.size := by obtain ⟨_, _, _, _, _, _, _, h4⟩ := h.1; exact h4
  have hrow : ∀ W, Chg (· = r) w W → Row KPut 3 W A xs ∧ xs.length ≤ c := fun W hW => by
    have h2 : PutsG (RO wX) W b (.slice A xs.length c) xs := hp.stay (fun k cs fr hk => hW.heap hk (fun e => by
      have e : k = r := e
      subst e
      exact h.2.ty _ (by decide) _ _ hk)) (fun _ _ h => h)
    have hXW : Below wX.heap.size wX W := hX.trans ((h.2.gt hW).1.mono hB)
    obtain ⟨A', c', e, h4, h3⟩ := h2.row (fun v l ⟨A, c, e, h1, h2⟩ => ⟨A, c, e, h1, h2 W hXW⟩) hz
    injection e with e1 e2 e3
    subst e1; subst e3
    exact ⟨h3, h4⟩
  refine (ref_commit h.2 hri hBw A c xs (fun W hW => (hrow W hW).1) (hrow w (Chg.refl _ _)).2 hn hL).mono ?_
  rintro e w1 ⟨rfl, h1, h2⟩
  exact ⟨rfl, ⟨h.1.aside h.2 h2, h1⟩, h.2.gt h2⟩
end Go.Proofs.Ytgaccogekmaijaa
