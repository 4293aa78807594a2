/- A region that draws its order, its last operations in one forced order: the head by relations (Rel), the tail in the world that has come of it. -/
import Derived.Test.YtbpecfbliglboaaRel
import Derived.StillTail
import Derived.Test.YtbpecfbliglboaaFw
namespace Go.Proofs.Ytbpecfbliglboaa
set_option linter.unusedVariables false
set_option linter.unusedSimpArgs false
open Go.RowKit
section
variable (P : Program) (ops : Array Oper) (kd : Nat → Bool) (RP : Nat → List Value → Value → Prop) (RC : Nat → List Value → Value → World → Prop) (G : World → World → Prop) (w1 : World)
def anyT (n : Nat) (L : Array Bool → (Nat → World → Prop) → Act → Prop) : Nat → Array Bool → (Nat → World → Prop) → Act → Prop
  | 0, listed, F, a => L listed F a
  | f + 1, listed, F, a => Region.ready .any ops listed ≠ [] ∧
      ∀ i ∈ Region.ready .any ops listed, i < n ∧ ∀ o, ops[i]? = some o → relOp P ops kd RP RC G w1 i o F (fun g a' => anyT n L f (listed.setIfInBounds i true) (upd F i g) a') a
end
section
variable {P : Program} {ops : Array Oper} {kd : Nat → Bool} {RP : Nat → List Value → Value → Prop} {RC : Nat → List Value → Value → World → Prop} {G : World → World → Prop} {w1 : World} {QX : Exit → Act → World → Prop}
theorem wpAny_of_anyT (hG0 : ∀ w, G w w) (hGt : ∀ a b c, G a b → G b c → G a c) (hst : ∀ k xs v W W', RC k xs v W → G W W' → RC k xs v W') {n g : Nat} {L : Array Bool → (Nat → World → Prop) → Act → Prop}
    (hL : ∀ listed F a W, L listed F a → G w1 W → (∀ i, F i W) → wpAny P .any ops QX g listed a W) :
    ∀ (f : Nat) (listed : Array Bool) (F : Nat → World → Prop) (a : Act) (W : World), (∀ i W W', F i W → G W W' → F i W') → G w1 W → (∀ i, F i W) →
      anyT P ops kd RP RC G w1 n L f listed F a → wpAny P .any ops QX (f + g) listed a W
  | 0, _, _, _, _, _, hG, hF, h => by rw [Nat.zero_add]; exact hL _ _ _ _ h hG hF
  | f + 1, listed, F, a, W, hs, hG, hF, h => by
    rw [show f + 1 + g = (f + g) + 1 by omega]
    refine ⟨fun h0 => absurd h0 h.1, fun i hi => ?_⟩
    unfold wpOp
    cases ho : ops[i]? with
    | none =>
      obtain ⟨_, o, ho', _⟩ := mem_ready.1 hi
      rw [ho] at ho'; cases ho'
    | some o =>
      have hr := (h.2 i hi).2 o ho
      unfold relOp at hr
      have hTrue : ∀ j W W', upd F i (fun _ => True) j W → G W W' → upd F i (fun _ => True) j W' := by
        intro j W W' h1 h2
        unfold upd at *
        split
        · trivial
        · rename_i hne; rw [if_neg hne] at h1; exact hs j W W' h1 h2
      have hTrueF : ∀ j, upd F i (fun _ => True) j W := by
        intro j
        unfold upd
        split
        · trivial
        · exact hF j
      simp only
      split
      · rename_i hw
        simp only [hw, if_true] at hr
        refine .inl ?_
        split at hr
        · refine wp_of_rel (hr.1 W hG (fun e _ => hF e.on)) ?_
          intro v W' h1 ⟨h2p, h2⟩
          refine wpAny_of_anyT hG0 hGt hst hL f _ (upd F i (RC i (Oper.argv o a) v)) _ W' ?_ (hGt _ _ _ hG h1) ?_ (hr.2.2 v h2p)
          · intro j X X' h3 h4
            unfold upd at *
            split
            · rename_i he; rw [if_pos he] at h3; exact hst _ _ _ _ _ h3 h4
            · rename_i he; rw [if_neg he] at h3; exact hs j X X' h3 h4
          · intro j
            unfold upd
            split
            · exact h2
            · exact hs j _ _ (hF j) h1
        · obtain ⟨v, h1, h2⟩ := hr
          exact wp_of_plain (h1 W hG) (wpAny_of_anyT hG0 hGt hst hL f _ _ _ W hTrue hG hTrueF h2)
      · rename_i hw
        simp only [hw] at hr
        exact wpAny_of_anyT hG0 hGt hst hL f _ _ _ W hTrue hG hTrueF hr
theorem anyT_first {n i : Nat} {oi : Oper} {L : Array Bool → (Nat → World → Prop) → Act → Prop} (hi : ops[i]? = some oi) (hsel : ∀ (j : Nat) (o : Oper) cs b, ops[j]? = some o → o.op ≠ .select cs b) (hG0 : ∀ w, G w w)
    (hs : Region.sinkB .any ops n = true) (hc : Region.chainB .any ops n = true) (hn : n < ops.size) (hin : i < n)
    (hdone : ∀ listed F a, L listed F a → ∀ j ∈ Region.ready .any ops listed, n ≤ j) :
    ∀ (f : Nat) (listed : Array Bool) (F : Nat → World → Prop) (a : Act), HeadInv .any ops n listed →
      (∀ j oj, ops[j]? = some oj → j ≠ i → listed.getD j true = false → (∀ e ∈ oj.after, Region.binds .any e = true → e.on ≠ i) → oi.apart ops oj = true) →
      (∀ (j : Nat) (o : Oper), ops[j]? = some o → ∀ e ∈ o.after.toList, Region.binds .any e = true) →
      i ∈ Region.ready .any ops listed → relOp P ops kd RP RC G w1 i oi F (fun g a' => anyT P ops kd RP RC G w1 n L f (listed.setIfInBounds i true) (upd F i g) a') a → anyT P ops kd RP RC G w1 n L (f + 1) listed F a := by
  intro f
  induction f with
  | zero =>
    intro listed F a inv _ hbind hr h
    have hun := (mem_ready.1 hr).1
    refine ⟨fun h0 => (by rw [h0] at hr; cases hr), fun j hj => ?_⟩
    have hjn : j < n := by
      rcases Nat.lt_or_ge j n with h | h
      · exact h
      · exact absurd hj (tail_waits hs hc hn inv _ i rfl hin hun j h)
    refine ⟨hjn, fun oj hoj => ?_⟩
    by_cases hji : j = i
    · subst hji
      rw [hi] at hoj
      cases hoj
      exact h
    · obtain ⟨f, ok, ⟨v, hv⟩, hK, _⟩ := relOp_cases h
      have := hdone _ _ _ (hK v hv) j (ready_mono hj hji)
      omega
  | succ f ih =>
    intro listed F a inv hfree hbind hr h
    have hun := (mem_ready.1 hr).1
    refine ⟨fun h0 => (by rw [h0] at hr; cases hr), fun j hj => ?_⟩
    have hjn : j < n := by
      rcases Nat.lt_or_ge j n with h | h
      · exact h
      · exact absurd hj (tail_waits hs hc hn inv _ i rfl hin hun j h)
    refine ⟨hjn, fun oj hoj => ?_⟩
    by_cases hji : j = i
    · subst hji
      rw [hi] at hoj
      cases hoj
      exact h
    · obtain ⟨hjun, oj', hoj', hall⟩ := mem_ready.1 hj
      rw [hoj] at hoj'
      cases hoj'
      have hnot : ∀ e ∈ oj.after, Region.binds .any e = true → e.on ≠ i := fun e he hb heq => by
        have h1 := hall e he hb
        rw [heq, getD_both hun] at h1
        cases h1
      have hnoti : ∀ e ∈ oi.after, Region.binds .any e = true → e.on ≠ j := fun e he hb heq => by
        obtain ⟨_, oi', hoi', hall'⟩ := mem_ready.1 hr
        rw [hi] at hoi'
        cases hoi'
        have h1 := hall' e he hb
        rw [heq, getD_both hjun] at h1
        cases h1
      have hap := hfree j oj hoj hji hjun hnot
      obtain ⟨fi, ok, hok, hK, hmk⟩ := relOp_cases h
      have h2 := relOp_all (F := F) (F' := fun v => upd F i (fi v)) (K := fun v g a' => anyT P ops kd RP RC G w1 n L f ((listed.setIfInBounds i true).setIfInBounds j true) (upd (upd F i (fi v)) j g) a') hG0 hok hap (fun cs b => hsel j oj cs b hoj)
        (fun v e he => upd_ne F (fi v) (hnot e (by simpa using he) (hbind j oj hoj e he))) (fun v hv => ((hK v hv).2 j (ready_mono hj hji)).2 oj hoj)
      refine relOp_mono' (fun g u h3 => ih (listed.setIfInBounds j true) (upd F j g) _ (inv.set hj hjn) ?_ hbind (ready_mono hr (Ne.symm hji)) ?_) h2
      · intro k ok hk hki hun hno
        refine hfree k ok hk hki ?_ hno
        by_cases hjk : j = k
        · subst hjk; exact hjun
        · rw [getD_set_ne true hjk] at hun; exact hun
      · refine hmk _ oj u hap (fun cs b => hsel i oi cs b hi) (upd F j g) (fun e he => upd_ne F g (hnoti e (by simpa using he) (hbind i oi hi e he))) (fun v hv => ?_)
        have h4 := h3 v hv
        rw [Array.setIfInBounds_comm _ _ hji, upd_comm F g (fi v) hji]
        exact h4
theorem anyT_lex {n g : Nat} {Q : Act → World → Prop} (hsel : Region.noSelect ops = true) (hbind : ∀ (j : Nat) (o : Oper), ops[j]? = some o → ∀ e ∈ o.after.toList, Region.binds .any e = true) (hG0 : ∀ w, G w w) (hs : Region.sinkB .any ops n = true) (hc : Region.chainB .any ops n = true) (hn : n < ops.size) :
    ∀ (l : List Oper) (k : Nat) (listed : Array Bool) (F : Nat → World → Prop) (a : Act), (∀ j, j < l.length → l[j]? = ops[k + j]?) → k + l.length = n → HeadInv .any ops n listed →
    Region.lexHead .any ops g l.length k listed = true → wpR P ops kd RP RC G w1 Q l k F a →
    anyT P ops kd RP RC G w1 n (fun listed' F' a' => Region.seqB .any ops g n listed' = true ∧ ∀ W, G w1 W → (∀ i, F' i W) → Q a' W) l.length listed F a
  | [], k, listed, F, a, _, hk, _, hB, h => by
    have : k = n := by simpa using hk
    subst this
    exact ⟨by simpa [Region.lexHead] using hB, h⟩
  | o :: l, k, listed, F, a, hl, hk, inv, hB, h => by
    have h0 : ops[k]? = some o := by simpa using (hl 0 (by simp)).symm
    simp only [List.length_cons, Region.lexHead, Bool.and_eq_true] at hB
    obtain ⟨⟨hr, hf⟩, hB'⟩ := hB
    have hkn : k < n := by simp only [List.length_cons] at hk; omega
    have hr' : k ∈ Region.ready .any ops listed := by simpa using hr
    exact anyT_first h0 (Region.noSelect_spec hsel) hG0 hs hc hn hkn (fun listed' _ a' hL => seqB_ready hL.1) l.length listed F a inv (Region.free_spec h0 hf) hbind hr'
      (relOp_mono (fun f a' h' => anyT_lex hsel hbind hG0 hs hc hn l (k + 1) _ _ a' (fun j hj => by have := hl (j + 1) (by simp; omega); simpa [Nat.add_assoc, Nat.add_comm 1 j] using this) (by simp only [List.length_cons] at hk; omega) (inv.set hr' hkn) hB' h') h)
theorem wp_region_rel_tail {id : Nat} {a : Act} {w : World} (l : List Oper) (n : Nat) (kd : Nat → Bool) (RP : Nat → List Value → Value → Prop) (RC : Nat → List Value → Value → World → Prop) (G : World → World → Prop) (hm : P.follows .mixedOrders = true) (hB : Region.lexTailB .any l.toArray n = true) (hb : l.all (fun o => o.after.toList.all fun e => Region.binds .any e) = true)
    (hG0 : ∀ w, G w w) (hGt : ∀ a b c, G a b → G b c → G a c) (hst : ∀ k xs v W W', RC k xs v W → G W W' → RC k xs v W')
    (h : wpR P l.toArray kd RP RC G w.drew (fun a' w' => wpList P l.toArray QX (l.drop n) a' w') (l.take n) 0 (fun _ _ => True) a) : (Code.region id l.toArray true).wp P QX a w := by
  simp only [Region.lexTailB, Bool.and_eq_true, decide_eq_true_eq] at hB
  obtain ⟨⟨⟨⟨hsel, hn⟩, hs⟩, hc⟩, hlex⟩ := hB
  have hbind : ∀ (j : Nat) (o : Oper), l.toArray[j]? = some o → ∀ e ∈ o.after.toList, Region.binds .any e = true := by
    intro j o ho e he
    have h1 := List.all_eq_true.1 hb o (by simpa using Array.mem_of_getElem? ho)
    exact List.all_eq_true.1 h1 e he
  have hn' : n < l.length := by simpa using hn
  have htl : (l.take n).length = n := by simp; omega
  have hdl : (l.drop n).length = l.toArray.size - n := by simp
  have inv0 : HeadInv .any l.toArray n (Array.replicate l.toArray.size false) :=
    ⟨by simp, fun j oj _ hl => (by rw [getD_replicate_false] at hl; cases hl), fun t _ ht => getD_in (by simpa using ht) (getD_replicate_false _ _)⟩
  have H := anyT_lex (Q := fun a' w' => wpList P l.toArray QX (l.drop n) a' w') (g := l.toArray.size - n) hsel hbind hG0 hs hc hn (l.take n) 0 _ (fun _ _ => True) a (fun j hj => by
    have hj' : j < n := by rw [htl] at hj; exact hj
    simp [hj']) (by simpa using htl) inv0 (by rw [htl]; exact hlex) h
  refine wp_region_any hm ?_
  have := wpAny_of_anyT (QX := QX) (g := l.toArray.size - n) hG0 hGt hst (fun listed F a' W hL hG hF => by
    have := wpAny_of_seq (md := .any) (Q' := QX) (l.drop n) n listed a' W (fun j => by simp [List.getElem?_drop]) (by rw [hdl]; exact hL.1) (hL.2 W hG hF)
    rwa [hdl] at this) _ _ _ _ w.drew (fun _ _ _ _ _ => trivial) (hG0 _) (fun _ => trivial) H
  rw [htl, show n + (l.toArray.size - n) = l.toArray.size by omega] at this
  exact this
theorem wp_region_tbl_tail {id : Nat} {a : Act} {w : World} (l : List Oper) (n : Nat) (tbl : Nat → Option Sp) (B : Nat) (hm : P.follows .mixedOrders = true) (hB : Region.lexTailB .any l.toArray n = true) (hb : l.all (fun o => o.after.toList.all fun e => Region.binds .any e) = true)
    (h : wpR P l.toArray (fun k => (tbl k).isSome) (tblP tbl) (tblC tbl) (Gr B) w.drew (fun a' w' => wpList P l.toArray QX (l.drop n) a' w') (l.take n) 0 (fun _ _ => True) a) : (Code.region id l.toArray true).wp P QX a w :=
  wp_region_rel_tail l n _ _ _ (Gr B) hm hB hb (Gr.refl _) (fun _ _ _ => Gr.trans) (tblC_stable tbl) h
end
/-! ### a slice of bytes that is read, in a block of bytes -/
theorem cell_gr {B : Nat} {w w1 : World} (h : Gr B w w1) {a : Addr} {v : Value} (hc : w.cell? a = some v) : w1.cell? a = some v := by
  unfold World.cell? at *
  split at hc
  · rename_i c e fr hh
    obtain ⟨fr', h1⟩ := h.2 _ _ _ _ hh
    rw [h1]
    exact hc
  · cases hc
theorem Rd.gr {B : Nat} {w w1 : World} {A : Option Addr} {l : List UInt8} (h : Rd w A l) (hg : Gr B w w1) : Rd w1 A l :=
  ⟨h.1, fun hp => by
    obtain ⟨a, e, hc⟩ := h.2 hp
    exact ⟨a, e, fun j hj => cell_gr hg (hc j hj)⟩⟩
/-- bytes that are read live on where a row without bytes is written -/
theorem Rd.keep {w w1 : World} {A : Option Addr} {l : List UInt8} (h : Rd w A l) {g t : Nat} {cur : Array Value} {fr : Nat × Nat} (hg : w.heap[g]? = some (.cells cur t fr)) (hno : ∀ (j : Nat) (x : Int), cur[j]? ≠ some (.int .u8 x)) (hk : ∀ k, k ≠ g → w1.heap[k]? = w.heap[k]?) : Rd w1 A l :=
  ⟨h.1, fun hp => by
    obtain ⟨a, e, hc⟩ := h.2 hp
    refine ⟨a, e, fun j hj => ?_⟩
    have h1 := hc j hj
    have h2 : (a.add j).block ≠ g := by
      intro e2
      unfold World.cell? at h1
      rw [e2, hg] at h1
      dsimp only at h1
      split at h1
      · cases h1
      · exact hno _ _ h1
    rw [World.cell?_of_block (hk _ h2)]; exact h1⟩
/-- v is a slice of the bytes l, in a row of bytes (or nil). -/
def Sl (w : World) (v : Value) (l : List UInt8) : Prop := ∃ A c, v = .slice A l.length c ∧ l.length ≤ c ∧ Rd w A l ∧ ∀ a, A = some a → ∃ cs fr, w.heap[a.block]? = some (.cells cs 5 fr)
theorem Sl.nil (w : World) : Sl w (.slice none 0 0) [] := ⟨none, 0, rfl, Nat.le_refl _, Rd.nil _ _, fun a h => by cases h⟩
theorem Sl.rd {w : World} {v : Value} {l : List UInt8} (h : Sl w v l) : ∃ A c, v = .slice A l.length c ∧ l.length ≤ c ∧ Rd w A l := by
  obtain ⟨A, c, h1, h2, h3, _⟩ := h
  exact ⟨A, c, h1, h2, h3⟩
theorem Sl.below {w w1 : World} {v : Value} {l : List UInt8} (h : Sl w v l) (hb : Below w.heap.size w w1) : Sl w1 v l := by
  obtain ⟨A, c, h1, h2, h3, h4⟩ := h
  exact ⟨A, c, h1, h2, h3.below hb, fun a e => by
    obtain ⟨cs, fr, h5⟩ := h4 a e
    exact ⟨cs, fr, (hb.block _ (Array.getElem?_eq_some_iff.1 h5).1).trans h5⟩⟩
theorem Ob.sl {w : World} {base : Nat} {v : Value} {l : List UInt8} (h : Ob w base 5 v l) : Sl w v l := by
  obtain ⟨A, c, rfl, h2, h3⟩ := h.rd
  refine ⟨A, c, rfl, h2, h3, fun a e => ?_⟩
  rcases h.2 with ⟨e1, _⟩ | ⟨g, cap, cur, e1, hb, hh, _⟩
  · injection e1 with e1; rw [e1] at e; cases e
  · injection e1 with e1; rw [e1] at e; cases e; exact ⟨_, _, hh⟩
theorem Sl.gr {B : Nat} {w w1 : World} {v : Value} {l : List UInt8} (h : Sl w v l) (hg : Gr B w w1) : Sl w1 v l := by
  obtain ⟨A, c, h1, h2, h3, h4⟩ := h
  exact ⟨A, c, h1, h2, h3.gr hg, fun a e => by
    obtain ⟨cs, fr, h5⟩ := h4 a e
    obtain ⟨fr', h6⟩ := hg.2 _ _ _ _ h5
    exact ⟨cs, fr', h6⟩⟩
/-- .. lives on where a block of another type is written -/
theorem Sl.keep {w w1 : World} {v : Value} {l : List UInt8} (h : Sl w v l) {g : Nat} (hg : ∀ cs fr, w.heap[g]? ≠ some (.cells cs 5 fr)) (hk : ∀ k, k < w.heap.size → k ≠ g → w1.heap[k]? = w.heap[k]?) : Sl w1 v l := by
  obtain ⟨A, c, h1, h2, h3, h4⟩ := h
  have hne : ∀ a, A = some a → w1.heap[a.block]? = w.heap[a.block]? := fun a e => by
    obtain ⟨cs, fr, h5⟩ := h4 a e
    exact hk _ (Array.getElem?_eq_some_iff.1 h5).1 (fun e2 => hg cs fr (by rw [← e2]; exact h5))
  refine ⟨A, c, h1, h2, ⟨h3.1, fun hp => ?_⟩, fun a e => ?_⟩
  · obtain ⟨a, e, hc⟩ := h3.2 hp
    refine ⟨a, e, fun j hj => ?_⟩
    have h6 : (a.add j).block = a.block := by unfold Addr.add; split <;> rfl
    rw [World.cell?_of_block (w := w) (by rw [h6]; exact hne a e)]
    exact hc j hj
  · obtain ⟨cs, fr, h5⟩ := h4 a e
    exact ⟨cs, fr, (hne a e).trans h5⟩
/-- what a call leaves that returns a slice of bytes -/
def slSp (n : Nat) (l : List UInt8) : Sp := .rel (fun v => ∃ A c, v = .slice A n c ∧ n ≤ c) (fun v W => Sl W v l) ⟨_, none, _, rfl, Nat.le_refl _⟩ (fun _ _ _ _ h hg => h.gr hg)
end Go.Proofs.Ytbpecfbliglboaa
