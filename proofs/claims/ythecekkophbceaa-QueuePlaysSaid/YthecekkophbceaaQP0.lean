/- QueuePlays: the loop's body, its invariant; what stays while a region of the law runs. -/
import Derived.Test.YthecekkophbceaaQPlays0
import Derived.Test.YthecekkophbceaaQReady
import Derived.Test.YthecekkophbceaaStu
namespace Go.Proofs.Ythecekkophbceaa
open Go.RowKit Go.Conc
set_option linter.unusedVariables false
set_option linter.unusedSimpArgs false
def firstLoop : Code → Option Code
  | .loop c => some c
  | .seq a b => match firstLoop a with
    | some c => some c
    | none => firstLoop b
  | .block _ c => firstLoop c
  | .scope c => firstLoop c
  | .cond _ a b => match firstLoop a with
    | some c => some c
    | none => firstLoop b
  | _ => none
noncomputable def qpBody : Code := ((Try.f7.body.bind firstLoop).getD .skip)
/-- a frame: some slots named, the others whatever -/
def frame (nl : List (Nat × Value)) (f : Nat → Value) (n : Nat) : List Value := (List.range n).map fun i => (nl.lookup i).getD (f i)
theorem lookup_mem {nl : List (Nat × Value)} {i : Nat} {v : Value} (h : nl.lookup i = some v) : (i, v) ∈ nl := by
  induction nl with
  | nil => cases h
  | cons p nl ih =>
    obtain ⟨k, u⟩ := p
    rw [List.lookup_cons] at h
    by_cases e : i = k
    · subst e
      rw [beq_self_eq_true] at h
      injection h with h
      subst h
      exact List.mem_cons_self ..
    · rw [show (i == k) = false by rw [beq_eq_false_iff_ne]; exact e] at h
      exact List.mem_cons_of_mem _ (ih h)
theorem frame_eq (nl : List (Nat × Value)) (t : Array Value) (n : Nat) (h : t.size = n) (hn : ∀ p ∈ nl, t.getD p.1 undef = p.2) : t = (frame nl (fun i => t.getD i undef) n).toArray := by
  apply Array.ext
  · simp [frame, h]
  · intro i h1 h2
    simp only [frame, List.getElem_toArray, List.getElem_map, List.getElem_range]
    have hg : t.getD i undef = t[i] := by simp [h1]
    cases hl : nl.lookup i with
    | none => rw [Option.getD_none, hg]
    | some v =>
      have h5 : t.getD i undef = v := hn _ (lookup_mem hl)
      rw [Option.getD_some, ← hg, h5]
def qpN (room n c gq gw gc : Nat) (A : Addr) (g : Nat → Nat) (k : Nat) : List (Nat × Value) := [(0, .int .i64 room), (1, .slice (some A) n c), (5, .pointer (some ⟨g 0, 0, none⟩)), (7, .pointer (some ⟨g 1, 0, none⟩)), (9, .pointer (some ⟨g 2, 0, none⟩)), (11, .slice (some ⟨gq, 0, none⟩) 3 3), (12, .pointer (some ⟨gw, 0, none⟩)), (13, .pointer (some ⟨gc, 0, none⟩)), (14, .int .i64 k)]
def QI (w : World) (A : Addr) (c n room gq gw gc : Nat) (g ch : Nat → Nat) (a : Act) (W : World) : Prop :=
  a.defers = [] ∧ a.tmps.size = 386 ∧ ∃ k ls cl, (∀ p ∈ qpN room n c gq gw gc A g k, a.tmps.getD p.1 undef = p.2) ∧ k ≤ n ∧ Stt w W gq gw gc g ch room ls cl
def qpMu (n : Nat) (a : Act) (_ : World) : Nat := n - (intOf (a.tmps.getD 14 undef)).toNat
/-- what stays in a region of the law: cells of other types than the queues' -/
def TQ (B : Nat) (W W' : World) : Prop := Below B W W' ∧ ∀ (k : Nat) cs (t : Nat) fr, t ≠ 49 → (t ≠ 9 ∨ cs.size ≤ 1) → W.heap[k]? = some (.cells cs t fr) → W'.heap[k]? = some (.cells cs t fr)
theorem TQ.refl (B : Nat) (W : World) : TQ B W W := ⟨Below.refl _ _, fun _ _ _ _ _ _ h => h⟩
theorem TQ.trans {B : Nat} (a b c : World) (h : TQ B a b) (k : TQ B b c) : TQ B a c := ⟨h.1.trans k.1, fun i cs t fr h1 h2 h3 => k.2 i cs t fr h1 h2 (h.2 i cs t fr h1 h2 h3)⟩
def Gb (B : Nat) (W W' : World) : Prop := Below W.heap.size W W' ∧ B ≤ W.heap.size
theorem Gb.tq {B : Nat} (W W' : World) (h : Gb B W W') : TQ B W W' := ⟨h.1.mono h.2, fun k _ _ _ _ _ h3 => (h.1.block k (Array.getElem?_eq_some_iff.1 h3).1).trans h3⟩
theorem TQ.cell {B : Nat} {W W' : World} (h : TQ B W W') {k i : Nat} {cs : Array Value} {t : Nat} {fr : Nat × Nat} (hk : W.heap[k]? = some (.cells cs t fr)) (h1 : t ≠ 49) (h2 : t ≠ 9) : W'.cell? ⟨k, i, none⟩ = W.cell? ⟨k, i, none⟩ := by
  rw [cell_of_row _ k i _ _ _ (h.2 k cs t fr h1 (.inl h2) hk), cell_of_row _ k i _ _ _ hk]
theorem TQ.sl {B : Nat} {W W' : World} (h : TQ B W W') {v : Value} {l : List UInt8} (hs : Sl W v l) : Sl W' v l := by
  obtain ⟨A, c, h1, h2, h3, h4⟩ := hs
  refine ⟨A, c, h1, h2, ⟨h3.1, fun hp => ?_⟩, fun a e => ?_⟩
  · obtain ⟨a, e, hc⟩ := h3.2 hp
    obtain ⟨cs, fr, h5⟩ := h4 a e
    refine ⟨a, e, fun j hj => ?_⟩
    have h6 : (a.add j).block = a.block := by unfold Addr.add; split <;> rfl
    rw [World.cell?_of_block (w := W) (by rw [h6]; exact (h.2 _ _ _ _ (by decide) (.inl (by decide)) h5).trans h5.symm)]
    exact hc j hj
  · obtain ⟨cs, fr, h5⟩ := h4 a e
    exact ⟨cs, fr, h.2 _ _ _ _ (by decide) (.inl (by decide)) h5⟩
/-- the act's own copy; what the cells of the state read as -/
structure Cells (W : World) (gx gq gw gc : Nat) (g : Nat → Nat) (v : Nat → Value) (cl : Nat → Bool) (op q to : Int) (s : ByteArray) : Prop where
  x : W.heap[gx]? = some (.cells #[.int .i64 op, .int .i64 q, .int .i64 to, .string s] 45)
  p : W.heap[gq]? = some (.cells #[.pointer (some ⟨g 0, 0, none⟩), .pointer (some ⟨g 1, 0, none⟩), .pointer (some ⟨g 2, 0, none⟩)] 24)
  v : W.heap[gw]? = some (.cells #[v 0, v 1, v 2] 42)
  c : W.heap[gc]? = some (.cells #[.bool (cl 0), .bool (cl 1), .bool (cl 2)] 43)
theorem Cells.tq {B : Nat} {W W' : World} {gx gq gw gc : Nat} {g : Nat → Nat} {v : Nat → Value} {cl : Nat → Bool} {op q to : Int} {s : ByteArray} (h : Cells W gx gq gw gc g v cl op q to s) (ht : TQ B W W') : Cells W' gx gq gw gc g v cl op q to s :=
  ⟨ht.2 _ _ _ _ (by decide) (.inl (by decide)) h.x, ht.2 _ _ _ _ (by decide) (.inl (by decide)) h.p, ht.2 _ _ _ _ (by decide) (.inl (by decide)) h.v, ht.2 _ _ _ _ (by decide) (.inl (by decide)) h.c⟩
theorem Cells.rd {W : World} {gx gq gw gc : Nat} {g : Nat → Nat} {v : Nat → Value} {cl : Nat → Bool} {op q to : Int} {s : ByteArray} (h : Cells W gx gq gw gc g v cl op q to s) :
    W.cell? ⟨gx, 0, none⟩ = some (.int .i64 op) ∧ W.cell? ⟨gx, 1, none⟩ = some (.int .i64 q) ∧ W.cell? ⟨gx, 2, none⟩ = some (.int .i64 to) ∧ W.cell? ⟨gx, 3, none⟩ = some (.string s) ∧
    (∀ i, i < 3 → W.cell? ⟨gq, i, none⟩ = some (.pointer (some ⟨g i, 0, none⟩)) ∧ W.cell? ⟨gw, i, none⟩ = some (v i) ∧ W.cell? ⟨gc, i, none⟩ = some (.bool (cl i))) ∧ (∀ i, W.frozen? ⟨gw, i, none⟩ = false) ∧ (∀ i, W.frozen? ⟨gc, i, none⟩ = false) :=
  ⟨by rw [cell_of_row _ _ 0 _ _ _ h.x]; rfl, by rw [cell_of_row _ _ 1 _ _ _ h.x]; rfl, by rw [cell_of_row _ _ 2 _ _ _ h.x]; rfl, by rw [cell_of_row _ _ 3 _ _ _ h.x]; rfl,
    fun i hi => ⟨cells3 (v := fun i => .pointer (some ⟨g i, 0, none⟩)) h.p i hi, cells3 h.v i hi, cells3 (v := fun i => .bool (cl i)) h.c i hi⟩, fun i => frozen_of_row _ _ i _ _ h.v, fun i => frozen_of_row _ _ i _ _ h.c⟩
/-- the queues may be ahead of what the law keeps of them -/
structure Mid (w W : World) (gq gw gc : Nat) (g ch : Nat → Nat) (room : Nat) (lsq : Nat → List ByteArray) (clq : Nat → Bool) (lsw : Nat → List ByteArray) (clw : Nat → Bool) : Prop where
  q : QS W g ch room lsq clq
  s : WS W gw lsw
  c : CS W gc clw
  p : W.heap[gq]? = some (.cells #[.pointer (some ⟨g 0, 0, none⟩), .pointer (some ⟨g 1, 0, none⟩), .pointer (some ⟨g 2, 0, none⟩)] 24)
  l : ∀ i, i < 3 → (lsq i).length ≤ room ∧ ∀ x ∈ lsq i, x.size ≤ 100
  b : Below w.heap.size w W
  wb : w.heap.size ≤ gw
  cb : w.heap.size ≤ gc
theorem Stt.mid {w W : World} {gq gw gc : Nat} {g ch : Nat → Nat} {room : Nat} {ls : Nat → List ByteArray} {cl : Nat → Bool} (h : Stt w W gq gw gc g ch room ls cl) (wb : w.heap.size ≤ gw) (cb : w.heap.size ≤ gc) : Mid w W gq gw gc g ch room ls cl ls cl := ⟨h.q, h.s, h.c, h.p, h.l, h.b, wb, cb⟩
theorem Mid.stt {w W : World} {gq gw gc : Nat} {g ch : Nat → Nat} {room : Nat} {ls : Nat → List ByteArray} {cl : Nat → Bool} (h : Mid w W gq gw gc g ch room ls cl ls cl) : Stt w W gq gw gc g ch room ls cl := ⟨h.q, h.s, h.c, h.p, h.l, h.b⟩
theorem Mid.below {w W W' : World} {gq gw gc : Nat} {g ch : Nat → Nat} {room : Nat} {lsq lsw : Nat → List ByteArray} {clq clw : Nat → Bool} (h : Mid w W gq gw gc g ch room lsq clq lsw clw) (hb : Below W.heap.size W W') : Mid w W' gq gw gc g ch room lsq clq lsw clw :=
  ⟨h.q.below hb, h.s.below hb, (Chg.of_below (S := fun _ => False) hb).heap h.c (by simp), (Chg.of_below (S := fun _ => False) hb).heap h.p (by simp), h.l, below_then h.b h.b.size hb, h.wb, h.cb⟩
theorem Qu.obj {w : World} {g ch cap : Nat} {ls : List (List UInt8)} {closed : Bool} (h : Qu w g ch cap ls closed) : (∃ cs fr, w.heap[g]? = some (.cells cs 49 fr)) ∧ ∀ cs (t : Nat) fr, w.heap[ch]? ≠ some (.cells cs t fr) := by
  obtain ⟨h1, h2⟩ := h
  obtain ⟨vs, _, _, h3, _⟩ := h2
  refine ⟨⟨_, _, h1⟩, fun cs t fr e => ?_⟩
  rw [h3] at e
  injection e with e
  cases e
theorem Mid.turn {S : Nat → Prop} {w X W : World} {gq gw gc : Nat} {g ch : Nat → Nat} {room : Nat} {lsq lsq' lsw : Nat → List ByteArray} {clq clq' clw : Nat → Bool} (h : Mid w X gq gw gc g ch room lsq clq lsw clw) (hD : Dst w.heap.size g ch) (hc : Chg S X W) (hS : ∀ k, S k → ∃ i, i < 3 ∧ (k = g i ∨ k = ch i)) (hq : QS W g ch room lsq' clq') (hl : ∀ i, i < 3 → (lsq' i).length ≤ room ∧ ∀ x ∈ lsq' i, x.size ≤ 100) : Mid w W gq gw gc g ch room lsq' clq' lsw clw := by
  have hn : ∀ k cs (t : Nat) fr, t ≠ 49 → X.heap[k]? = some (.cells cs t fr) → ¬ S k := by
    intro k cs t fr ht hk hs
    obtain ⟨i, hi, e⟩ := hS k hs
    obtain ⟨⟨cs', fr', o1⟩, o2⟩ := (h.q i hi).obj
    rcases e with e | e
    · subst e
      rw [o1] at hk
      injection hk with hk
      injection hk with _ hk
      exact ht hk.symm
    · subst e
      exact o2 _ _ _ hk
  obtain ⟨v, h1, h2⟩ := h.s
  refine ⟨hq, ⟨v, hc.heap h1 (hn _ _ _ _ (by decide) h1), fun q hq => (h2 q hq).chg hc (fun k hk cs fr e => hn k cs _ fr (by decide) e hk)⟩, hc.heap h.c (hn _ _ _ _ (by decide) h.c), hc.heap h.p (hn _ _ _ _ (by decide) h.p), hl, ?_, h.wb, h.cb⟩
  refine Chg.below h.b hc h.b.size (fun k hk => ?_)
  obtain ⟨i, hi, e | e⟩ := hS k hk
  · rw [e]; exact hD.gb i hi
  · rw [e]; exact hD.cb i hi
theorem Mid.other {w W W' : World} {gq gw gc b : Nat} {g ch : Nat → Nat} {room : Nat} {lsq lsw : Nat → List ByteArray} {clq clw : Nat → Bool} {cs : Array Value} {t : Nat} {fr : Nat × Nat} (h : Mid w W gq gw gc g ch room lsq clq lsw clw) (hb : W.heap[b]? = some (.cells cs t fr)) (h1 : t ≠ 49) (h2 : t ≠ 5) (hc : Chg (· = b) W W') : QS W' g ch room lsq clq := by
  intro i hi
  obtain ⟨⟨cs', fr', o1⟩, o2⟩ := (h.q i hi).obj
  refine (h.q i hi).chg hc (fun e => ?_) (fun e => o2 cs t fr (by rw [e]; exact hb)) (fun k hk cs'' fr'' e => ?_)
  · rw [← e, o1] at hb
    injection hb with hb
    injection hb with _ hb
    exact h1 hb.symm
  · rw [hk, hb] at e
    injection e with e
    injection e with _ e
    exact h2 e
theorem ne_of_types {w : World} {a b : Nat} {cs cs' : Array Value} {t t' : Nat} {fr fr' : Nat × Nat} (ha : w.heap[a]? = some (.cells cs t fr)) (hb : w.heap[b]? = some (.cells cs' t' fr')) (h : t ≠ t') : a ≠ b := by
  intro e
  subst e
  rw [ha] at hb
  injection hb with hb
  injection hb with _ hb
  exact h hb
theorem Mid.setc {w W : World} {gq gw gc : Nat} {g ch : Nat → Nat} {room : Nat} {lsq lsw : Nat → List ByteArray} {clq clw : Nat → Bool} (h : Mid w W gq gw gc g ch room lsq clq lsw clw) (q : Nat) (hq : q < 3) (b : Bool) : Mid w (W.setCell ⟨gc, q, none⟩ (.bool b)) gq gw gc g ch room lsq clq lsw (upq clw q b) := by
  have hc := Chg.setCell W gc q (.bool b)
  obtain ⟨v, h1, h2⟩ := h.s
  refine ⟨h.other h.c (by decide) (by decide) hc, ⟨v, hc.heap h1 (ne_of_types h1 h.c (by decide)), fun i hi => (h2 i hi).chg hc (fun k hk cs fr e => ?_)⟩, ?_, hc.heap h.p (ne_of_types h.p h.c (by decide)), h.l, h.b.setCell (p := ⟨gc, q, none⟩) h.cb _, h.wb, h.cb⟩
  · rw [hk] at e
    exact ne_of_types e h.c (by decide) rfl
  · have := set3 (v := fun i => Value.bool (clw i)) h.c (.bool b) q hq
    unfold CS
    rw [this]
    unfold upq
    simp only [apply_ite Value.bool]
theorem Mid.setw {w W : World} {gq gw gc : Nat} {g ch : Nat → Nat} {room : Nat} {lsq lsw : Nat → List ByteArray} {clq clw : Nat → Bool} (h : Mid w W gq gw gc g ch room lsq clq lsw clw) (q : Nat) (hq : q < 3) {v' : Value} {ss : List ByteArray} (hv : StrV W v' ss) : Mid w (W.setCell ⟨gw, q, none⟩ v') gq gw gc g ch room lsq clq (upq lsw q ss) clw := by
  have hc := Chg.setCell W gw q v'
  obtain ⟨v, h1, h2⟩ := h.s
  have hs : ∀ k, k = gw → ∀ cs fr, W.heap[k]? ≠ some (.cells cs 9 fr) := fun k hk cs fr e => by
    rw [hk] at e
    exact ne_of_types e h1 (by decide) rfl
  refine ⟨h.other h1 (by decide) (by decide) hc, ⟨upq v q v', set3 h1 v' q hq, fun i hi => ?_⟩, hc.heap h.c (ne_of_types h.c h1 (by decide)), hc.heap h.p (ne_of_types h.p h1 (by decide)), h.l, h.b.setCell (p := ⟨gw, q, none⟩) h.wb _, h.wb, h.cb⟩
  unfold upq
  split
  · exact hv.chg hc hs
  · exact (h2 i hi).chg hc hs
/-- what a walk reads -/
theorem Mid.cells {w W : World} {gq gw gc : Nat} {g ch : Nat → Nat} {room : Nat} {lsq lsw : Nat → List ByteArray} {clq clw : Nat → Bool} (h : Mid w W gq gw gc g ch room lsq clq lsw clw) {gx : Nat} {op q to : Int} {s : ByteArray} (hx : W.heap[gx]? = some (.cells #[.int .i64 op, .int .i64 q, .int .i64 to, .string s] 45)) :
    ∃ v : Nat → Value, Cells W gx gq gw gc g v clw op q to s ∧ ∀ i, i < 3 → StrV W (v i) (lsw i) := by
  obtain ⟨v, h1, h2⟩ := h.s
  exact ⟨v, ⟨hx, h.p, h1, h.c⟩, h2⟩
/-- one queue turns -/
theorem QS.one {S : Nat → Prop} {W W' : World} {g ch : Nat → Nat} {room B : Nat} {ls : Nat → List ByteArray} {cl : Nat → Bool} (h : QS W g ch room ls cl) (hD : Dst B g ch) (q : Nat) (hq : q < 3) (hc : Chg S W W') (hS : ∀ k, S k → k = g q ∨ k = ch q) {l' : List ByteArray} {b' : Bool} (hQ : Qu W' (g q) (ch q) room (bys l') b') : QS W' g ch room (upq ls q l') (upq cl q b') := by
  intro i hi
  by_cases e : i = q
  · subst e
    rw [upq_same, upq_same]; exact hQ
  · rw [upq_other _ _ _ _ e, upq_other _ _ _ _ e]
    obtain ⟨⟨cs', fr', o1⟩, o2⟩ := (h q hq).obj
    obtain ⟨⟨cs, fr, p1⟩, p2⟩ := (h i hi).obj
    refine (h i hi).chg hc (fun hs => ?_) (fun hs => ?_) (fun k hk cs'' fr'' e2 => ?_)
    · rcases hS _ hs with e3 | e3
      · exact hD.gi i q hi hq e e3
      · exact o2 _ _ _ (by rw [← e3]; exact p1)
    · rcases hS _ hs with e3 | e3
      · exact p2 _ _ _ (by rw [e3]; exact o1)
      · exact hD.ci i q hi hq e e3
    · rcases hS _ hk with e3 | e3
      · rw [e3] at e2; exact ne_of_types e2 o1 (by decide) rfl
      · rw [e3] at e2; exact o2 _ _ _ e2
def chkTbl (n : Nat) (b : Bool) : Nat → Option Sp
  | 4 => some (.val (.int .i64 n))
  | 15 => some (.val (.bool b))
  | _ => none
theorem act_room (X : World) (o : Obj) : X.heap.size < (X.alloc o).heap.size := by simp
end Go.Proofs.Ythecekkophbceaa
