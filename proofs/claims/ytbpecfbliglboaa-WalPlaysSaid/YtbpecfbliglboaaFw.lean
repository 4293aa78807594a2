/- Words for what lies in memory: bytes that are read, lists of them; and how they live on while a call makes new memory. -/
import Derived.WalkKit
import Derived.WalkSpells
import Derived.WalkLawsBesides
import Derived.LoopTactic
import Derived.Outline
import Derived.Deep.LoopGhost
import Derived.Lib.Hide
import Derived.Deep.Light
import Derived.Below
import Derived.Deep.DeepFit
import Derived.Deep.DeepMust
import Derived.Handy
import Derived.Laws.BitsLemmas
import Derived.Laws.AppendOwn
import Derived.Lib.SlBytesConst
import Derived.Maps.AppendAt
import Derived.Laws.MakeOwn
import Derived.Deep.OwnRows
import Derived.Laws.Rows
namespace Go.Proofs.Ytbpecfbliglboaa
set_option linter.unusedVariables false
set_option linter.unusedSimpArgs false
open Go.RowKit

theorem cell_below {w w1 : World} (h : Below w.heap.size w w1) {a : Addr} {v : Value} (hc : w.cell? a = some v) : w1.cell? a = some v :=
  (h.cell (World.block_lt_of_cell? w a hc)).trans hc
theorem cell_alloc {w : World} (o : Obj) {a : Addr} {v : Value} (hc : w.cell? a = some v) : (w.alloc o).cell? a = some v :=
  cell_below ((Below.refl _ w).alloc (Nat.le_refl _) o) hc
theorem below_then {B : Nat} {w w1 w2 : World} (h : Below B w w1) (hB : B ≤ w1.heap.size) (k : Below w1.heap.size w1 w2) : Below B w w2 :=
  h.trans (k.mono hB)
theorem below_add {w w1 : World} (h : Below w.heap.size w w1) {w2 : World} (k : Below w1.heap.size w1 w2) : Below w.heap.size w w2 :=
  below_then h h.size k

/-- The bytes l are read from A on. -/
def Rd (w : World) (A : Option Addr) (l : List UInt8) : Prop :=
  l.length ≤ 9223372036854775807 ∧ (0 < l.length → ∃ a, A = some a ∧ ∀ j, (h : j < l.length) → w.cell? (a.add j) = some (.int .u8 (l[j].toNat : Int)))
theorem Rd.nil (w : World) (A : Option Addr) : Rd w A [] := ⟨by simp, by simp⟩
theorem Rd.below {w w1 : World} {A : Option Addr} {l : List UInt8} (h : Rd w A l) (hb : Below w.heap.size w w1) : Rd w1 A l :=
  ⟨h.1, fun hp => by
    obtain ⟨a, e, hc⟩ := h.2 hp
    exact ⟨a, e, fun j hj => cell_below hb (hc j hj)⟩⟩
theorem Rd.alloc {w : World} {A : Option Addr} {l : List UInt8} (h : Rd w A l) (o : Obj) : Rd (w.alloc o) A l :=
  h.below ((Below.refl _ w).alloc (Nat.le_refl _) o)
theorem Rd.at_ {w : World} {A : Option Addr} {l : List UInt8} (h : Rd w A l) (k : Nat) (hk : k < l.length) :
    ∃ a, A = some a ∧ w.cell? (a.add k) = some (.int .u8 (l[k].toNat : Int)) := by
  obtain ⟨a, e, hc⟩ := h.2 (by omega)
  exact ⟨a, e, hc k hk⟩

/-- A list of slices of bytes is read from A on. -/
def Rdl (w : World) (A : Option Addr) (ls : List (List UInt8)) : Prop :=
  ls.length ≤ 9223372036854775807 ∧ (0 < ls.length → ∃ a, A = some a ∧ ∀ j, (h : j < ls.length) → ∃ A' c', w.cell? (a.add j) = some (.slice A' ls[j].length c') ∧ ls[j].length ≤ c' ∧ Rd w A' ls[j])
theorem Rdl.below {w w1 : World} {A : Option Addr} {ls : List (List UInt8)} (h : Rdl w A ls) (hb : Below w.heap.size w w1) : Rdl w1 A ls :=
  ⟨h.1, fun hp => by
    obtain ⟨a, e, hc⟩ := h.2 hp
    refine ⟨a, e, fun j hj => ?_⟩
    obtain ⟨A', c', h1, h2, h3⟩ := hc j hj
    exact ⟨A', c', cell_below hb h1, h2, h3.below hb⟩⟩
theorem Rdl.nil (w : World) (A : Option Addr) : Rdl w A [] := ⟨by simp, by simp⟩
theorem Rdl.at_ {w : World} {A : Option Addr} {ls : List (List UInt8)} (h : Rdl w A ls) (k : Nat) (hk : k < ls.length) :
    ∃ a A' c', A = some a ∧ w.cell? (a.add k) = some (.slice A' ls[k].length c') ∧ ls[k].length ≤ c' ∧ Rd w A' ls[k] := by
  obtain ⟨a, e, hc⟩ := h.2 (by omega)
  obtain ⟨A', c', h1, h2, h3⟩ := hc k hk
  exact ⟨a, A', c', e, h1, h2, h3⟩

/-- '[]byte("..")' of a constant, wherever the new block lies. -/
theorem conv_const {P : Program} {t e : TypeId} (ht : P.underlying t = some (.slice e)) (he : P.underlying e = some (.int .u8)) :
    ∀ (w : World) (C : Array Value) (n c g : Nat), g = w.heap.size → (convert t t (.slice (some ⟨g, 0, none⟩) n c)).run P (w.alloc (.cells C e)) = .ok (.slice (some ⟨g, 0, none⟩) n c) (w.alloc (.cells C e (C.size, C.size + 1))) := by
  rintro w C n c g rfl
  exact Lib.run_convert_bytes_const w t e C n c ht he
/-- A block that holds bytes is read as those bytes. -/
def bv (l : List UInt8) : Array Value := (l.map fun b => Value.int .u8 (b.toNat : Int)).toArray
theorem Rd.of_block {w : World} {g t : Nat} {fr : Nat × Nat} {l : List UInt8} (h : w.heap[g]? = some (.cells (bv l) t fr)) (hl : l.length ≤ 9223372036854775807) : Rd w (some ⟨g, 0, none⟩) l :=
  ⟨hl, fun _ => ⟨_, rfl, fun j hj => by
    have : (⟨g, 0, none⟩ : Addr).add j = ⟨g, j, none⟩ := by unfold Addr.add; split <;> simp_all
    rw [this, cell_of_row w g j _ _ _ h]
    simp [bv, hj]⟩⟩
theorem heap_new (w : World) (o : Obj) (g : Nat) (hg : g = w.heap.size) : (w.alloc o).heap[g]? = some o := by
  subst hg; exact heap_alloc_new w o
theorem heap_new_drew (w : World) (o : Obj) (g : Nat) (hg : g = w.heap.size) : (w.alloc o).drew.heap[g]? = some o := heap_new w o g hg
theorem heap_old {w : World} {o x : Obj} {g : Nat} (h : w.heap[g]? = some x) : (w.alloc o).heap[g]? = some x := by
  have hg : g < w.heap.size := (Array.getElem?_eq_some_iff.1 h).1
  show (w.heap.push o)[g]? = some x
  rw [Array.getElem?_push, if_neg (by omega)]; exact h
def Cellsl (w : World) : List Value → List (List UInt8) → Prop
  | [], [] => True
  | v :: vs, l :: ls => (∃ A c, v = .slice A l.length c ∧ l.length ≤ c ∧ Rd w A l) ∧ Cellsl w vs ls
  | _, _ => False
theorem Cellsl.at_ {w : World} : ∀ {vs : List Value} {ls : List (List UInt8)}, Cellsl w vs ls → vs.length = ls.length ∧ ∀ j, (hj : j < ls.length) → ∃ A c, vs[j]? = some (.slice A ls[j].length c) ∧ ls[j].length ≤ c ∧ Rd w A ls[j]
  | [], [], _ => ⟨rfl, fun j hj => absurd hj (by simp)⟩
  | v :: vs, l :: ls, ⟨⟨A, c, h1, h2, h3⟩, h⟩ => by
    obtain ⟨e, hr⟩ := Cellsl.at_ h
    refine ⟨by simp [e], fun j hj => ?_⟩
    cases j with
    | zero => exact ⟨A, c, by simp [h1], h2, h3⟩
    | succ j => simpa using hr j (by simpa using hj)
theorem Rdl.of_block {w : World} {g t : Nat} {fr : Nat × Nat} {ls : List (List UInt8)} {vs : List Value} (h : w.heap[g]? = some (.cells vs.toArray t fr)) (hl : ls.length ≤ 9223372036854775807) (he : Cellsl w vs ls) : Rdl w (some ⟨g, 0, none⟩) ls :=
  ⟨hl, fun _ => ⟨_, rfl, fun j hj => by
    have : (⟨g, 0, none⟩ : Addr).add j = ⟨g, j, none⟩ := by unfold Addr.add; split <;> simp_all
    obtain ⟨A, c, h1, h2, h3⟩ := he.at_.2 j hj
    refine ⟨A, c, ?_, h2, h3⟩
    rw [this, cell_of_row w g j _ _ _ h]
    simpa using h1⟩⟩

/-! ### slices of the call's own -/
theorem own_base {w : World} {base : Nat} {e : TypeId} {size n : Nat} {v : Value} {xs : List Value} (h : w.ownsRow base e size v n xs) (k : Nat) (hk : v.ownBlock = some k) : base ≤ k := (h.lt k hk).1
/-- what is appended: cells that are read, nil let in -/
def Src (w : World) (A : Option Addr) (news : List Value) : Prop := 0 < news.length → ∃ ad, A = some ad ∧ ∀ j u, news[j]? = some u → w.cell? (ad.add j) = some u
theorem wpList_app {P : Program} {ops : Array Oper} {rest : List Oper} {o : Oper} {a : Act} {Q : Exit → Act → World → Prop} {w0 w : World} (base : Nat) (hgd : o.guard = none) (s x : Operand) (t e : TypeId) (z : Value) (size bytes : Nat)
    (ho : o.op = .call { callee := .builtin .append, args := #[s, x], argTypes := #[t, t] })
    (ht : P.underlying t = some (.slice e)) (hinfo : (P.info? e).map (fun i => (i.zero, i.size, i.bytes)) = some (some z, size, bytes)) (hz : z.cells.size = size) (hsz : 0 < size) (hb0 : 0 < bytes)
    (v : Value) (n : Nat) (xs news : List Value) (A : Option Addr) (m c : Nat) (hs : a.eval s = v) (hx : a.eval x = .slice A m c)
    (HO : w.ownsRow base e size v n xs) (hl : news.length = m * size) (HR : Src w A news) (h1 : ∀ u ∈ news, u.oneCell' = true) (HB : Below base w0 w) (hbase : base ≤ w.heap.size) (hlen : (n + m) * bytes ≤ 140737488355328)
    (h : ∀ v1 w1, w1.ownsRow base e size v1 (n + m) (xs ++ news) → Below base w0 w1 → w.grownBy w1 v.ownBlock → (v1.ownBlock = v.ownBlock ∨ v1.ownBlock = some w.heap.size) → wpList P ops Q rest (a.put o.dst v1) w1) :
    wpList P ops Q (o :: rest) a w := by
  obtain ⟨i0, hi, hzz⟩ := Option.map_eq_some_iff.1 hinfo
  simp only [Prod.mk.injEq] at hzz
  obtain ⟨hz0, hz1, hz2⟩ := hzz
  have hnm : n + m ≤ 140737488355328 := Nat.le_trans (Nat.le_mul_of_pos_right _ hb0) hlen
  have hrun : ∃ v1 w1, (Builtin.append_ #[t, t] o.type #[v, .slice A m c]).run P w = .ok v1 w1 ∧ w1.ownsRow base e size v1 (n + m) (xs ++ news) ∧ w.grownBy w1 v.ownBlock ∧ (v1.ownBlock = v.ownBlock ∨ v1.ownBlock = some w.heap.size) := by
    rcases A with _ | ad
    · have h0 : news.length = 0 := by
        rcases Nat.eq_zero_or_pos news.length with h0 | h0
        · exact h0
        · obtain ⟨ad, h, _⟩ := HR h0
          cases h
      have hm0 : m = 0 := by
        rw [hl] at h0
        rcases Nat.mul_eq_zero.1 h0 with h2 | h2
        · exact h2
        · omega
      subst hm0
      obtain rfl : news = [] := List.eq_nil_of_length_eq_zero h0
      refine ⟨v, w, ?_, by simpa using HO, World.grownBy.refl w _, .inl rfl⟩
      rcases HO.2 with ⟨rfl, hn⟩ | ⟨g, cap, cur, rfl, _, _, hnc, _⟩
      · simp [Builtin.append_, run_underlying ht, sizeOf, typeInfo, hi, Builtin.lenOf, Builtin.firstCells]
      · simp [Builtin.append_, run_underlying ht, sizeOf, typeInfo, hi, Builtin.lenOf, Builtin.firstCells, hnc, storeCells]
    · have hcells : ∀ j u, news[j]? = some u → w.cell? (ad.add j) = some u := by
        intro j u hu
        have hj : j < news.length := (List.getElem?_eq_some_iff.1 hu).1
        obtain ⟨ad', h', hc⟩ := HR (by omega)
        injection h' with h'
        subst h'
        exact hc j u hu
      obtain ⟨v1, w1, hr, h2, h3, _, h5⟩ := run_append_own_at (P := P) w base t o.type e i0 z size bytes ht hi hz0 hz1 hz2 hz hsz v n xs HO ad m c news hl hcells h1 (by simp only [maxLen]; omega) hlen hbase
      exact ⟨v1, w1, hr, h2, h3, h5⟩
  obtain ⟨v1, w1, hr, hown, hg, hat⟩ := hrun
  refine wpList_plain hgd fun K hK => ?_
  unfold Oper.wp execOp
  simp only [ho, resolve, invoke, builtin, Sem.run_bind, Sem.run_pure, Result.andThen_ok, List.map_toArray, List.map_cons, List.map_nil, hs, hx, hr]
  exact hK _ _ (h v1 w1 hown (HB.grown hg hbase (own_base HO)) hg hat)
def bvl (l : List UInt8) : List Value := l.map fun b => Value.int .u8 (b.toNat : Int)
theorem bvl_length (l : List UInt8) : (bvl l).length = l.length := by simp [bvl]
theorem bvl_append (l m : List UInt8) : bvl (l ++ m) = bvl l ++ bvl m := by simp [bvl]
theorem bvl_one (l : List UInt8) : ∀ u ∈ bvl l, u.oneCell' = true := by
  intro u hu
  obtain ⟨b, _, rfl⟩ := List.mem_map.1 hu
  rfl
theorem bvl_at (l : List UInt8) (j : Nat) (h : j < l.length) : (bvl l)[j]? = some (.int .u8 (l[j].toNat : Int)) := by simp [bvl, h]
theorem Src.of_rd {w : World} {A : Option Addr} {l : List UInt8} (h : Rd w A l) : Src w A (bvl l) := fun hp => by
  rw [bvl_length] at hp
  obtain ⟨a, e, hc⟩ := h.2 hp
  refine ⟨a, e, fun j u hu => ?_⟩
  have hj : j < l.length := by have := (List.getElem?_eq_some_iff.1 hu).1; rwa [bvl_length] at this
  rw [bvl_at l j hj] at hu
  injection hu with hu
  rw [← hu]
  exact hc j hj
/-- The bytes l in a slice of the call's own. -/
def Ob (w : World) (base e : Nat) (v : Value) (l : List UInt8) : Prop := w.ownsRow base e 1 v l.length (bvl l)
theorem Ob.nil (w : World) (base e : Nat) : Ob w base e (.slice none 0 0) [] := ⟨by simp [bvl], .inl ⟨rfl, rfl⟩⟩
theorem Ob.rd {w : World} {base e : Nat} {v : Value} {l : List UInt8} (h : Ob w base e v l) : ∃ A c, v = .slice A l.length c ∧ l.length ≤ c ∧ Rd w A l := by
  rcases h.2 with ⟨rfl, hn⟩ | ⟨g, cap, cur, rfl, hb, hh, hc, hm, hsz, htk⟩
  · obtain rfl : l = [] := List.eq_nil_of_length_eq_zero hn
    exact ⟨none, 0, rfl, Nat.le_refl _, Rd.nil _ _⟩
  · refine ⟨_, cap, rfl, hc, by simp only [maxLen] at hm; omega, fun _ => ⟨_, rfl, fun j hj => ?_⟩⟩
    exact World.ownsRow.cells (g := g) h rfl j _ (bvl_at l j hj)
theorem Ob.below {w w1 : World} {base e : Nat} {v : Value} {l : List UInt8} (h : Ob w base e v l) (hb : Below w.heap.size w w1) : Ob w1 base e v l :=
  World.ownsRow.kept h ⟨hb.os, hb.tape, hb.output, hb.size, fun k hk _ => hb.block k hk⟩ (row := none) (by cases v.ownBlock <;> simp)
theorem Ob.empty (w : World) (base e : Nat) (hb : base ≤ w.heap.size) : Ob (w.alloc (.cells #[] e)) base e (.slice (some ⟨w.heap.size, 0, none⟩) 0 0) [] :=
  World.ownsRow_made w #[] 0 hb (Nat.zero_le _) rfl
/-- append(v, x...) of bytes. -/
theorem wpList_appb {P : Program} {ops : Array Oper} {rest : List Oper} {o : Oper} {a : Act} {Q : Exit → Act → World → Prop} {w0 w : World} (base : Nat) (hgd : o.guard = none) (s x : Operand) (t e : TypeId)
    (ho : o.op = .call { callee := .builtin .append, args := #[s, x], argTypes := #[t, t] })
    (ht : P.underlying t = some (.slice e)) (hinfo : (P.info? e).map (fun i => (i.zero, i.size, i.bytes)) = some (some (.int .u8 0), 1, 1))
    (v : Value) (l m : List UInt8) (A : Option Addr) (c : Nat) (hs : a.eval s = v) (hx : a.eval x = .slice A m.length c)
    (HO : Ob w base e v l) (HR : Rd w A m) (HB : Below base w0 w) (hbase : base ≤ w.heap.size) (hlen : l.length + m.length ≤ 140737488355328)
    (h : ∀ v1 w1, Ob w1 base e v1 (l ++ m) → Below base w0 w1 → w.grownBy w1 v.ownBlock → (v1.ownBlock = v.ownBlock ∨ v1.ownBlock = some w.heap.size) → wpList P ops Q rest (a.put o.dst v1) w1) :
    wpList P ops Q (o :: rest) a w :=
  wpList_app base hgd s x t e (.int .u8 0) 1 1 ho ht hinfo rfl (by decide) (by decide) v l.length (bvl l) (bvl m) A m.length c hs hx HO (by rw [bvl_length]; omega) (Src.of_rd HR) (bvl_one m) HB hbase (by omega)
    fun v1 w1 h1 h2 h3 h4 => h v1 w1 (by unfold Ob; rw [bvl_append, List.length_append]; exact h1) h2 h3 h4
/-! ### a row of bytes of the call's own that is written -/
def Mb (w : World) (g e : Nat) (l : List UInt8) : Prop := l.length ≤ 9223372036854775807 ∧ ∃ cur, w.heap[g]? = some (.cells cur e (0, 0)) ∧ l.length ≤ cur.size ∧ ∀ j, (h : j < l.length) → cur[j]? = some (.int .u8 (l[j].toNat : Int))
theorem Mb.cell {w : World} {g e : Nat} {l : List UInt8} (h : Mb w g e l) (j : Nat) (hj : j < l.length) : w.cell? ⟨g, j, none⟩ = some (.int .u8 (l[j].toNat : Int)) ∧ w.frozen? ⟨g, j, none⟩ = false := by
  obtain ⟨_, cur, h1, h2, h3⟩ := h
  exact ⟨by rw [cell_of_row w g j _ _ _ h1]; exact h3 j hj, frozen_of_row w g j _ _ h1⟩
theorem Mb.lt {w : World} {g e : Nat} {l : List UInt8} (h : Mb w g e l) : g < w.heap.size := by
  obtain ⟨_, cur, h1, _⟩ := h
  exact (Array.getElem?_eq_some_iff.1 h1).1
theorem Mb.set {w : World} {g e : Nat} {l : List UInt8} (h : Mb w g e l) (j : Nat) (b : UInt8) : Mb (w.setCell ⟨g, j, none⟩ (.int .u8 (b.toNat : Int))) g e (l.set j b) := by
  obtain ⟨h0, cur, h1, h2, h3⟩ := h
  refine ⟨by simpa using h0, _, heap_setCell_same w g j _ _ _ h1, by simpa using h2, fun i hi => ?_⟩
  rw [Array.getElem?_setIfInBounds, List.getElem_set]
  have hi' : i < l.length := by simpa using hi
  by_cases e1 : j = i
  · subst e1
    simp; omega
  · simp only [e1, if_false]
    exact h3 i hi'
theorem Mb.rd {w : World} {g e : Nat} {l : List UInt8} (h : Mb w g e l) : Rd w (some ⟨g, 0, none⟩) l :=
  ⟨h.1, fun _ => ⟨_, rfl, fun j hj => by
    have : (⟨g, 0, none⟩ : Addr).add j = ⟨g, j, none⟩ := by unfold Addr.add; split <;> simp_all
    rw [this]; exact (h.cell j hj).1⟩⟩
theorem Mb.below {w w1 : World} {g e : Nat} {l : List UInt8} (h : Mb w g e l) (hb : Below w.heap.size w w1) : Mb w1 g e l := by
  have hl := h.lt
  obtain ⟨h0, cur, h1, h2, h3⟩ := h
  exact ⟨h0, cur, (hb.block g hl).trans h1, h2, h3⟩
theorem Ob.mb {w : World} {base e : Nat} {v : Value} {l : List UInt8} (h : Ob w base e v l) (hp : 0 < l.length) : ∃ g c, v = .slice (some ⟨g, 0, none⟩) l.length c ∧ base ≤ g ∧ l.length ≤ c ∧ Mb w g e l := by
  rcases h.2 with ⟨rfl, hn⟩ | ⟨g, cap, cur, rfl, hb, hh, hc, hm, hsz, htk⟩
  · omega
  · refine ⟨g, cap, rfl, hb, hc, by simp only [maxLen] at hm; omega, cur, hh, by omega, fun j hj => ?_⟩
    have := World.ownsRow.cells (g := g) h rfl j _ (bvl_at l j hj)
    have ha : (⟨g, 0, none⟩ : Addr).add j = ⟨g, j, none⟩ := by unfold Addr.add; split <;> simp_all
    rw [ha, cell_of_row w g j _ _ _ hh] at this
    exact this
/-- make([]byte, n) -/
theorem make_bytes {P : Program} (t e : TypeId) (ht : P.underlying t = some (.slice e)) (hinfo : (P.info? e).map (fun i => (i.zero, i.size, i.bytes)) = some (some (.int .u8 0), 1, 1)) (m : Nat) (hn : m ≤ 281474976710656) :
    ∀ W : World, (Instr.makeSlice t (.int .i64 (m : Int)) (.int .i64 (m : Int))).run P W = .ok (.slice (some ⟨W.heap.size, 0, none⟩) m m) (W.alloc (.cells (madeCells #[.int .u8 0] m) e)) :=
  fun W => run_make_row' t e (.int .u8 0) 1 ht hinfo rfl .i64 .i64 m (by omega) (by omega) W
theorem Mb.made (W : World) (e m : Nat) (hm : m ≤ 281474976710656) : Mb (W.alloc (.cells (madeCells #[.int .u8 0] m) e)) W.heap.size e (List.replicate m 0) :=
  ⟨by simp; omega, _, heap_new W _ _ rfl, by simp [size_madeCells], fun j hj => by
    have hj' : j < m := by simpa using hj
    simp [madeCells, hj', Nat.mod_one]⟩
/-- append(v, x...) of bytes, the length told. -/
theorem wpList_appn {P : Program} {ops : Array Oper} {rest : List Oper} {o : Oper} {a : Act} {Q : Exit → Act → World → Prop} {w0 w : World} (base : Nat) (hgd : o.guard = none) (s x : Operand) (t e : TypeId)
    (ho : o.op = .call { callee := .builtin .append, args := #[s, x], argTypes := #[t, t] })
    (ht : P.underlying t = some (.slice e)) (hinfo : (P.info? e).map (fun i => (i.zero, i.size, i.bytes)) = some (some (.int .u8 0), 1, 1))
    (v : Value) (l m : List UInt8) (A : Option Addr) (k c : Nat) (hs : a.eval s = v) (hx : a.eval x = .slice A k c) (hk : m.length = k)
    (HO : Ob w base e v l) (HR : Rd w A m) (HB : Below base w0 w) (hbase : base ≤ w.heap.size) (hlen : l.length + k ≤ 140737488355328)
    (h : ∀ v1 w1, Ob w1 base e v1 (l ++ m) → Below base w0 w1 → w.grownBy w1 v.ownBlock → (v1.ownBlock = v.ownBlock ∨ v1.ownBlock = some w.heap.size) → wpList P ops Q rest (a.put o.dst v1) w1) :
    wpList P ops Q (o :: rest) a w := by
  subst hk
  exact wpList_appb base hgd s x t e ho ht hinfo v l m A c hs hx HO HR HB hbase hlen h
theorem ret_int {k : IntKind} {a b : Int} (h : a = b) : Ending.returned (.int k a) = .returned (.int k b) := by rw [h]
theorem val_int {k : IntKind} {a b : Int} (h : a = b) : Value.int k a = .int k b := by rw [h]
theorem take_succ_at {α : Type} (l : List α) (k : Nat) (h : k < l.length) : l.take (k + 1) = l.take k ++ [l[k]] := by
  rw [List.take_succ_eq_append_getElem h]
/-! ### what a call that was given a row to write has kept -/
/-- From w to w1 the row of v alone has been written; v1's row is v's, or new. -/
def Wrote (w w1 : World) (v v1 : Value) : Prop := w.grownBy w1 v.ownBlock ∧ (v1.ownBlock = v.ownBlock ∨ ∃ b, v1.ownBlock = some b ∧ w.heap.size ≤ b)
theorem Wrote.refl (w : World) (v : Value) : Wrote w w v v := ⟨World.grownBy.refl w _, .inl rfl⟩
theorem Wrote.trans {w w1 w2 : World} {v v1 v2 : Value} (h : Wrote w w1 v v1) (k : Wrote w1 w2 v1 v2) : Wrote w w2 v v2 := by
  obtain ⟨h1, h2⟩ := h
  obtain ⟨k1, k2⟩ := k
  refine ⟨⟨k1.os.trans h1.os, k1.tape.trans h1.tape, k1.output.trans h1.output, Nat.le_trans h1.size k1.size, fun i hi hne => ?_⟩, ?_⟩
  · refine (k1.block i (Nat.lt_of_lt_of_le hi h1.size) (fun e => ?_)).trans (h1.block i hi hne)
    rcases h2 with h2 | ⟨b, hb, hle⟩
    · exact hne (e.trans h2)
    · rw [hb] at e
      injection e with e
      omega
  · rcases k2 with k2 | ⟨b, hb, hle⟩
    · rcases h2 with h2 | ⟨b, hb, hle⟩
      · exact .inl (k2.trans h2)
      · exact .inr ⟨b, k2.trans hb, hle⟩
    · exact .inr ⟨b, hb, Nat.le_trans h1.size hle⟩
theorem Wrote.alloc {w w1 : World} {v v1 : Value} (h : Wrote w w1 v v1) (o : Obj) : Wrote w (w1.alloc o) v v1 :=
  h.trans ⟨World.grownBy_alloc w1 o _, .inl rfl⟩
theorem Wrote.below {w w1 : World} {v v1 : Value} (h : Wrote w w1 v v1) {B : Nat} (hB : B ≤ w.heap.size) (hv : ∀ k, v.ownBlock = some k → B ≤ k) : Below B w w1 :=
  ⟨h.1.os, h.1.tape, h.1.output, h.1.size, fun k hk => h.1.block k (by omega) (fun e => by have := hv k e.symm; omega)⟩
theorem Wrote.cell {w w1 : World} {v v1 : Value} (h : Wrote w w1 v v1) {a : Addr} {x : Value} (hc : w.cell? a = some x) (hne : some a.block ≠ v.ownBlock) : w1.cell? a = some x := h.1.cell hc hne
theorem Wrote.blk {w w1 : World} {v v1 : Value} (h : Wrote w w1 v v1) {g : Nat} {o : Obj} (hc : w.heap[g]? = some o) (hne : some g ≠ v.ownBlock) : w1.heap[g]? = some o :=
  (h.1.block g (Array.getElem?_eq_some_iff.1 hc).1 hne).trans hc
theorem ownBlock_nil : (Value.slice none 0 0).ownBlock = none := rfl
/-- The operation itself. -/
theorem wp_app {P : Program} {o : Oper} {a : Act} {K : Act → World → Prop} {Q : Exit → Act → World → Prop} {w : World} (base : Nat) (s x : Operand) (t e : TypeId) (z : Value) (size bytes : Nat)
    (ho : o.op = .call { callee := .builtin .append, args := #[s, x], argTypes := #[t, t] })
    (ht : P.underlying t = some (.slice e)) (hinfo : (P.info? e).map (fun i => (i.zero, i.size, i.bytes)) = some (some z, size, bytes)) (hz : z.cells.size = size) (hsz : 0 < size) (hb0 : 0 < bytes)
    (v : Value) (n : Nat) (xs news : List Value) (A : Option Addr) (m c : Nat) (hs : a.eval s = v) (hx : a.eval x = .slice A m c)
    (HO : w.ownsRow base e size v n xs) (hl : news.length = m * size) (HR : Src w A news) (h1 : ∀ u ∈ news, u.oneCell' = true) (hbase : base ≤ w.heap.size) (hlen : (n + m) * bytes ≤ 140737488355328)
    (h : ∀ v1 w1, w1.ownsRow base e size v1 (n + m) (xs ++ news) → Wrote w w1 v v1 → K (a.put o.dst v1) w1) : o.wp P a w K Q := by
  obtain ⟨i0, hi, hzz⟩ := Option.map_eq_some_iff.1 hinfo
  simp only [Prod.mk.injEq] at hzz
  obtain ⟨hz0, hz1, hz2⟩ := hzz
  have hnm : n + m ≤ 140737488355328 := Nat.le_trans (Nat.le_mul_of_pos_right _ hb0) hlen
  have hrun : ∃ v1 w1, (Builtin.append_ #[t, t] o.type #[v, .slice A m c]).run P w = .ok v1 w1 ∧ w1.ownsRow base e size v1 (n + m) (xs ++ news) ∧ w.grownBy w1 v.ownBlock ∧ (v1.ownBlock = v.ownBlock ∨ v1.ownBlock = some w.heap.size) := by
    rcases A with _ | ad
    · have h0 : news.length = 0 := by
        rcases Nat.eq_zero_or_pos news.length with h0 | h0
        · exact h0
        · obtain ⟨ad, h, _⟩ := HR h0
          cases h
      have hm0 : m = 0 := by
        rw [hl] at h0
        rcases Nat.mul_eq_zero.1 h0 with h2 | h2
        · exact h2
        · omega
      subst hm0
      obtain rfl : news = [] := List.eq_nil_of_length_eq_zero h0
      refine ⟨v, w, ?_, by simpa using HO, World.grownBy.refl w _, .inl rfl⟩
      rcases HO.2 with ⟨rfl, hn⟩ | ⟨g, cap, cur, rfl, _, _, hnc, _⟩
      · simp [Builtin.append_, run_underlying ht, sizeOf, typeInfo, hi, Builtin.lenOf, Builtin.firstCells]
      · simp [Builtin.append_, run_underlying ht, sizeOf, typeInfo, hi, Builtin.lenOf, Builtin.firstCells, hnc, storeCells]
    · have hcells : ∀ j u, news[j]? = some u → w.cell? (ad.add j) = some u := by
        intro j u hu
        have hj : j < news.length := (List.getElem?_eq_some_iff.1 hu).1
        obtain ⟨ad', h', hc⟩ := HR (by omega)
        injection h' with h'
        subst h'
        exact hc j u hu
      obtain ⟨v1, w1, hr, h2, h3, _, h5⟩ := run_append_own_at (P := P) w base t o.type e i0 z size bytes ht hi hz0 hz1 hz2 hz hsz v n xs HO ad m c news hl hcells h1 (by simp only [maxLen]; omega) hlen hbase
      exact ⟨v1, w1, hr, h2, h3, h5⟩
  obtain ⟨v1, w1, hr, hown, hg, hat⟩ := hrun
  unfold Oper.wp execOp
  simp only [ho, resolve, invoke, builtin, Sem.run_bind, Sem.run_pure, Result.andThen_ok, List.map_toArray, List.map_cons, List.map_nil, hs, hx, hr]
  refine h v1 w1 hown ⟨hg, ?_⟩
  rcases hat with hat | hat
  · exact .inl hat
  · exact .inr ⟨_, hat, Nat.le_refl _⟩
/-- append(v, x...) of bytes: what it wrote. -/
theorem wp_appb {P : Program} {o : Oper} {a : Act} {K : Act → World → Prop} {Q : Exit → Act → World → Prop} {w : World} (base : Nat) (s x : Operand) (t e : TypeId)
    (ho : o.op = .call { callee := .builtin .append, args := #[s, x], argTypes := #[t, t] })
    (ht : P.underlying t = some (.slice e)) (hinfo : (P.info? e).map (fun i => (i.zero, i.size, i.bytes)) = some (some (.int .u8 0), 1, 1))
    (v : Value) (l m : List UInt8) (A : Option Addr) (k c : Nat) (hs : a.eval s = v) (hx : a.eval x = .slice A k c) (hk : m.length = k)
    (HO : Ob w base e v l) (HR : Rd w A m) (hbase : base ≤ w.heap.size) (hlen : l.length + k ≤ 140737488355328)
    (h : ∀ v1 w1, Ob w1 base e v1 (l ++ m) → Wrote w w1 v v1 → K (a.put o.dst v1) w1) : o.wp P a w K Q := by
  subst hk
  exact wp_app base s x t e (.int .u8 0) 1 1 ho ht hinfo rfl (by decide) (by decide) v l.length (bvl l) (bvl m) A m.length c hs hx HO (by rw [bvl_length]; omega) (Src.of_rd HR) (bvl_one m) hbase (by omega)
    fun v1 w1 h1 h2 => h v1 w1 (by unfold Ob; rw [bvl_append, List.length_append]; exact h1) h2
theorem wpList_appw {P : Program} {ops : Array Oper} {rest : List Oper} {o : Oper} {a : Act} {Q : Exit → Act → World → Prop} {w : World} (base : Nat) (hgd : o.guard = none) (s x : Operand) (t e : TypeId)
    (ho : o.op = .call { callee := .builtin .append, args := #[s, x], argTypes := #[t, t] })
    (ht : P.underlying t = some (.slice e)) (hinfo : (P.info? e).map (fun i => (i.zero, i.size, i.bytes)) = some (some (.int .u8 0), 1, 1))
    (v : Value) (l m : List UInt8) (A : Option Addr) (k c : Nat) (hs : a.eval s = v) (hx : a.eval x = .slice A k c) (hk : m.length = k)
    (HO : Ob w base e v l) (HR : Rd w A m) (hbase : base ≤ w.heap.size) (hlen : l.length + k ≤ 140737488355328)
    (h : ∀ v1 w1, Ob w1 base e v1 (l ++ m) → Wrote w w1 v v1 → wpList P ops Q rest (a.put o.dst v1) w1) : wpList P ops Q (o :: rest) a w :=
  wpList_plain hgd fun K hK => wp_appb base s x t e ho ht hinfo v l m A k c hs hx hk HO HR hbase hlen (fun v1 w1 h1 h2 => hK _ _ (h v1 w1 h1 h2))
/-- in a region that draws -/
theorem step_appw {P : Program} {ops : Array Oper} {o : Oper} {a : Act} {K : Act → World → Prop} {Q : Exit → Act → World → Prop} {E : Prop} {w : World} (base : Nat) (hgd : o.guard = none) (s x : Operand) (t e : TypeId)
    (ho : o.op = .call { callee := .builtin .append, args := #[s, x], argTypes := #[t, t] })
    (ht : P.underlying t = some (.slice e)) (hinfo : (P.info? e).map (fun i => (i.zero, i.size, i.bytes)) = some (some (.int .u8 0), 1, 1))
    (v : Value) (l m : List UInt8) (A : Option Addr) (k c : Nat) (hs : a.eval s = v) (hx : a.eval x = .slice A k c) (hk : m.length = k)
    (HO : Ob w base e v l) (HR : Rd w A m) (hbase : base ≤ w.heap.size) (hlen : l.length + k ≤ 140737488355328)
    (h : ∀ v1 w1, Ob w1 base e v1 (l ++ m) → Wrote w w1 v v1 → K (a.put o.dst v1) w1) : if Region.wanted o (yielded ops a.tmps) = true then Oper.wp P o a w K Q else E := by
  have hw : Region.wanted o (yielded ops a.tmps) = true := by simp [Region.wanted, hgd]
  rw [if_pos hw]
  exact wp_appb base s x t e ho ht hinfo v l m A k c hs hx hk HO HR hbase hlen h
/-- append(v, x), the one byte in a new block. -/
theorem wpList_app1 {P : Program} {ops : Array Oper} {rest : List Oper} {o : Oper} {a : Act} {Q : Exit → Act → World → Prop} {w : World} (base : Nat) (hgd : o.guard = none) (s x : Operand) (t e : TypeId)
    (ho : o.op = .call { callee := .builtin .append, args := #[s, x], argTypes := #[t, t] })
    (ht : P.underlying t = some (.slice e)) (hinfo : (P.info? e).map (fun i => (i.zero, i.size, i.bytes)) = some (some (.int .u8 0), 1, 1))
    (v : Value) (l : List UInt8) (b : UInt8) (hs : a.eval s = v) (hx : a.eval x = .slice (some ⟨w.heap.size, 0, none⟩) 1 1)
    (HO : Ob w base e v l) (hbase : base ≤ w.heap.size) (hlen : l.length + 1 ≤ 140737488355328)
    (h : ∀ v1 w1, Ob w1 base e v1 (l ++ [b]) → Wrote w w1 v v1 → wpList P ops Q rest (a.put o.dst v1) w1) : wpList P ops Q (o :: rest) a (w.alloc (.cells #[.int .u8 (b.toNat : Int)] e)) :=
  wpList_appw base hgd s x t e ho ht hinfo v l [b] (some ⟨w.heap.size, 0, none⟩) 1 1 hs hx rfl (HO.below ((Below.refl _ w).alloc (Nat.le_refl _) _)) (Rd.of_block (fr := (0, 0)) (t := e) (heap_new w _ _ rfl) (by simp)) (by simp; omega) hlen
    (fun v1 w1 h1 h2 => h v1 w1 h1 (Wrote.trans ⟨World.grownBy_alloc w _ _, .inl rfl⟩ h2))
end Go.Proofs.Ytbpecfbliglboaa
