/- append of bytes: as runs, and in regions that draw their order. -/
import Derived.Test.YtbpecfbliglboaaRelApp
import Derived.Test.YtbpecfbliglboaaStu
import Derived.Test.YtbpecfbliglboaaStr
import Derived.Lib.AppendStr
import Derived.Lib.AppendZeros
import Derived.Lib.AppendZerosOnto
namespace Go.Proofs.Ytbpecfbliglboaa
open Go.RowKit Go.Maps
set_option linter.unusedVariables false
set_option linter.unusedSimpArgs false
attribute [local irreducible] wpR relOp Stu.wpR Stu.relOp
def TS (base : Nat) (w w' : World) : Prop := Below base w w' ∧ ∀ (k : Nat) cs (t : Nat) fr, (t ≠ 5 ∨ cs.size ≤ 1) → w.heap[k]? = some (.cells cs t fr) → w'.heap[k]? = some (.cells cs t fr)
theorem TS.refl (base : Nat) (w : World) : TS base w w := ⟨Below.refl _ _, fun _ _ _ _ _ h => h⟩
theorem TS.trans {base : Nat} (a b c : World) (h : TS base a b) (k : TS base b c) : TS base a c := ⟨h.1.trans k.1, fun i cs t fr h1 h3 => k.2 i cs t fr h1 (h.2 i cs t fr h1 h3)⟩
def Gs (base : Nat) (W W' : World) : Prop := Below W.heap.size W W' ∧ base ≤ W.heap.size
theorem Gs.ts {base : Nat} (W W' : World) (h : Gs base W W') : TS base W W' := ⟨h.1.mono h.2, fun k _ _ _ _ h3 => (h.1.block k (Array.getElem?_eq_some_iff.1 h3).1).trans h3⟩
theorem TS.of_grown {base g : Nat} {w w' : World} {cur : Array Value} (hg : w.grownBy w' (some g)) (hb : base ≤ g) (hB : base ≤ w.heap.size) (hh : w.heap[g]? = some (.cells cur 5)) (h2 : 2 ≤ cur.size) : TS base w w' := by
  refine ⟨⟨hg.os, hg.tape, hg.output, hg.size, fun k hk => hg.block k (Nat.lt_of_lt_of_le hk hB) (fun e => by injection e with e; omega)⟩, fun k cs t fr hc hk => (hg.block k (Array.getElem?_eq_some_iff.1 hk).1 (fun e => ?_)).trans hk⟩
  injection e with e
  subst e
  rw [hh] at hk
  injection hk with hk
  injection hk with e1 e2 e3
  subst e1
  rcases hc with h | h
  · exact h e2.symm
  · omega
theorem info_u8b : (Try.prog.info? 5).map (fun i => (i.zero, i.size, i.bytes)) = some (some (.int .u8 0), 1, 1) := by kernel_rfl
theorem spl_nil (pos : Nat) (cur : Array Value) : spl pos [] cur = cur := by
  apply Array.ext'
  simp [spl]
theorem appb_run {W : World} {base m c : Nat} {v : Value} {l news : List UInt8} {A : Option Addr} (HO : Ob W base 5 v l) (hz : l = [] → v = .slice none 0 0) (HR : Rd W A news) (hm : m = news.length) (hB : base ≤ W.heap.size) (hlen : l.length + news.length ≤ 1000000000) :
    ∃ v' W', (Builtin.append_ #[33, 33] 33 #[v, .slice A m c]).run Try.prog W = .ok v' W' ∧ Ob W' base 5 v' (l ++ news) ∧ TS base W W' := by
  subst hm
  obtain ⟨i0, hi, hzz⟩ := Option.map_eq_some_iff.1 info_u8b
  simp only [Prod.mk.injEq] at hzz
  obtain ⟨v1, W', hr, h2, h3⟩ := append_dicho (P := Try.prog) W base 33 33 5 i0 (.int .u8 0) 1 1 Try.underlying33 hi hzz.1 hzz.2.1 hzz.2.2 rfl (by decide) (by decide) v l.length (bvl l) HO A news.length c (bvl news) (by rw [bvl_length]; omega) (Src.of_rd HR) (bvl_one news) (by omega) hB
  refine ⟨v1, W', hr, by unfold Ob; rw [bvl_append, List.length_append]; exact h2, ?_⟩
  rcases h3 with ⟨g, cur, q1, q2, q3, q4, q5, q6⟩ | ⟨q1, _⟩
  · have hb : base ≤ g := (HO.lt g q1).1
    rw [bvl_length] at q4
    by_cases hs : 2 ≤ cur.size
    · exact TS.of_grown q6 hb hB q3 hs
    · have hl1 : l ≠ [] := fun e => by rw [hz e] at q1; cases q1
      have hl : 1 ≤ l.length := by
        cases l with
        | nil => exact absurd rfl hl1
        | cons x l => simp
      have hn : news = [] := List.eq_nil_of_length_eq_zero (by omega)
      subst hn
      have hsame : W'.heap[g]? = W.heap[g]? := by
        rw [q5, q3]
        show some (Obj.cells (spl _ [] cur) _ _) = _
        rw [spl_nil]
      refine ⟨⟨q6.os, q6.tape, q6.output, q6.size, fun k hk => q6.block k (Nat.lt_of_lt_of_le hk hB) (fun e => by injection e with e; omega)⟩, fun k cs t fr _ hk => ?_⟩
      by_cases e : k = g
      · subst e
        rw [hsame]; exact hk
      · exact (q6.block k (Array.getElem?_eq_some_iff.1 hk).1 (fun e' => e (by injection e'))).trans hk
  · exact Gs.ts _ _ ⟨q1, hB⟩
theorem strCells_bvl (s : ByteArray) : Lib.strCells s = bvl s.data.toList := by
  simp [Lib.strCells, bvl]
theorem apps_run {W : World} {base : Nat} {v : Value} {l : List UInt8} {s : ByteArray} (HO : Ob W base 5 v l) (hl : 1 ≤ l.length) (hB : base ≤ W.heap.size) (hlen : l.length + s.size ≤ 1000000000) :
    ∃ v' W', (Builtin.append_ #[33, 9] 33 #[v, .string s]).run Try.prog W = .ok v' W' ∧ Ob W' base 5 v' (l ++ s.data.toList) ∧ TS base W W' := by
  obtain ⟨i0, hi, hzz⟩ := Option.map_eq_some_iff.1 info_u8b
  simp only [Prod.mk.injEq] at hzz
  have hsz : s.data.toList.length = s.size := by rw [Array.length_toList]; rfl
  have hob : ∀ (W' : World) (v' : Value), W'.ownsRow base 5 1 v' (l.length + s.size) (bvl l ++ Lib.strCells s) → Ob W' base 5 v' (l ++ s.data.toList) := fun W' v' h => by
    unfold Ob
    rw [bvl_append, List.length_append, hsz, ← strCells_bvl]
    exact h
  rcases HO.2 with ⟨rfl, h0⟩ | ⟨g, cap, cur, rfl, hb, hh, hc, hm, hs, htk⟩
  · omega
  · obtain ⟨v1, W', hr, h2, h3, _⟩ := Lib.run_append_own_string (P := Try.prog) (w := W) base 33 9 33 5 i0 Try.underlying33 Try.underlying9 hi hzz.1 hzz.2.1 hzz.2.2 _ l.length (bvl l) HO s (by simp only [maxLen]; omega) (by omega) hB
    have h3 : W.grownBy W' (some g) := h3
    by_cases h2s : 2 ≤ cur.size
    · exact ⟨v1, W', hr, hob _ _ h2, TS.of_grown h3 hb hB hh h2s⟩
    · have hcap : cap = 1 := by omega
      have hl1 : l.length = 1 := by omega
      by_cases hs0 : s.size = 0
      · have hroom := Lib.run_append_room_string (P := Try.prog) (w := W) 33 9 33 5 i0 Try.underlying33 Try.underlying9 hi hzz.2.1 g l.length cap cur hh s (by omega) (by omega)
        have hsc : Lib.strCells s = [] := List.eq_nil_of_length_eq_zero (by rw [Lib.strCells_length]; exact hs0)
        have hcur : (cur.toList.take l.length ++ Lib.strCells s ++ cur.toList.drop (l.length + s.size)).toArray = cur := by
          rw [hsc, hs0]
          apply Array.ext'
          simp
        rw [hcur] at hroom
        have hw : (W.setRow g cur).heap[g]? = some (.cells cur 5) := setRow_heap W g cur _ 5 _ hh
        rw [hr] at hroom
        injection hroom with e1 e2
        subst e2
        refine ⟨v1, _, hr, hob _ _ h2, ⟨h3.os, h3.tape, h3.output, h3.size, fun k hk => h3.block k (Nat.lt_of_lt_of_le hk hB) (fun e => by injection e with e; omega)⟩, fun k cs t fr _ hk => ?_⟩
        by_cases e : k = g
        · subst e
          rw [hw]
          rw [hh] at hk
          exact hk
        · exact (h3.block k (Array.getElem?_eq_some_iff.1 hk).1 (fun e' => e (by injection e'))).trans hk
      · have holds : ∀ (j : Nat) (u : Value), (bvl l)[j]? = some u → W.cell? ((⟨g, 0, none⟩ : Addr).add j) = some u := World.ownsRow.cells (g := g) HO rfl
        have hgrow := Lib.run_append_grow_string (P := Try.prog) (w := W) 33 9 33 5 i0 (.int .u8 0) Try.underlying33 Try.underlying9 hi hzz.1 ⟨g, 0, none⟩ l.length cap (bvl l) (by rw [hzz.2.1, bvl_length]; omega) holds s (by omega) (by omega) (by rw [hzz.2.2]; exact growslice_fits (by omega) (by omega))
        rw [hr] at hgrow
        injection hgrow with e1 e2
        subst e2
        exact ⟨v1, _, hr, hob _ _ h2, Gs.ts _ _ ⟨(Below.drew (Below.refl _ W)).alloc (Nat.le_refl _) _, hB⟩⟩
end Go.Proofs.Ytbpecfbliglboaa
namespace Go.Proofs.Ytbpecfbliglboaa
open Go.RowKit
set_option linter.unusedVariables false
set_option linter.unusedSimpArgs false
theorem Ob.shpn {W : World} {base e : Nat} {v : Value} {l : List UInt8} (h : Ob W base e v l) {n : Nat} (hn : l.length = n) : ∃ A c, v = .slice A n c ∧ n ≤ c := by
  obtain ⟨A, c, rfl, h1, _⟩ := h.rd
  subst hn
  exact ⟨_, _, rfl, h1⟩
def svO (base n : Nat) (l : List UInt8) : Stu.SpU (TS base) (Gs base) := ⟨true, fun _ v => ∃ A c, v = .slice A n c ∧ n ≤ c, fun _ _ _ => True, fun v W => Ob W base 5 v l, fun _ _ _ _ _ _ => trivial, fun _ _ _ h hg => h.below hg.1⟩
def slO (base : Nat) (b : UInt8) : Stu.SpU (TS base) (Gs base) := ⟨false, fun _ v => ∃ g, v = .slice (some ⟨g, 0, none⟩) 1 1, fun _ v W => ∃ g, v = .slice (some ⟨g, 0, none⟩) 1 1 ∧ W.heap[g]? = some (.cells #[.int .u8 (b.toNat : Int)] 5), fun _ _ => True, fun _ _ W W' h hg => by
  obtain ⟨g, h1, h3⟩ := h
  exact ⟨g, h1, hg.2 _ _ _ _ (.inr (by simp)) h3⟩, fun _ _ _ _ _ => trivial⟩
theorem appb_rel {o : Oper} {a : Act} {W : World} {base m c nn : Nat} {v : Value} {l news : List UInt8} {A : Option Addr} {s x : Operand}
    (ho : o.op = .call { callee := .builtin .append, args := #[s, x], argTypes := #[33, 33] }) (hty : o.type = 33) (hs : a.eval s = v) (hx : a.eval x = .slice A m c)
    (HO : Ob W base 5 v l) (hz : l = [] → v = .slice none 0 0) (HR : Rd W A news) (hm : m = news.length) (hB : base ≤ W.heap.size) (hlen : l.length + news.length ≤ 1000000000) {l2 : List UInt8} (hl2 : l2 = l ++ news) (hnn : l2.length = nn) :
    Stu.relUpon Try.prog (TS base) W (fun v W' => ((∃ A c, v = .slice A nn c ∧ nn ≤ c) ∧ True) ∧ Ob W' base 5 v l2) ((execOp a.eval o).run Try.prog W) := by
  subst hl2
  obtain ⟨v', W', hr, ho2, hts⟩ := appb_run (c := c) HO hz HR hm hB hlen
  unfold execOp
  simp only [ho, hty, resolve, invoke, builtin, Sem.run_bind, Sem.run_pure, Result.andThen_ok, List.map_toArray, List.map_cons, List.map_nil, hs, hx, hr]
  exact ⟨hts, ⟨ho2.shpn hnn, trivial⟩, ho2⟩
theorem apps_rel {o : Oper} {a : Act} {W : World} {base nn : Nat} {v : Value} {l : List UInt8} {k : ByteArray} {s x : Operand}
    (ho : o.op = .call { callee := .builtin .append, args := #[s, x], argTypes := #[33, 9] }) (hty : o.type = 33) (hs : a.eval s = v) (hx : a.eval x = .string k)
    (HO : Ob W base 5 v l) (hl : 1 ≤ l.length) (hB : base ≤ W.heap.size) (hlen : l.length + k.size ≤ 1000000000) {l2 : List UInt8} (hl2 : l2 = l ++ k.data.toList) (hnn : l2.length = nn) :
    Stu.relUpon Try.prog (TS base) W (fun v W' => ((∃ A c, v = .slice A nn c ∧ nn ≤ c) ∧ True) ∧ Ob W' base 5 v l2) ((execOp a.eval o).run Try.prog W) := by
  subst hl2
  obtain ⟨v', W', hr, ho2, hts⟩ := apps_run HO hl hB hlen
  unfold execOp
  simp only [ho, hty, resolve, invoke, builtin, Sem.run_bind, Sem.run_pure, Result.andThen_ok, List.map_toArray, List.map_cons, List.map_nil, hs, hx, hr]
  exact ⟨hts, ⟨ho2.shpn hnn, trivial⟩, ho2⟩
theorem append_nil {P : Program} (W : World) (t ty e : TypeId) (ht : P.underlying t = some (.slice e)) (hi : ∃ i, P.info? e = some i) (g : Nat) (cap n : Nat) (hc : n ≤ cap) (A : Option Addr) (c : Nat) :
    (Builtin.append_ #[t, t] ty #[.slice (some ⟨g, 0, none⟩) n cap, .slice A 0 c]).run P W = .ok (.slice (some ⟨g, 0, none⟩) n cap) W := by
  obtain ⟨i, hi⟩ := hi
  cases A with
  | none => simp [Builtin.append_, run_underlying ht, sizeOf, typeInfo, hi, Builtin.lenOf, Builtin.firstCells, hc, storeCells]
  | some a =>
    have hl : (loadCells a 0).run P W = .ok #[] W := by unfold loadCells; simp [go_sem]
    simp [Builtin.append_, run_underlying ht, sizeOf, typeInfo, hi, Builtin.lenOf, Builtin.firstCells, hc, hl, storeCells]
def shpn (nn : Nat) (v : Value) : Prop := ∃ A c, v = .slice A nn c ∧ nn ≤ c
theorem shpn.of_row {W : World} {base e size n : Nat} {v : Value} {xs : List Value} (h : W.ownsRow base e size v n xs) : shpn n v := by
  rcases h.2 with ⟨rfl, h0⟩ | ⟨g, cap, cur, rfl, _, _, hc, _⟩
  · exact ⟨none, 0, by rw [h0], by omega⟩
  · exact ⟨_, cap, rfl, hc⟩
theorem str_slice (w : World) (s : ByteArray) (hl : s.size ≤ 140737488351232) : ∃ c W, (convert 9 33 (.string s)).run Try.prog w = .ok (.slice (some ⟨w.heap.size, 0, none⟩) s.size c) W ∧ Sl W (.slice (some ⟨w.heap.size, 0, none⟩) s.size c) s.data.toList ∧ Below w.heap.size w W := by
  refine ⟨_, _, run_bytes_of_string w 9 33 5 s Try.underlying9 Try.underlying33 Try.underlying5, ?_, (Below.drew (Below.refl _ w)).alloc (Nat.le_refl _) _⟩
  have hnew : ∀ C fr, (w.drew.alloc (.cells C 5 fr)).heap[w.heap.size]? = some (.cells C 5 fr) := fun C fr => heap_new w.drew _ _ rfl
  refine ⟨some ⟨w.heap.size, 0, none⟩, _, rfl, ?_, ⟨by simpa using Nat.le_trans hl (by decide), fun hp => ⟨_, rfl, fun j hj => ?_⟩⟩, fun a e => ?_⟩
  · have := grownCap_ge w s.size 0 5
    simpa using this
  · have ha : (⟨w.heap.size, 0, none⟩ : Addr).add j = ⟨w.heap.size, j, none⟩ := by unfold Addr.add; split <;> simp_all
    rw [ha, cell_of_row _ w.heap.size j _ _ _ (hnew _ _)]
    have hj2 : j < s.size := by simpa using hj
    have hj3 : j < s.data.size := hj2
    simp [bytesRow, Array.getElem?_append, hj3]
    rw [if_pos hj2, Array.getElem?_eq_getElem hj3]
    rfl
  · injection e with e
    subst e
    exact ⟨_, _, hnew _ _⟩
theorem bapp0_run {W : World} {ty S0 g0 nn c : Nat} {A : Option Addr} {l : List UInt8} (h2 : W.heap[g0]? = some (.cells #[] 5)) (hg0 : S0 ≤ g0) (hS : S0 ≤ W.heap.size) (hnn : nn = l.length) (hsrc : Rd W A l) (hn : nn ≤ 1000000) :
    ∃ v W', (Builtin.append_ #[33, 33] ty #[.slice (some ⟨g0, 0, none⟩) 0 0, .slice A nn c]).run Try.prog W = .ok v W' ∧ Ob W' S0 5 v l ∧ Below W.heap.size W W' := by
  have hown : W.ownsRow S0 5 1 (.slice (some ⟨g0, 0, none⟩) 0 0) 0 [] := ⟨rfl, .inr ⟨g0, 0, #[], rfl, hg0, h2, Nat.le_refl _, Nat.zero_le _, rfl, rfl⟩⟩
  obtain ⟨i0, hi2, hzz⟩ := Option.map_eq_some_iff.1 info_u8b
  simp only [Prod.mk.injEq] at hzz
  rcases Nat.eq_zero_or_pos nn with h0 | h0
  · subst h0
    obtain rfl : l = [] := List.eq_nil_of_length_eq_zero hnn.symm
    exact ⟨_, _, append_nil W _ _ 5 Try.underlying33 ⟨i0, hi2⟩ g0 0 0 (Nat.le_refl _) A c, hown, Below.refl _ _⟩
  · obtain ⟨v1, W', hr, k1, k2⟩ := append_dicho (P := Try.prog) W S0 33 ty 5 i0 _ 1 1 Try.underlying33 hi2 hzz.1 hzz.2.1 hzz.2.2 rfl (by decide) (by decide) _ 0 [] hown A nn c (bvl l) (by rw [bvl_length]; omega) (Src.of_rd hsrc) (bvl_one l) (by omega) hS
    rw [Nat.zero_add, List.nil_append] at k1
    refine ⟨v1, W', hr, by unfold Ob; rw [← hnn]; exact k1, ?_⟩
    rcases k2 with ⟨g, cur, q1, q2, q3, q4, _⟩ | ⟨q1, q2⟩
    · exfalso
      simp [Value.ownBlock] at q1
      subst q1
      rw [h2] at q3
      injection q3 with q3
      injection q3 with q3
      subst q3
      rw [bvl_length, ← hnn] at q4
      simp at q4
      omega
    · exact q1
end Go.Proofs.Ytbpecfbliglboaa
