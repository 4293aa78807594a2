/- Regions that draw their order and append to rows of the call's own. -/
import Derived.Test.YtbpecfbliglboaaRelTail
import Derived.Test.YtbpecfbliglboaaClone
import Derived.Maps.AppendAt
namespace Go.Proofs.Ytbpecfbliglboaa
open Go.RowKit
set_option linter.unusedVariables false
set_option linter.unusedSimpArgs false
/-- news put over the cells from pos on -/
def spl (pos : Nat) (news : List Value) (cur : Array Value) : Array Value := (cur.toList.take pos ++ news ++ cur.toList.drop (pos + news.length)).toArray
theorem spl_size {pos : Nat} {news : List Value} {cur : Array Value} (h : pos + news.length ≤ cur.size) : (spl pos news cur).size = cur.size := by
  simp only [spl, List.size_toArray, List.length_append, List.length_take, List.length_drop, Array.length_toList]
  omega
theorem spl_take {pos k : Nat} {news : List Value} {cur : Array Value} (h : pos + news.length ≤ cur.size) (hk : k ≤ pos) : (spl pos news cur).toList.take k = cur.toList.take k := by
  simp only [spl]
  rw [List.append_assoc, List.take_append_of_le_length (by simp only [List.length_take, Array.length_toList]; omega), List.take_take, Nat.min_eq_left hk]
theorem spl_take_all {pos : Nat} {news : List Value} {cur : Array Value} (h : pos + news.length ≤ cur.size) : (spl pos news cur).toList.take (pos + news.length) = cur.toList.take pos ++ news := by
  simp only [spl]
  rw [List.take_append_of_le_length (by simp only [List.length_append, List.length_take, Array.length_toList]; omega), List.take_of_length_le (by simp only [List.length_append, List.length_take, Array.length_toList]; omega)]
theorem spl_spl {pos : Nat} {n1 n2 : List Value} {cur : Array Value} (h : pos + n1.length ≤ cur.size) (he : n1.length = n2.length) : spl pos n2 (spl pos n1 cur) = spl pos n2 cur := by
  have h1 := spl_take (k := pos) h (Nat.le_refl _)
  have h2 : (spl pos n1 cur).toList.drop (pos + n2.length) = cur.toList.drop (pos + n2.length) := by
    simp only [spl]
    rw [← he]
    exact List.drop_left' (by simp only [List.length_append, List.length_take, Array.length_toList]; omega)
  unfold spl at *
  rw [h1, h2]
/-- a row that may be appended to: where, how many cells, what they are like -/
structure ATr where
  pos : Nat
  len : Nat
  good : List Value → World → Prop
def Td (Tr : Nat → Option ATr) (k : Nat) : Prop := (Tr k).isSome = true
/-- the world has grown; rows of Tr may have been appended to -/
structure GA (Tr : Nat → Option ATr) (W W' : World) : Prop where
  chg : Chg (Td Tr) W W'
  tr : ∀ g p, Tr g = some p → g < W.heap.size → W'.heap[g]? = W.heap[g]? ∨ ∃ cur e fr news, W.heap[g]? = some (.cells cur e fr) ∧ news.length = p.len ∧ p.pos + p.len ≤ cur.size ∧ p.good news W' ∧ W'.heap[g]? = some (.cells (spl p.pos news cur) e fr)
def GSt (Tr : Nat → Option ATr) : Prop := ∀ g p, Tr g = some p → ∀ news W W', p.good news W → Chg (Td Tr) W W' → p.good news W'
theorem GA.refl (Tr : Nat → Option ATr) (W : World) : GA Tr W W := ⟨Chg.refl _ _, fun _ _ _ _ => .inl rfl⟩
theorem GA.trans {Tr : Nat → Option ATr} (hs : GSt Tr) {a b c : World} (h : GA Tr a b) (k : GA Tr b c) : GA Tr a c := by
  refine ⟨h.chg.trans k.chg, fun g p hp hg => ?_⟩
  rcases h.tr g p hp hg with h1 | ⟨cur, e, fr, news, q1, q2, q3, q4, q5⟩
  · rcases k.tr g p hp (Nat.lt_of_lt_of_le hg h.chg.size) with k1 | ⟨cur, e, fr, news, r1, r2, r3, r4, r5⟩
    · exact .inl (k1.trans h1)
    · exact .inr ⟨cur, e, fr, news, by rw [← h1]; exact r1, r2, r3, r4, r5⟩
  · rcases k.tr g p hp (Nat.lt_of_lt_of_le hg h.chg.size) with k1 | ⟨cur2, e2, fr2, news2, r1, r2, r3, r4, r5⟩
    · exact .inr ⟨cur, e, fr, news, q1, q2, q3, hs g p hp _ _ _ q4 k.chg, k1.trans q5⟩
    · rw [q5] at r1
      injection r1 with r1
      injection r1 with r1 r6 r7
      subst r1; subst r6; subst r7
      refine .inr ⟨cur, e, fr, news2, q1, r2, q3, r4, ?_⟩
      rw [r5, spl_spl (by rw [q2]; exact q3) (by rw [q2, r2])]
theorem GA.of_below {Tr : Nat → Option ATr} {W W' : World} (h : Below W.heap.size W W') : GA Tr W W' :=
  ⟨Chg.of_below h, fun g p _ hg => .inl (h.block g hg)⟩
theorem GA.drew (Tr : Nat → Option ATr) (W : World) : GA Tr W W.drew := GA.of_below (Below.drew (Below.refl _ W))
theorem GA.size {Tr : Nat → Option ATr} {W W' : World} (h : GA Tr W W') : W.heap.size ≤ W'.heap.size := h.chg.size
/-- a block that nobody appends to -/
theorem GA.heap {Tr : Nat → Option ATr} {W W' : World} (h : GA Tr W W') {k : Nat} {o : Obj} (hk : W.heap[k]? = some o) (hn : Tr k = none) : W'.heap[k]? = some o :=
  h.chg.heap hk (by unfold Td; rw [hn]; simp)
theorem GA.cell {Tr : Nat → Option ATr} {W W' : World} (h : GA Tr W W') {a : Addr} {v : Value} (hc : W.cell? a = some v) (hn : Tr a.block = none) : W'.cell? a = some v :=
  (World.cell?_of_block (h.chg.block _ (World.block_lt_of_cell? W a hc) (by unfold Td; rw [hn]; simp))).trans hc
/-- a row below where it is appended to -/
theorem GA.row {Tr : Nat → Option ATr} {W W' : World} (h : GA Tr W W') {base e size n : Nat} {v : Value} {xs : List Value} (ho : W.ownsRow base e size v n xs) (hT : ∀ g, v.ownBlock = some g → ∀ p, Tr g = some p → n * size ≤ p.pos) : W'.ownsRow base e size v n xs := by
  refine ⟨ho.1, ?_⟩
  rcases ho.2 with hn | ⟨g, cap, cur, rfl, hb, hh, hc, hm, hsz, htk⟩
  · exact .inl hn
  · cases hp : Tr g with
    | none => exact .inr ⟨g, cap, cur, rfl, hb, h.heap hh hp, hc, hm, hsz, htk⟩
    | some p =>
      rcases h.tr g p hp (Array.getElem?_eq_some_iff.1 hh).1 with h1 | ⟨cur', e', fr', news, q1, q2, q3, q4, q5⟩
      · exact .inr ⟨g, cap, cur, rfl, hb, h1.trans hh, hc, hm, hsz, htk⟩
      · rw [hh] at q1
        injection q1 with q1
        injection q1 with q1 q6 q7
        subst q1; subst q6; subst q7
        exact .inr ⟨g, cap, _, rfl, hb, q5, hc, hm, by rw [spl_size (by rw [q2]; exact q3)]; exact hsz, by rw [spl_take (by rw [q2]; exact q3) (hT g rfl p hp)]; exact htk⟩
/-- what an append leaves -/
def RowQ (Tr : Nat → Option ATr) (B0 base e size n : Nat) (xs : List Value) (p : ATr) (v : Value) (W : World) : Prop :=
  (∀ g, v.ownBlock = some g → g < W.heap.size ∧ ((B0 ≤ g ∧ Tr g = none) ∨ Tr g = some p)) ∧ ∃ news, p.good news W ∧ W.ownsRow base e size v n (xs ++ news)
theorem RowQ.kept {Tr : Nat → Option ATr} {B0 base e size n : Nat} {xs : List Value} {p : ATr} (hst : ∀ news W W', p.good news W → Chg (Td Tr) W W' → p.good news W') (hp : p.pos = xs.length) (hl : p.len + xs.length = n * size) {v : Value} {W W' : World} (h : RowQ Tr B0 base e size n xs p v W) (hg : GA Tr W W') : RowQ Tr B0 base e size n xs p v W' := by
  obtain ⟨h0, news, hgd, ho⟩ := h
  refine ⟨fun g hv => ⟨Nat.lt_of_lt_of_le (h0 g hv).1 hg.size, (h0 g hv).2⟩, ?_⟩
  have hlen : news.length = p.len := by have := ho.1; rw [List.length_append] at this; omega
  rcases ho.2 with hn | ⟨g, cap, cur, rfl, hb, hh, hc, hm, hsz, htk⟩
  · exact ⟨news, hst _ _ _ hgd hg.chg, ho.1, .inl hn⟩
  · rcases (h0 g rfl).2 with ⟨_, h1⟩ | h1
    · exact ⟨news, hst _ _ _ hgd hg.chg, ho.1, .inr ⟨g, cap, cur, rfl, hb, hg.heap hh h1, hc, hm, hsz, htk⟩⟩
    · rcases hg.tr g p h1 (h0 g rfl).1 with h2 | ⟨cur', e', fr', news', q1, q2, q3, q4, q5⟩
      · exact ⟨news, hst _ _ _ hgd hg.chg, ho.1, .inr ⟨g, cap, cur, rfl, hb, h2.trans hh, hc, hm, hsz, htk⟩⟩
      · rw [hh] at q1
        injection q1 with q1
        injection q1 with q1 q6 q7
        subst q1; subst q6; subst q7
        refine ⟨news', q4, by rw [List.length_append]; omega, .inr ⟨g, cap, _, rfl, hb, q5, hc, hm, by rw [spl_size (by rw [q2]; exact q3)]; exact hsz, ?_⟩⟩
        have e1 : n * size = p.pos + news'.length := by omega
        rw [e1, spl_take_all (by rw [q2]; exact q3)]
        have e2 : cur.toList.take p.pos = xs := by
          have := congrArg (List.take p.pos) htk
          rw [List.take_take, Nat.min_eq_left (by omega), hp, List.take_append_of_le_length (Nat.le_refl _), List.take_of_length_le (Nat.le_refl _)] at this
          rw [hp]; exact this
        rw [e2]
/-- append, in place or elsewhere -/
theorem append_dicho {P : Program} (W : World) (base : Nat) (t ty e : TypeId) (i : TypeInfo) (z : Value) (size bytes : Nat) (ht : P.underlying t = some (.slice e)) (hi : P.info? e = some i) (hz : i.zero = some z)
    (hsize : i.size = size) (hby : i.bytes = bytes) (hzs : z.cells.size = size) (hsz : 0 < size) (hb0 : 0 < bytes)
    (v : Value) (n : Nat) (xs : List Value) (hown : W.ownsRow base e size v n xs)
    (A : Option Addr) (m c : Nat) (news : List Value) (hl : news.length = m * size) (HR : Src W A news) (h1 : ∀ u ∈ news, u.oneCell' = true)
    (hbytes : (n + m) * bytes ≤ 140737488355328) (hbase : base ≤ W.heap.size) :
    ∃ v' W', (Builtin.append_ #[t, t] ty #[v, .slice A m c]).run P W = .ok v' W' ∧ W'.ownsRow base e size v' (n + m) (xs ++ news) ∧
      ((∃ g cur, v.ownBlock = some g ∧ v'.ownBlock = some g ∧ W.heap[g]? = some (.cells cur e (0, 0)) ∧ n * size + news.length ≤ cur.size ∧ W'.heap[g]? = some (.cells (spl (n * size) news cur) e (0, 0)) ∧ W.grownBy W' (some g)) ∨
       (Below W.heap.size W W' ∧ (v' = v ∨ v'.ownBlock = some W.heap.size))) := by
  have hnm : n + m ≤ 140737488355328 := Nat.le_trans (Nat.le_mul_of_pos_right _ hb0) hbytes
  rcases A with _ | a
  · have h0 : news.length = 0 := by
      rcases Nat.eq_zero_or_pos news.length with h0 | h0
      · exact h0
      · obtain ⟨ad, h, _⟩ := HR h0
        cases h
    have hm0 : m = 0 := by
      rw [hl] at h0
      rcases Nat.mul_eq_zero.1 h0 with h2 | h2
      · exact h2
      · omega
    subst hm0
    obtain rfl : news = [] := List.eq_nil_of_length_eq_zero h0
    refine ⟨v, W, ?_, by simpa using hown, .inr ⟨Below.refl _ _, .inl rfl⟩⟩
    rcases hown.2 with ⟨rfl, hn⟩ | ⟨g, cap, cur, rfl, _, _, hnc, _⟩
    · simp [Builtin.append_, run_underlying ht, sizeOf, typeInfo, hi, Builtin.lenOf, Builtin.firstCells]
    · simp [Builtin.append_, run_underlying ht, sizeOf, typeInfo, hi, Builtin.lenOf, Builtin.firstCells, hnc, storeCells]
  · have hnews : ∀ j u, news[j]? = some u → W.cell? (a.add j) = some u := by
      intro j u hu
      have hj : j < news.length := (List.getElem?_eq_some_iff.1 hu).1
      obtain ⟨ad', h', hc⟩ := HR (by omega)
      injection h' with h'
      subst h'
      exact hc j u hu
    obtain ⟨v', W', hr, h2, h3, _, h5⟩ := run_append_own_at (P := P) W base t ty e i z size bytes ht hi hz hsize hby hzs hsz v n xs hown a m c news hl hnews h1 (by simp only [maxLen]; omega) hbytes hbase
    refine ⟨v', W', hr, h2, ?_⟩
    rcases hown.2 with ⟨rfl, rfl⟩ | ⟨g, cap, cur, rfl, hbg, hg, hnc, hcm, hcs, htake⟩
    · refine .inr ⟨⟨h3.os, h3.tape, h3.output, h3.size, fun k hk => h3.block k hk (by simp [Value.ownBlock])⟩, ?_⟩
      rcases h5 with h5 | h5
      · refine .inl ?_
        rcases h2.2 with ⟨h6, _⟩ | ⟨g, cap, cur, rfl, _⟩
        · exact h6
        · simp [Value.ownBlock] at h5
      · exact .inr h5
    · by_cases hroom : n + m ≤ cap
      · have hfit : n * size + news.length ≤ cur.size := by rw [hl, hcs, ← Nat.add_mul]; exact Nat.mul_le_mul_right _ hroom
        have hr2 := run_append_room (P := P) W t ty e i ht hi g n cap cur hg a m c news (by rw [hsize]; exact hl) hnews h1 hroom (by rw [hsize]; exact hfit)
        rw [hr2] at hr
        injection hr with hr hr'
        subst hr; subst hr'
        refine .inl ⟨g, cur, rfl, rfl, hg, hfit, ?_, h3⟩
        rw [hsize]
        exact setRow_heap W g cur _ e _ hg
      · have holds : ∀ j u, xs[j]? = some u → W.cell? ((⟨g, 0, none⟩ : Addr).add j) = some u := hown.cells (g := g) rfl
        have hr2 := run_append_grow (P := P) W t ty e i z ht hi hz ⟨g, 0, none⟩ n cap xs (by rw [hsize]; exact hown.1) holds a m c news (by rw [hsize]; exact hl) hnews (by omega) (by omega) (growslice_fits (by omega) (by rw [hby]; exact hbytes))
        rw [hr2] at hr
        injection hr with hr hr'
        subst hr; subst hr'
        exact .inr ⟨(Below.drew (Below.refl _ W)).alloc (by simp) _, .inr rfl⟩
theorem rel_app {P : Program} {o : Oper} {a : Act} {W : World} (Tr : Nat → Option ATr) (p : ATr) (B0 base : Nat) (s x : Operand) (t e : TypeId) (z : Value) (size bytes : Nat)
    (ho : o.op = .call { callee := .builtin .append, args := #[s, x], argTypes := #[t, t] })
    (ht : P.underlying t = some (.slice e)) (hinfo : (P.info? e).map (fun i => (i.zero, i.size, i.bytes)) = some (some z, size, bytes)) (hz : z.cells.size = size) (hsz : 0 < size) (hb0 : 0 < bytes)
    (v : Value) (n : Nat) (xs news : List Value) (A : Option Addr) (m c : Nat) (hs : a.eval s = v) (hx : a.eval x = .slice A m c)
    (HO : W.ownsRow base e size v n xs) (hl : news.length = m * size) (HR : Src W A news) (h1 : ∀ u ∈ news, u.oneCell' = true) (hbase : base ≤ W.heap.size) (hlen : (n + m) * bytes ≤ 140737488355328)
    (hB0 : ∀ k, B0 ≤ k → Tr k = none) (hBW : B0 ≤ W.heap.size) (hTr : ∀ g, v.ownBlock = some g → Tr g = some p) (hpos : p.pos = n * size) (hpl : p.len = m * size) (hgood : ∀ W', Chg (Td Tr) W W' → p.good news W') :
    relUpon P (GA Tr) W (fun v W' => (∃ A c, v = .slice A (n + m) c ∧ n + m ≤ c) ∧ RowQ Tr B0 base e size (n + m) xs p v W') ((execOp a.eval o).run P W) := by
  obtain ⟨i0, hi, hzz⟩ := Option.map_eq_some_iff.1 hinfo
  simp only [Prod.mk.injEq] at hzz
  obtain ⟨hz0, hz1, hz2⟩ := hzz
  obtain ⟨v1, W', hr, h2, h3⟩ := append_dicho (P := P) W base t o.type e i0 z size bytes ht hi hz0 hz1 hz2 hz hsz hb0 v n xs HO A m c news hl HR h1 hlen hbase
  unfold execOp
  simp only [ho, resolve, invoke, builtin, Sem.run_bind, Sem.run_pure, Result.andThen_ok, List.map_toArray, List.map_cons, List.map_nil, hs, hx, hr]
  rw [relUpon_value]
  have hsh : ∃ A c, v1 = .slice A (n + m) c ∧ n + m ≤ c := by
    rcases h2.2 with ⟨rfl, h0⟩ | ⟨g, cap, cur, rfl, _, _, hc, _⟩
    · exact ⟨none, 0, by rw [h0], by omega⟩
    · exact ⟨_, cap, rfl, hc⟩
  rcases h3 with ⟨g, cur, q1, q2, q3, q4, q5, q6⟩ | ⟨q1, q2⟩
  · have hTg := hTr g q1
    have hch : Chg (Td Tr) W W' := ⟨q6.os, q6.tape, q6.output, q6.size, fun k hk hn => q6.block k hk (fun e => hn (by injection e with e; subst e; unfold Td; rw [hTg]; rfl))⟩
    refine ⟨⟨hch, fun g' p' hp' hg' => ?_⟩, hsh, fun g' hg' => ?_, news, hgood W' hch, h2⟩
    · by_cases he : g' = g
      · subst he
        rw [hTg] at hp'
        injection hp' with hp'
        subst hp'
        refine .inr ⟨cur, e, (0, 0), news, q3, by rw [hpl]; exact hl, by rw [hpos, hpl, ← hl]; exact q4, hgood W' hch, by rw [hpos]; exact q5⟩
      · exact .inl (q6.block g' hg' (fun e => he (by injection e)))
    · rw [q2] at hg'
      injection hg' with hg'
      subst hg'
      exact ⟨(Array.getElem?_eq_some_iff.1 q5).1, .inr hTg⟩
  · refine ⟨GA.of_below q1, hsh, fun g' hg' => ⟨(h2.lt g' hg').2, ?_⟩, news, hgood W' (Chg.of_below q1), h2⟩
    rcases q2 with rfl | q2
    · exact .inr (hTr g' hg')
    · rw [q2] at hg'
      injection hg' with hg'
      subst hg'
      exact .inl ⟨hBW, hB0 _ hBW⟩
/-- what an operation leaves, in a region that appends -/
inductive SpG (Tr : Nat → Option ATr) where
  | lit (e : TypeId) (f : List Value → List Value)
  | rel (p : Value → Prop) (q : Value → World → Prop) (hp : ∃ v, p v) (hq : ∀ v W W', q v W → GA Tr W W' → q v W')
def LitG (B0 : Nat) (e : TypeId) (xs : List Value) (v : Value) (W : World) : Prop := LitB e xs v W ∧ ∀ g, v.ownBlock = some g → B0 ≤ g
def spGP {Tr : Nat → Option ATr} : SpG Tr → List Value → Value → Prop
  | .lit _ _, xs, v => ∃ g, v = .slice (some ⟨g, 0, none⟩) xs.length xs.length
  | .rel p _ _ _, _, v => p v
def spGC {Tr : Nat → Option ATr} (B0 : Nat) : SpG Tr → List Value → Value → World → Prop
  | .lit e f, xs, v, W => LitG B0 e (f xs) v W
  | .rel _ q _ _, _, v, W => q v W
def tblGP {Tr : Nat → Option ATr} (tbl : Nat → Option (SpG Tr)) (k : Nat) (xs : List Value) (v : Value) : Prop := match tbl k with | some s => spGP s xs v | none => True
def tblGC {Tr : Nat → Option ATr} (B0 : Nat) (tbl : Nat → Option (SpG Tr)) (k : Nat) (xs : List Value) (v : Value) (W : World) : Prop := match tbl k with | some s => spGC B0 s xs v W | none => True
theorem tblGC_stable {Tr : Nat → Option ATr} {B0 : Nat} (hB0 : ∀ k, B0 ≤ k → Tr k = none) (tbl : Nat → Option (SpG Tr)) : ∀ k xs v W W', tblGC B0 tbl k xs v W → GA Tr W W' → tblGC B0 tbl k xs v W' := by
  intro k xs v W W' h hg
  unfold tblGC at *
  split
  · rename_i s hs
    rw [hs] at h
    cases s with
    | lit e f =>
      obtain ⟨h1, h2⟩ := h
      refine ⟨?_, h2⟩
      unfold LitB at *
      split at h1
      · obtain ⟨fr, h3⟩ := h1
        exact ⟨fr, hg.heap h3 (hB0 _ (h2 _ rfl))⟩
      · exact h1.elim
    | rel p q hp hq => exact hq v W W' h hg
  · trivial
section
variable {P : Program} {ops : Array Oper} {Tr : Nat → Option ATr} {tbl : Nat → Option (SpG Tr)} {B0 : Nat} {w1 : World} {Q : Act → World → Prop} {QX : Exit → Act → World → Prop}
theorem wp_region_app {id : Nat} {a : Act} {w : World} (l : List Oper) (Tr : Nat → Option ATr) (tbl : Nat → Option (SpG Tr)) (B0 : Nat) (hB0 : ∀ k, B0 ≤ k → Tr k = none) (hst : GSt Tr) (hm : P.follows .mixedOrders = true) (hB : Region.lexB .any l.toArray = true) (hb : l.all (fun o => o.after.toList.all fun e => Region.binds .any e) = true)
    (h : wpR P l.toArray (fun k => (tbl k).isSome) (tblGP tbl) (tblGC B0 tbl) (GA Tr) w.drew (fun a' w' => QX .normal a' w') l 0 (fun _ _ => True) a) : (Code.region id l.toArray true).wp P QX a w :=
  wp_region_rel l _ _ _ (GA Tr) hm hB hb (GA.refl _) (fun _ _ _ => GA.trans hst) (tblGC_stable hB0 tbl) h
theorem wp_region_app_tail {id : Nat} {a : Act} {w : World} (l : List Oper) (n : Nat) (Tr : Nat → Option ATr) (tbl : Nat → Option (SpG Tr)) (B0 : Nat) (hB0 : ∀ k, B0 ≤ k → Tr k = none) (hst : GSt Tr) (hm : P.follows .mixedOrders = true) (hB : Region.lexTailB .any l.toArray n = true) (hb : l.all (fun o => o.after.toList.all fun e => Region.binds .any e) = true)
    (h : wpR P l.toArray (fun k => (tbl k).isSome) (tblGP tbl) (tblGC B0 tbl) (GA Tr) w.drew (fun a' w' => wpList P l.toArray QX (l.drop n) a' w') (l.take n) 0 (fun _ _ => True) a) : (Code.region id l.toArray true).wp P QX a w :=
  wp_region_rel_tail l n _ _ _ (GA Tr) hm hB hb (GA.refl _) (fun _ _ _ => GA.trans hst) (tblGC_stable hB0 tbl) h
theorem wpR_litG {o : Oper} {l : List Oper} {k : Nat} {F : Nat → World → Prop} {a : Act} {e : TypeId} {f : List Value → List Value} (ht : tbl k = some (.lit e f)) (hw : Region.wanted o (yielded ops a.tmps) = true) (hB : B0 ≤ w1.heap.size)
    (hh : ∃ (xs : List Value) (n : Nat), (∀ W : World, (execOp a.eval o).run P W = .ok (.value (.slice (some ⟨W.heap.size, 0, none⟩) n n)) (W.alloc (.cells (f xs).toArray e))) ∧ xs.length = n ∧ Oper.argv o a = xs ∧
      ∀ K : Act → Prop, ∀ g, (∀ a', wpR P ops (fun k => (tbl k).isSome) (tblGP tbl) (tblGC B0 tbl) (GA Tr) w1 Q l (k + 1) (upd F k (LitG B0 e (f xs) (.slice (some ⟨g, 0, none⟩) n n))) a' → K a') → K (a.put o.dst (.slice (some ⟨g, 0, none⟩) n n))) :
    wpR P ops (fun k => (tbl k).isSome) (tblGP tbl) (tblGC B0 tbl) (GA Tr) w1 Q (o :: l) k F a := by
  obtain ⟨xs, n, hv, hn, hx, h⟩ := hh
  subst hx; subst hn
  refine wpR_rel hw (by simp [ht]) (fun W hW _ => ?_) ⟨.slice (some ⟨0, 0, none⟩) _ _, by simp only [tblGP, ht, spGP]; exact ⟨0, rfl⟩⟩ (fun K v hv' hK => ?_)
  · rw [hv W, relUpon_value]
    refine ⟨GA.of_below ((Below.refl _ W).alloc (Nat.le_refl _) _), ?_, ?_⟩
    · simp only [tblGP, ht, spGP]; exact ⟨_, rfl⟩
    · simp only [tblGC, ht, spGC]
      exact ⟨heap_fr _ _ _, fun g hg => by simp [Value.ownBlock] at hg; subst hg; exact Nat.le_trans hB hW.size⟩
  · simp only [tblGP, ht, spGP] at hv'
    obtain ⟨g, rfl⟩ := hv'
    refine h K g (fun a' h' => hK a' ?_)
    have e2 : tblGC B0 tbl k (Oper.argv o a) (.slice (some ⟨g, 0, none⟩) (Oper.argv o a).length (Oper.argv o a).length) = LitG B0 e (f (Oper.argv o a)) (.slice (some ⟨g, 0, none⟩) (Oper.argv o a).length (Oper.argv o a).length) := by
      funext W; simp only [tblGC, ht, spGC]
    rw [e2]; exact h'
theorem wpR_propG {o : Oper} {l : List Oper} {k : Nat} {F : Nat → World → Prop} {a : Act} {p : Value → Prop} {q : Value → World → Prop} {hp : ∃ v, p v} {hq : ∀ v W W', q v W → GA Tr W W' → q v W'} (ht : tbl k = some (.rel p q hp hq)) (hw : Region.wanted o (yielded ops a.tmps) = true)
    (hv : ∀ W, GA Tr w1 W → (∀ i, (o.after.toList.any fun e => e.on == i) = true → F i W) → relUpon P (GA Tr) W (fun v W' => p v ∧ q v W') ((execOp a.eval o).run P W))
    (h : ∀ K : Act → Prop, ∀ v, p v → (∀ a', wpR P ops (fun k => (tbl k).isSome) (tblGP tbl) (tblGC B0 tbl) (GA Tr) w1 Q l (k + 1) (upd F k (q v)) a' → K a') → K (a.put o.dst v)) :
    wpR P ops (fun k => (tbl k).isSome) (tblGP tbl) (tblGC B0 tbl) (GA Tr) w1 Q (o :: l) k F a := by
  have e : (fun v W' => tblGP tbl k (Oper.argv o a) v ∧ tblGC B0 tbl k (Oper.argv o a) v W') = fun v W' => p v ∧ q v W' := by
    funext v W'; simp [tblGP, tblGC, ht, spGP, spGC]
  refine wpR_rel hw (by simp [ht]) (fun W hW hF => by rw [e]; exact hv W hW hF) (by simpa [tblGP, ht, spGP] using hp) (fun K v hv' hK => ?_)
  simp only [tblGP, ht, spGP] at hv'
  refine h K v hv' (fun a' h' => hK a' ?_)
  have e2 : tblGC B0 tbl k (Oper.argv o a) v = q v := by funext W; simp only [tblGC, ht, spGC]
  rw [e2]; exact h'
end
/-- elements of several cells -/
def flatC (xs : List Value) : List Value := xs.flatMap (fun v => v.cells.toList)
/-- bytes in a new block -/
def SlF (B0 : Nat) (v : Value) (l : List UInt8) (W : World) : Prop := Sl W v l ∧ ∀ g, v.ownBlock = some g → B0 ≤ g
theorem Sl.chgOwn {S : Nat → Prop} {w w1 : World} {v : Value} {l : List UInt8} (h : Sl w v l) (hc : Chg S w w1) (hS : ∀ k, v.ownBlock = some k → ¬ S k) : Sl w1 v l := by
  obtain ⟨A, c, rfl, h2, h3, h4⟩ := h
  have hne : ∀ a, A = some a → w1.heap[a.block]? = w.heap[a.block]? := fun a e => by
    subst e
    obtain ⟨cs, fr, h5⟩ := h4 a rfl
    exact hc.block _ (Array.getElem?_eq_some_iff.1 h5).1 (hS a.block rfl)
  refine ⟨A, c, rfl, h2, ⟨h3.1, fun hp => ?_⟩, fun a e => ?_⟩
  · obtain ⟨a, e, hc'⟩ := h3.2 hp
    refine ⟨a, e, fun j hj => ?_⟩
    have h6 : (a.add j).block = a.block := by unfold Addr.add; split <;> rfl
    rw [World.cell?_of_block (w := w) (by rw [h6]; exact hne a e)]
    exact hc' j hj
  · obtain ⟨cs, fr, h5⟩ := h4 a e
    exact ⟨cs, fr, (hne a e).trans h5⟩
theorem SlF.chg {Tr : Nat → Option ATr} {B0 : Nat} (hB0 : ∀ k, B0 ≤ k → Tr k = none) {v : Value} {l : List UInt8} {W W' : World} (h : SlF B0 v l W) (hc : Chg (Td Tr) W W') : SlF B0 v l W' :=
  ⟨h.1.chgOwn hc (fun k hk ht => by unfold Td at ht; rw [hB0 k (h.2 k hk)] at ht; cases ht), h.2⟩
def slG (Tr : Nat → Option ATr) (B0 n : Nat) (l : List UInt8) (hB0 : ∀ k, B0 ≤ k → Tr k = none) : SpG Tr := .rel (fun v => ∃ A c, v = .slice A n c ∧ n ≤ c) (fun v W => SlF B0 v l W) ⟨_, none, _, rfl, Nat.le_refl _⟩ (fun _ _ _ h hg => h.chg hB0 hg.chg)
def rowG (Tr : Nat → Option ATr) (B0 base e size n : Nat) (xs : List Value) (p : ATr) (hst : ∀ news W W', p.good news W → Chg (Td Tr) W W' → p.good news W') (hp : p.pos = xs.length) (hl : p.len + xs.length = n * size) : SpG Tr := .rel (fun v => ∃ A c, v = .slice A n c ∧ n ≤ c) (fun v W => RowQ Tr B0 base e size n xs p v W) ⟨_, none, _, rfl, Nat.le_refl _⟩ (fun _ _ _ h hg => RowQ.kept hst hp hl h hg)
end Go.Proofs.Ytbpecfbliglboaa
