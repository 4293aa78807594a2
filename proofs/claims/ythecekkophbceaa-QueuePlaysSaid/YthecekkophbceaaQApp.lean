/- append(append([]string{}, l...), s) in a region that draws its order. -/
import Derived.Test.YthecekkophbceaaQP0
import Derived.Test.YthecekkophbceaaRelApp
namespace Go.Proofs.Ythecekkophbceaa
open Go.RowKit Go.Conc
set_option linter.unusedVariables false
set_option linter.unusedSimpArgs false
def svl (ss : List ByteArray) : List Value := ss.map Value.string
theorem svl_len (ss : List ByteArray) : (svl ss).length = ss.length := by simp [svl]
theorem svl_one (ss : List ByteArray) : ∀ u ∈ svl ss, u.oneCell' = true := by
  intro u hu
  obtain ⟨b, _, rfl⟩ := List.mem_map.1 hu
  rfl
theorem info_str : (Try.prog.info? 9).map (fun i => (i.zero, i.size, i.bytes)) = some (some (.string ByteArray.empty), 1, 16) := by kernel_rfl
theorem StrV.src {W : World} {A : Option Addr} {n c : Nat} {ss : List ByteArray} (h : StrV W (.slice A n c) ss) : n = ss.length ∧ Src W A (svl ss) := by
  obtain ⟨A', c', e, h2, h3, h4⟩ := h
  injection e with e1 e2 e3
  subst e1
  refine ⟨e2, fun hp => ?_⟩
  rw [svl_len] at hp
  obtain ⟨a, e, hc⟩ := h4 hp
  refine ⟨a, e, fun j u hu => ?_⟩
  have hj : j < ss.length := by have := (List.getElem?_eq_some_iff.1 hu).1; rwa [svl_len] at this
  have : u = .string ss[j] := by simp [svl, hj] at hu; exact hu.symm
  rw [this]
  exact hc j hj
theorem StrV.of_row {W : World} {base n : Nat} {v : Value} {ss : List ByteArray} (h : W.ownsRow base 9 1 v n (svl ss)) (hn : n = ss.length) : StrV W v ss := by
  subst hn
  rcases h.2 with ⟨rfl, hn⟩ | ⟨g, cap, cur, rfl, hb, hh, hc, hm, hsz, htk⟩
  · obtain rfl : ss = [] := List.eq_nil_of_length_eq_zero hn
    exact StrV.nil W
  · refine ⟨_, cap, rfl, hc, (fun a e => by injection e with e; subst e; exact ⟨_, _, hh⟩), fun hp => ⟨_, rfl, fun j hj => ?_⟩⟩
    exact World.ownsRow.cells (g := g) h rfl j _ (by simp [svl, hj])
/-- nothing is appended -/
theorem append_zero {P : Program} (W : World) (t ty e : TypeId) (ht : P.underlying t = some (.slice e)) (hi : ∃ i, P.info? e = some i) (g : Nat) (cap n : Nat) (hc : n ≤ cap) (A : Option Addr) (c : Nat) :
    (Builtin.append_ #[t, t] ty #[.slice (some ⟨g, 0, none⟩) n cap, .slice A 0 c]).run P W = .ok (.slice (some ⟨g, 0, none⟩) n cap) W := by
  obtain ⟨i, hi⟩ := hi
  cases A with
  | none => simp [Builtin.append_, run_underlying ht, sizeOf, typeInfo, hi, Builtin.lenOf, Builtin.firstCells, hc, storeCells]
  | some a =>
    have hl : (loadCells a 0).run P W = .ok #[] W := by unfold loadCells; simp [go_sem]
    simp [Builtin.append_, run_underlying ht, sizeOf, typeInfo, hi, Builtin.lenOf, Builtin.firstCells, hc, hl, storeCells]
theorem heap_grown {W W' : World} {row : Option Nat} (h : W.grownBy W' row) {k : Nat} {o : Obj} (hk : W.heap[k]? = some o) (hn : some k ≠ row) : W'.heap[k]? = some o :=
  (h.block k (Array.getElem?_eq_some_iff.1 hk).1 hn).trans hk
/-- what the first append leaves -/
def App1 (S0 : Nat) (w1 : World) (nn : Nat) (ss : List ByteArray) (v : Value) (W : World) : Prop := W.ownsRow S0 9 1 v nn (svl ss) ∧ (nn = 0 → ∃ g, v = .slice (some ⟨g, 0, none⟩) 0 0 ∧ W.heap[g]? = some (.cells #[] 9)) ∧ Below S0 w1 W
def App2 (S0 : Nat) (w1 : World) (nn : Nat) (ss : List ByteArray) (v : Value) (W : World) : Prop := W.ownsRow S0 9 1 v nn (svl ss) ∧ Below S0 w1 W
theorem App2.kept {S0 nn : Nat} {w1 : World} {ss : List ByteArray} {v : Value} {W W' : World} (h : App2 S0 w1 nn ss v W) (hg : Gb S0 W W') : App2 S0 w1 nn ss v W' :=
  ⟨World.ownsRow.kept h.1 ⟨hg.1.os, hg.1.tape, hg.1.output, hg.1.size, fun k hk _ => hg.1.block k hk⟩ (row := none) (by cases v.ownBlock <;> simp), h.2.trans (hg.1.mono hg.2)⟩
theorem App1.kept {S0 nn : Nat} {w1 : World} {ss : List ByteArray} {v : Value} {W W' : World} (h : App1 S0 w1 nn ss v W) (hg : Gb S0 W W') : App1 S0 w1 nn ss v W' := by
  obtain ⟨h1, h2, h3⟩ := h
  obtain ⟨k1, k2⟩ := App2.kept ⟨h1, h3⟩ hg
  refine ⟨k1, fun e => ?_, k2⟩
  obtain ⟨g, e1, e2⟩ := h2 e
  exact ⟨g, e1, (hg.1.block g (Array.getElem?_eq_some_iff.1 e2).1).trans e2⟩
def shp (nn : Nat) (v : Value) : Prop := ∃ A c, v = .slice A nn c ∧ nn ≤ c
theorem shp.of_row {W : World} {base e size n : Nat} {v : Value} {xs : List Value} (h : W.ownsRow base e size v n xs) : shp n v := by
  rcases h.2 with ⟨rfl, h0⟩ | ⟨g, cap, cur, rfl, _, _, hc, _⟩
  · exact ⟨none, 0, by rw [h0], by omega⟩
  · exact ⟨_, cap, rfl, hc⟩
theorem app1_rel {o : Oper} {a : Act} {W w1 : World} {S0 g0 nn c : Nat} {A : Option Addr} {ss : List ByteArray} {s x : Operand}
    (ho : o.op = .call { callee := .builtin .append, args := #[s, x], argTypes := #[34, 34] }) (hs : a.eval s = .slice (some ⟨g0, 0, none⟩) 0 0) (hx : a.eval x = .slice A nn c)
    (h2 : W.heap[g0]? = some (.cells #[] 9)) (hg0 : S0 ≤ g0) (hS : S0 ≤ W.heap.size) (hv : StrV W (.slice A nn c) ss) (hn : nn ≤ 1000000) (hU : Below S0 w1 W) :
    Stu.relUpon Try.prog (TQ S0) W (fun v W' => (shp nn v ∧ True) ∧ App1 S0 w1 nn ss v W') ((execOp a.eval o).run Try.prog W) := by
  obtain ⟨hnn, hsrc⟩ := hv.src
  have hown : W.ownsRow S0 9 1 (.slice (some ⟨g0, 0, none⟩) 0 0) 0 [] := ⟨rfl, .inr ⟨g0, 0, #[], rfl, hg0, h2, Nat.le_refl _, Nat.zero_le _, rfl, rfl⟩⟩
  have hi : ∃ i, Try.prog.info? 9 = some i := by
    have := info_str
    cases h : Try.prog.info? 9 with
    | none => rw [h] at this; cases this
    | some i => exact ⟨i, rfl⟩
  unfold execOp
  simp only [ho, resolve, invoke, builtin, Sem.run_bind, Sem.run_pure, Result.andThen_ok, List.map_toArray, List.map_cons, List.map_nil, hs, hx]
  rcases Nat.eq_zero_or_pos nn with h0 | h0
  · subst h0
    rw [append_zero W _ _ 9 Try.underlying34 hi g0 0 0 (Nat.le_refl _) A c]
    have hss : ss = [] := List.eq_nil_of_length_eq_zero hnn.symm
    subst hss
    simp only [Result.andThen_ok]
    exact ⟨TQ.refl _ _, ⟨⟨_, 0, rfl, Nat.le_refl _⟩, trivial⟩, hown, fun _ => ⟨g0, rfl, h2⟩, hU⟩
  · obtain ⟨i0, hi2, hzz⟩ := Option.map_eq_some_iff.1 info_str
    simp only [Prod.mk.injEq] at hzz
    obtain ⟨v1, W', hr, k1, k2⟩ := append_dicho (P := Try.prog) W S0 34 o.type 9 i0 (.string ByteArray.empty) 1 16 Try.underlying34 hi2 hzz.1 hzz.2.1 hzz.2.2 rfl (by decide) (by decide) _ 0 [] hown A nn c (svl ss) (by rw [svl_len]; omega) hsrc (svl_one ss) (by omega) hS
    rw [hr]
    simp only [Result.andThen_ok]
    rw [Nat.zero_add, List.nil_append] at k1
    rcases k2 with ⟨g, cur, q1, q2, q3, q4, _⟩ | ⟨q1, q2⟩
    · exfalso
      simp [Value.ownBlock] at q1
      subst q1
      rw [h2] at q3
      injection q3 with q3
      injection q3 with q3
      subst q3
      have h6 : ss = [] := by simpa [svl] using q4
      rw [h6] at hnn
      simp at hnn
      omega
    · exact ⟨Gb.tq _ _ ⟨q1, hS⟩, ⟨shp.of_row k1, trivial⟩, k1, fun e => by omega, hU.trans (q1.mono hS)⟩
theorem app2_rel {o : Oper} {a : Act} {W w1 : World} {S0 gl nn : Nat} {ss : List ByteArray} {s x : Operand} {v : Value} {b : ByteArray} {fr : Nat × Nat}
    (ho : o.op = .call { callee := .builtin .append, args := #[s, x], argTypes := #[34, 34] }) (hs : a.eval s = v) (hx : a.eval x = .slice (some ⟨gl, 0, none⟩) 1 1)
    (h10 : W.heap[gl]? = some (.cells #[.string b] 9 fr)) (hS : S0 ≤ W.heap.size) (hn : nn ≤ 1000000) (hU : App1 S0 w1 nn ss v W) :
    Stu.relUpon Try.prog (TQ S0) W (fun v W' => (shp (nn + 1) v ∧ True) ∧ App2 S0 w1 (nn + 1) (ss ++ [b]) v W') ((execOp a.eval o).run Try.prog W) := by
  obtain ⟨u1, u2, u3⟩ := hU
  have hsrc : Src W (some ⟨gl, 0, none⟩) (svl [b]) := fun _ => ⟨_, rfl, fun j u hu => by
    have ha : (⟨gl, 0, none⟩ : Addr).add j = ⟨gl, j, none⟩ := by unfold Addr.add; split <;> simp_all
    rw [ha, cell_of_row _ gl j _ _ _ h10]
    simpa [svl] using hu⟩
  obtain ⟨i0, hi2, hzz⟩ := Option.map_eq_some_iff.1 info_str
  simp only [Prod.mk.injEq] at hzz
  obtain ⟨v1, W', hr, k1, k2⟩ := append_dicho (P := Try.prog) W S0 34 o.type 9 i0 (.string ByteArray.empty) 1 16 Try.underlying34 hi2 hzz.1 hzz.2.1 hzz.2.2 rfl (by decide) (by decide) v nn (svl ss) u1 (some ⟨gl, 0, none⟩) 1 1 (svl [b]) rfl hsrc (svl_one _) (by omega) hS
  unfold execOp
  simp only [ho, resolve, invoke, builtin, Sem.run_bind, Sem.run_pure, Result.andThen_ok, List.map_toArray, List.map_cons, List.map_nil, hs, hx, hr]
  have k1' : W'.ownsRow S0 9 1 v1 (nn + 1) (svl (ss ++ [b])) := by
    have : svl (ss ++ [b]) = svl ss ++ svl [b] := by simp [svl]
    rw [this]; exact k1
  rcases k2 with ⟨g, cur, q1, q2, q3, q4, q5, q6⟩ | ⟨q1, q2⟩
  · have hgS : S0 ≤ g := (u1.lt g q1).1
    have hbig : 2 ≤ cur.size := by
      rcases Nat.eq_zero_or_pos nn with h0 | h0
      · exfalso
        obtain ⟨g', e1, e2⟩ := u2 h0
        subst e1
        simp [Value.ownBlock] at q1
        subst q1
        rw [e2] at q3
        injection q3 with q3
        injection q3 with q3
        subst q3
        simp [svl] at q4
      · simp [svl] at q4
        omega
    have hbl : Below S0 W W' := ⟨q6.os, q6.tape, q6.output, q6.size, fun k hk => q6.block k (Nat.lt_of_lt_of_le hk hS) (fun e => by injection e with e; omega)⟩
    refine ⟨⟨hbl, fun k cs t fr' ht hsz hk => heap_grown q6 hk (fun e => ?_)⟩, ⟨shp.of_row k1', trivial⟩, k1', u3.trans hbl⟩
    injection e with e
    subst e
    rw [q3] at hk
    injection hk with hk
    injection hk with e1 e2 e3
    subst e1; subst e2
    rcases hsz with h | h
    · exact h rfl
    · omega
  · exact ⟨Gb.tq _ _ ⟨q1, hS⟩, ⟨shp.of_row k1', trivial⟩, k1', u3.trans (q1.mono hS)⟩
/-- the tables of the two regions -/
def lit0 (S0 : Nat) : Stu.SpU (TQ S0) (Gb S0) := ⟨false, fun _ v => ∃ g, v = .slice (some ⟨g, 0, none⟩) 0 0, fun _ v W => ∃ g, v = .slice (some ⟨g, 0, none⟩) 0 0 ∧ S0 ≤ g ∧ W.heap[g]? = some (.cells #[] 9), fun _ _ => True, fun _ _ W W' h hg => by
  obtain ⟨g, h1, h2, h3⟩ := h
  exact ⟨g, h1, h2, hg.2 _ _ _ _ (by decide) (.inr (Nat.zero_le _)) h3⟩, fun _ _ _ _ _ => trivial⟩
def lit1 (S0 : Nat) (b : ByteArray) : Stu.SpU (TQ S0) (Gb S0) := ⟨false, fun _ v => ∃ g, v = .slice (some ⟨g, 0, none⟩) 1 1, fun _ v W => ∃ g, v = .slice (some ⟨g, 0, none⟩) 1 1 ∧ W.heap[g]? = some (.cells #[.string b] 9), fun _ _ => True, fun _ _ W W' h hg => by
  obtain ⟨g, h1, h3⟩ := h
  exact ⟨g, h1, hg.2 _ _ _ _ (by decide) (.inr (by simp)) h3⟩, fun _ _ _ _ _ => trivial⟩
def sp1 (S0 : Nat) (w1 : World) (nn : Nat) (ss : List ByteArray) : Stu.SpU (TQ S0) (Gb S0) := ⟨true, fun _ v => shp nn v, fun _ _ _ => True, App1 S0 w1 nn ss, fun _ _ _ _ _ _ => trivial, fun _ _ _ h hg => h.kept hg⟩
def sp2 (S0 : Nat) (w1 : World) (nn : Nat) (ss : List ByteArray) : Stu.SpU (TQ S0) (Gb S0) := ⟨true, fun _ v => shp nn v, fun _ _ _ => True, App2 S0 w1 nn ss, fun _ _ _ _ _ _ => trivial, fun _ _ _ h hg => h.kept hg⟩
theorem lit_rel {S0 e : Nat} {W : World} {vs : Array Value} (hS : S0 ≤ W.heap.size) {p : Value → Prop} {q : Value → World → Prop} (v : Value) (hp : p v) (hq : q v (W.alloc (.cells vs e))) :
    Stu.relUpon Try.prog (Gb S0) W (fun v W' => p v ∧ q v W') (.ok (.value v) (W.alloc (.cells vs e))) :=
  ⟨⟨(Below.refl _ W).alloc (Nat.le_refl _) _, hS⟩, hp, hq⟩
theorem str_sl (w : World) (s : ByteArray) (hl : s.size ≤ 140737488351232) : ∃ c W, (convert 9 28 (.string s)).run Try.prog w = .ok (.slice (some ⟨w.heap.size, 0, none⟩) s.size c) W ∧ s.size ≤ c ∧ Sl W (.slice (some ⟨w.heap.size, 0, none⟩) s.size c) s.data.toList ∧ Below w.heap.size w W := by
  have hsz : s.data.toList.length = s.size := by rw [Array.length_toList]; rfl
  refine ⟨_, _, run_bytes_of_string w 9 28 5 s Try.underlying9 Try.underlying28 Try.underlying5, grownCap_ge _ _ _ _, ⟨_, _, by rw [hsz], by rw [hsz]; exact grownCap_ge _ _ _ _, ⟨by rw [hsz]; omega, fun hp => ⟨_, rfl, fun j hj => ?_⟩⟩, fun a e => ?_⟩, ?_⟩
  · have ha : (⟨w.heap.size, 0, none⟩ : Addr).add j = ⟨w.heap.size, j, none⟩ := by unfold Addr.add; split <;> simp_all
    have hnew : ∀ C fr, (w.drew.alloc (.cells C 5 fr)).heap[w.heap.size]? = some (.cells C 5 fr) := fun C fr => heap_new w.drew _ _ rfl
    rw [ha, cell_of_row _ w.heap.size j _ _ _ (hnew _ _)]
    have hj2 : j < s.size := by rw [hsz] at hj; exact hj
    have hj3 : j < s.data.size := hj2
    simp [bytesRow, Array.getElem?_append, hj3]
    rw [if_pos hj2, Array.getElem?_eq_getElem hj3]
    rfl
  · injection e with e
    subst e
    exact ⟨_, _, heap_new w.drew _ _ rfl⟩
  · exact (Below.drew (Below.refl _ w)).alloc (Nat.le_refl _) _
/-- a call of the law's turns a queue -/
theorem Mid.tq {S : Nat → Prop} {w X W : World} {gq gw gc : Nat} {g ch : Nat → Nat} {room : Nat} {lsq lsw : Nat → List ByteArray} {clq clw : Nat → Bool} (h : Mid w X gq gw gc g ch room lsq clq lsw clw) (hD : Dst w.heap.size g ch) (hc : Chg S X W) (hS : ∀ k, S k → ∃ i, i < 3 ∧ (k = g i ∨ k = ch i)) : TQ w.heap.size X W := by
  refine ⟨Chg.below (Below.refl _ _) hc h.b.size (fun k hk => ?_), fun k cs t fr ht _ hk => hc.heap hk (fun hs => ?_)⟩
  · obtain ⟨i, hi, e | e⟩ := hS k hk
    · rw [e]; exact hD.gb i hi
    · rw [e]; exact hD.cb i hi
  · obtain ⟨i, hi, e⟩ := hS k hs
    obtain ⟨⟨cs', fr', o1⟩, o2⟩ := (h.q i hi).obj
    rcases e with e | e
    · subst e
      rw [o1] at hk
      injection hk with hk
      injection hk with _ hk
      exact ht hk.symm
    · subst e
      exact o2 _ _ _ hk
/-- a state told till the next call -/
def spV (B : Nat) (v0 : Value) (u : World → Prop) (hu : ∀ W W', u W → Gb B W W' → u W') : Stu.SpU (TQ B) (Gb B) := ⟨true, fun _ v => v = v0, fun _ _ _ => True, fun _ W => u W, fun _ _ _ _ _ _ => trivial, fun _ W W' h hg => hu W W' h hg⟩
def grS (B n : Nat) (l : List UInt8) : Stu.SpU (TQ B) (Gb B) := ⟨false, fun _ v => shp n v, fun _ v W => Sl W v l, fun _ _ => True, fun _ _ _ _ h hg => hg.sl h, fun _ _ _ _ _ => trivial⟩
theorem conv_rel {B : Nat} (W : World) (s : ByteArray) (hl : s.size ≤ 100) (hB : B ≤ W.heap.size) : Stu.relUpon Try.prog (Gb B) W (fun v W' => shp s.size v ∧ Sl W' v s.data.toList) (((convert 9 28 (.string s)).run Try.prog W).andThen fun a w' => .ok (.value a) w') := by
  obtain ⟨c, W', h1, h2, h3, h4⟩ := str_sl W s (by omega)
  rw [h1]
  exact ⟨⟨h4, hB⟩, ⟨_, _, rfl, h2⟩, h3⟩
theorem put_rel {w W : World} {gq gw gc : Nat} {g ch : Nat → Nat} {room : Nat} {ls : Nat → List ByteArray} {cl : Nat → Bool} (h : Mid w W gq gw gc g ch room ls cl ls cl) (hD : Dst w.heap.size g ch) (q : Nat) (hq : q < 3) (s : ByteArray) (hl : s.size ≤ 100) {v : Value} (hs : Sl W v s.data.toList) (gp : Nat) (hg : gp = g q) (m : Bool) (hm : m = (decide ((ls q).length < room) && !cl q)) :
    Calls Try.prog 10 #[.pointer (some ⟨gp, 0, none⟩), v] W fun e w' => ∃ v, e = .returned v ∧ TQ w.heap.size W w' ∧ (v = .bool m ∧ True) ∧ Mid w w' gq gw gc g ch room (upq ls q (if m then ls q ++ [s] else ls q)) cl ls cl := by
  subst hg
  obtain ⟨A, c, rfl, hc, hr⟩ := hs.rd
  have hsz : s.data.toList.length = s.size := by rw [Array.length_toList]; rfl
  refine (put_any W (g q) (ch q) room _ (cl q) (h.q q hq) A c _ hr (by rw [hsz]; omega)).mono ?_
  rintro e w1 ⟨rfl, h1, h2⟩
  have hmay : may room (bys (ls q)) (cl q) = m := by rw [hm]; unfold may; rw [bys_length]
  rw [hmay] at h1 ⊢
  refine ⟨_, rfl, h.tq hD h2 (fun k hk => ⟨q, hq, .inr hk⟩), ⟨rfl, trivial⟩, ?_⟩
  have hQ : Qu w1 (g q) (ch q) room (bys (if m then ls q ++ [s] else ls q)) (cl q) := by
    cases m with
    | true => simpa [bys] using h1
    | false => simpa using h1
  have hone := h.q.one hD q hq h2 (fun k hk => .inr hk) hQ
  rw [show upq cl q (cl q) = cl by funext i; unfold upq; split <;> simp_all] at hone
  refine h.turn hD h2 (fun k hk => ⟨q, hq, .inr hk⟩) hone (fun i hi => ?_)
  unfold upq
  split
  · rename_i e
    subst e
    have := h.l i hi
    cases m with
    | false => exact this
    | true =>
      have hlt : (ls i).length < room := by
        have := hm.symm
        simp at this
        exact this.1
      refine ⟨by simp; omega, fun x hx => ?_⟩
      simp only [if_true, List.mem_append, List.mem_singleton] at hx
      rcases hx with hx | rfl
      · exact this.2 x hx
      · exact hl
  · exact h.l i hi
end Go.Proofs.Ythecekkophbceaa
