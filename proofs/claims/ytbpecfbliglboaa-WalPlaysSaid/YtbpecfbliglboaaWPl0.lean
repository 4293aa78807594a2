/- The law WalPlays: its acts as arguments; rows of strings that are read; the append of a copy. -/
import Derived.Test.YtbpecfbliglboaaWgC
import Derived.Test.YtbpecfbliglboaaApp1
namespace Go.Proofs.Ytbpecfbliglboaa
open Go.RowKit Go.Maps
set_option linter.unusedVariables false
set_option linter.unusedSimpArgs false
attribute [local irreducible] Stu.wpR Stu.relOp wpR relOp
structure WAct where
  op : Int
  n : Int
  torn : Int
  b : List UInt8
  keep : List Int
def KWAct (w : World) (x : WAct) (cs : List Value) : Prop := ∃ A c A2 c2, cs = [.int .i64 x.op, .int .i64 x.n, .int .i64 x.torn, .slice A x.b.length c, .slice A2 x.keep.length c2] ∧ (Lit.int .i64 x.op).wf = true ∧ (Lit.int .i64 x.n).wf = true ∧ (Lit.int .i64 x.torn).wf = true ∧ x.b.length ≤ c ∧ x.b.length ≤ 140737488351232 ∧ Rd w A x.b ∧ x.keep.length ≤ c2 ∧ x.keep.length * 8 ≤ 140737488351232 ∧ Row (KInt .i64) 1 w A2 x.keep
theorem opn_wact : Opn Try.prog 66 KWAct := by
  refine Opn.imp (Opn.struct (n := 5) Try.underlying66 (by kernel_rfl) (OpnF.cons (sz := 1) (by kernel_rfl) (Opn.int Try.underlying3) (OpnF.cons (sz := 1) (by kernel_rfl) (Opn.int Try.underlying3) (OpnF.cons (sz := 1) (by kernel_rfl) (Opn.int Try.underlying3) (OpnF.cons (sz := 1) (by kernel_rfl) (Opn.slice Try.underlying33 (by kernel_rfl : Try.prog.cellsOf 5 = 1) (by kernel_rfl : Try.prog.bytesOf 5 = 1) (Opn.byte Try.underlying5)) (OpnF.cons (sz := 1) (by kernel_rfl) (Opn.slice Try.underlying30 (by kernel_rfl : Try.prog.cellsOf 3 = 1) (by kernel_rfl : Try.prog.bytesOf 3 = 8) (Opn.int Try.underlying3)) OpnF.nil)))))) ?_
  rintro w ⟨op, n, torn, b, keep, _⟩ cs ⟨hl, h1, h2, h3, h4, h5, _⟩
  obtain ⟨v0, v1, v2, v3, v4, rfl⟩ : ∃ v0 v1 v2 v3 v4, cs = [v0, v1, v2, v3, v4] := by
    match cs, hl with
    | [v0, v1, v2, v3, v4], _ => exact ⟨v0, v1, v2, v3, v4, rfl⟩
  obtain ⟨e1, f1⟩ := h1; obtain ⟨e2, f2⟩ := h2; obtain ⟨e3, f3⟩ := h3
  obtain ⟨A, k, e5, f5, _, f6, f7⟩ := h5
  obtain ⟨A3, k3, e4, g5, g4, g6, g7⟩ := h4
  simp at e1 e2 e3 e4 e5
  subst e1; subst e2; subst e3; subst e4; subst e5
  have g8 : b.length ≤ 140737488351232 := by
    have := g6
    simp only [Nat.mul_one] at this
    exact this
  exact ⟨⟨op, n, torn, b, keep⟩, A3, k3, A, k, rfl, f1, f2, f3, g5, g8, Rd.of_row g7 (by show b.length ≤ _; omega), f5, f6, f7⟩
theorem IntR.of_row' {w : World} {A : Option Addr} {c : Nat} {ks : List Int} (h : Row (KInt .i64) 1 w A ks) (hc : ks.length ≤ c) : IntR w (.slice A ks.length c) ks := by
  refine ⟨A, c, rfl, hc, fun hp => ?_⟩
  obtain ⟨a, e, hr⟩ := h hp
  refine ⟨a, e, fun j hj => ?_⟩
  obtain ⟨cs, hcl, hK, hcell⟩ := hr j hj
  have h0 := hcell 0 (by omega)
  obtain ⟨hK, _⟩ := hK
  subst hK
  simpa using h0
theorem wadd_fld (a : Addr) (m i : Nat) : a.add (m + (i + 1)) = ⟨(a.add m).block, (a.add m).off + (i + 1), none⟩ := by
  rw [← Go.Deep.add_add]
  unfold Addr.add
  simp
theorem wact_at {w : World} {A : Option Addr} {xs : List WAct} (h : Row KWAct 5 w A xs) (j : Nat) (hj : j < xs.length) : ∃ a A1 k1 A2 k2, A = some a ∧ w.cell? (a.add (j * 5)) = some (.int .i64 xs[j].op) ∧ w.cell? ⟨(a.add (j * 5)).block, (a.add (j * 5)).off + 1, none⟩ = some (.int .i64 xs[j].n) ∧ w.cell? ⟨(a.add (j * 5)).block, (a.add (j * 5)).off + 2, none⟩ = some (.int .i64 xs[j].torn) ∧ w.cell? ⟨(a.add (j * 5)).block, (a.add (j * 5)).off + 3, none⟩ = some (.slice A1 xs[j].b.length k1) ∧ w.cell? ⟨(a.add (j * 5)).block, (a.add (j * 5)).off + 4, none⟩ = some (.slice A2 xs[j].keep.length k2) ∧
    xs[j].b.length ≤ k1 ∧ Rd w A1 xs[j].b ∧ xs[j].keep.length ≤ k2 ∧ IntR w (.slice A2 xs[j].keep.length k2) xs[j].keep ∧ (Lit.int .i64 xs[j].op).wf = true ∧ (Lit.int .i64 xs[j].n).wf = true ∧ (Lit.int .i64 xs[j].torn).wf = true := by
  obtain ⟨a, e, hr⟩ := h (by omega)
  obtain ⟨cs, hcl, ⟨A', c, A2, c2, hcs, h1, h2, h3, h4, h5, h6, h7, h8, h9⟩, hcell⟩ := hr j hj
  subst hcs
  exact ⟨a, A', c, A2, c2, e, hcell 0 (by simp), wadd_fld a (j * 5) 0 ▸ hcell 1 (by simp), wadd_fld a (j * 5) 1 ▸ hcell 2 (by simp), wadd_fld a (j * 5) 2 ▸ hcell 3 (by simp), wadd_fld a (j * 5) 3 ▸ hcell 4 (by simp), h4, h6, h7, IntR.of_row' h9 h7, h1, h2, h3⟩
theorem IntR.below' {w w1 : World} {v : Value} {ks : List Int} (h : IntR w v ks) (hb : Below w.heap.size w w1) : IntR w1 v ks := by
  obtain ⟨A, c, h1, h2, h3⟩ := h
  refine ⟨A, c, h1, h2, fun hp => ?_⟩
  obtain ⟨a, e, hc⟩ := h3 hp
  exact ⟨a, e, fun j hj => cell_below hb (hc j hj)⟩
/-- a row of strings that is read, in a block of strings -/
def Stl (w : World) (v : Value) (ss : List (List UInt8)) : Prop := ∃ A c, v = .slice A ss.length c ∧ ss.length ≤ c ∧ (0 < ss.length → ∃ a, A = some a ∧ ∀ j, (h : j < ss.length) → w.cell? (a.add j) = some (.string ⟨ss[j].toArray⟩)) ∧ ∀ a, A = some a → ∃ cs fr, w.heap[a.block]? = some (.cells cs 9 fr)
theorem Stl.str {w : World} {v : Value} {ss : List (List UInt8)} (h : Stl w v ss) : StR w v ss := by
  obtain ⟨A, c, h1, h2, h3, _⟩ := h
  exact ⟨A, c, h1, h2, h3⟩
theorem Stl.nil (w : World) : Stl w (.slice none 0 0) [] := ⟨none, 0, rfl, Nat.le_refl _, fun h => absurd h (by simp), fun _ h => nomatch h⟩
theorem Stl.keep {w w1 : World} {v : Value} {ss : List (List UInt8)} (h : Stl w v ss) (hk : ∀ (k : Nat) cs fr, w.heap[k]? = some (.cells cs 9 fr) → w1.heap[k]? = some (.cells cs 9 fr)) : Stl w1 v ss := by
  obtain ⟨A, c, h1, h2, h3, h4⟩ := h
  refine ⟨A, c, h1, h2, fun hp => ?_, fun a e => ?_⟩
  · obtain ⟨a, e, hc⟩ := h3 hp
    obtain ⟨cs, fr, h5⟩ := h4 a e
    refine ⟨a, e, fun j hj => ?_⟩
    have h6 : (a.add j).block = a.block := by unfold Addr.add; split <;> rfl
    rw [World.cell?_of_block (w := w) (by rw [h6]; exact (hk _ _ _ h5).trans h5.symm)]
    exact hc j hj
  · obtain ⟨cs, fr, h5⟩ := h4 a e
    exact ⟨cs, fr, hk _ _ _ h5⟩
theorem Stl.below {w w1 : World} {v : Value} {ss : List (List UInt8)} (h : Stl w v ss) (hb : Below w.heap.size w w1) : Stl w1 v ss := h.keep fun k _ _ hk => (hb.block k (Array.getElem?_eq_some_iff.1 hk).1).trans hk
theorem Stl.tl {w w1 : World} {v : Value} {ss : List (List UInt8)} (h : Stl w v ss) (ht : TL w w1) : Stl w1 v ss := h.keep fun k _ _ hk => ht _ _ _ _ (by decide) (by decide) ⟨by decide, by decide⟩ hk
theorem Stl.of_row {w : World} {base : Nat} {v : Value} {ss : List (List UInt8)} (h : Sow w base v ss) : Stl w v ss := by
  obtain ⟨A, c, h1, h2, h3⟩ := h.str
  refine ⟨A, c, h1, h2, h3, fun a e => ?_⟩
  rcases h.2 with ⟨rfl, _⟩ | ⟨g, cap, cur, hv, hb, hh, hr⟩
  · injection h1 with q1
    rw [← q1] at e
    cases e
  · rw [hv] at h1
    injection h1 with q1
    rw [e] at q1
    injection q1 with q1
    rw [← q1]
    exact ⟨_, _, hh⟩
theorem Stl.shp {w : World} {v : Value} {ss : List (List UInt8)} (h : Stl w v ss) : ∃ A c, v = .slice A ss.length c ∧ ss.length ≤ c := by
  obtain ⟨A, c, h1, h2, _⟩ := h
  exact ⟨A, c, h1, h2⟩
theorem Stl.src {w : World} {n c : Nat} {A : Option Addr} {ss : List (List UInt8)} (h : Stl w (.slice A n c) ss) : Src w A (stv ss) := fun hp => by
  obtain ⟨A', c', h1, h2, h3, _⟩ := h
  injection h1 with q1 q2 q3
  subst q1
  obtain ⟨a, e, hc⟩ := h3 (by simpa [stv] using hp)
  refine ⟨a, e, fun j u hu => ?_⟩
  have hj : j < ss.length := by have := (List.getElem?_eq_some_iff.1 hu).1; simpa [stv] using this
  rw [hc j hj]
  simp [stv, hj] at hu
  rw [hu]
/-! ### append(append([]string{}, l...), x) -/
/-- a row in the making -/
def SAp (S0 nn : Nat) (ss : List (List UInt8)) (v : Value) (W : World) : Prop := W.ownsRow S0 9 1 v nn (stv ss) ∧ (nn = 0 → ∀ g, v.ownBlock = some g → W.heap[g]? = some (.cells #[] 9))
theorem SAp.kept {S0 nn : Nat} {ss : List (List UInt8)} {v : Value} {W W' : World} (h : SAp S0 nn ss v W) (hg : Gs S0 W W') : SAp S0 nn ss v W' :=
  ⟨World.ownsRow.kept h.1 ⟨hg.1.os, hg.1.tape, hg.1.output, hg.1.size, fun k hk _ => hg.1.block k hk⟩ (row := none) (by cases v.ownBlock <;> simp), fun e g hv => (hg.1.block g (Array.getElem?_eq_some_iff.1 (h.2 e g hv)).1).trans (h.2 e g hv)⟩
def shq (nn : Nat) (v : Value) : Prop := ∃ A c, v = .slice A nn c ∧ nn ≤ c
theorem shq.of_row {W : World} {base e size n : Nat} {v : Value} {xs : List Value} (h : W.ownsRow base e size v n xs) : shq n v := by
  rcases h.2 with ⟨rfl, h0⟩ | ⟨g, cap, cur, rfl, _, _, hc, _⟩
  · exact ⟨none, 0, by rw [h0], by omega⟩
  · exact ⟨_, cap, rfl, hc⟩
def slit0 (S0 : Nat) : Stu.SpU (TE 9 1 S0) (Gs S0) := ⟨false, fun _ v => ∃ g, v = .slice (some ⟨g, 0, none⟩) 0 0, fun _ v W => ∃ g, v = .slice (some ⟨g, 0, none⟩) 0 0 ∧ S0 ≤ g ∧ W.heap[g]? = some (.cells #[] 9), fun _ _ => True, fun _ _ W W' h hg => by
  obtain ⟨g, h1, h2, h3⟩ := h
  exact ⟨g, h1, h2, hg.2 _ _ _ _ (.inr (by simp)) h3⟩, fun _ _ _ _ _ => trivial⟩
def slit1 (S0 : Nat) (s : ByteArray) : Stu.SpU (TE 9 1 S0) (Gs S0) := ⟨false, fun _ v => ∃ g, v = .slice (some ⟨g, 0, none⟩) 1 1, fun _ v W => ∃ g, v = .slice (some ⟨g, 0, none⟩) 1 1 ∧ W.heap[g]? = some (.cells #[.string s] 9), fun _ _ => True, fun _ _ W W' h hg => by
  obtain ⟨g, h1, h3⟩ := h
  exact ⟨g, h1, hg.2 _ _ _ _ (.inr (by simp)) h3⟩, fun _ _ _ _ _ => trivial⟩
def sval (S0 : Nat) (u : Value) : Stu.SpU (TE 9 1 S0) (Gs S0) := ⟨false, fun _ v => v = u, fun _ _ _ => True, fun _ _ => True, fun _ _ _ _ _ _ => trivial, fun _ _ _ _ _ => trivial⟩
def sap (S0 nn : Nat) (ss : List (List UInt8)) : Stu.SpU (TE 9 1 S0) (Gs S0) := ⟨true, fun _ v => shq nn v, fun _ _ _ => True, SAp S0 nn ss, fun _ _ _ _ _ _ => trivial, fun _ _ _ h hg => h.kept hg⟩
set_option maxRecDepth 20000 in
theorem sap1_rel {o : Oper} {a : Act} {W : World} {S0 g0 nn c : Nat} {A : Option Addr} {ss : List (List UInt8)} {s x : Operand}
    (ho : o.op = .call { callee := .builtin .append, args := #[s, x], argTypes := #[48, 48] }) (hs : a.eval s = .slice (some ⟨g0, 0, none⟩) 0 0) (hx : a.eval x = .slice A nn c)
    (h2 : W.heap[g0]? = some (.cells #[] 9)) (hg0 : S0 ≤ g0) (hS : S0 ≤ W.heap.size) (hv : Stl W (.slice A nn c) ss) (hnn : nn = ss.length) (hn : nn ≤ 1000000) (xs : List Value) :
    Stu.relUpon Try.prog (TE 9 1 S0) W (fun v W' => ((sap S0 nn ss).p xs v ∧ (sap S0 nn ss).q xs v W') ∧ (sap S0 nn ss).u v W') ((execOp a.eval o).run Try.prog W) := by
  have hsl : (stv ss).length = nn := by simp [stv, hnn]
  have hone : ∀ u ∈ stv ss, u.oneCell' = true := by
    intro u hu
    obtain ⟨k, _, rfl⟩ := List.mem_map.1 hu
    rfl
  have hown : W.ownsRow S0 9 1 (.slice (some ⟨g0, 0, none⟩) 0 0) 0 [] := ⟨rfl, .inr ⟨g0, 0, #[], rfl, hg0, h2, Nat.le_refl _, Nat.zero_le _, rfl, rfl⟩⟩
  obtain ⟨i0, hi2, hzz⟩ := Option.map_eq_some_iff.1 info_str
  simp only [Prod.mk.injEq] at hzz
  unfold execOp
  simp only [ho, resolve, invoke, builtin, Sem.run_bind, Sem.run_pure, Result.andThen_ok, List.map_toArray, List.map_cons, List.map_nil, hs, hx]
  rcases Nat.eq_zero_or_pos nn with h0 | h0
  · subst h0
    rw [append_nil W _ _ 9 Try.underlying48 ⟨i0, hi2⟩ g0 0 0 (Nat.le_refl _) A c]
    have hss : ss = [] := List.eq_nil_of_length_eq_zero hnn.symm
    subst hss
    simp only [Result.andThen_ok]
    exact ⟨TE.refl _ _ _ _, ⟨⟨_, 0, rfl, Nat.le_refl _⟩, trivial⟩, hown, fun _ g hg => by simp [Value.ownBlock] at hg; subst hg; exact h2⟩
  · obtain ⟨v1, W', hr, k1, k2⟩ := append_dicho (P := Try.prog) W S0 48 o.type 9 i0 _ 1 16 Try.underlying48 hi2 hzz.1 hzz.2.1 hzz.2.2 rfl (by decide) (by decide) _ 0 [] hown A nn c (stv ss) (by omega) hv.src hone (by omega) hS
    rw [hr]
    simp only [Result.andThen_ok]
    rw [Nat.zero_add, List.nil_append] at k1
    rcases k2 with ⟨g, cur, q1, q2, q3, q4, _⟩ | ⟨q1, q2⟩
    · exfalso
      simp [Value.ownBlock] at q1
      subst q1
      rw [h2] at q3
      injection q3 with q3
      injection q3 with q3
      subst q3
      rw [hsl] at q4
      simp at q4
      omega
    · exact ⟨Gs.te _ _ ⟨q1, hS⟩, ⟨shq.of_row k1, trivial⟩, k1, fun e => by omega⟩
theorem sap2_rel {o : Oper} {a : Act} {W : World} {S0 gl nn : Nat} {ss : List (List UInt8)} {s x : Operand} {v : Value} {z : List UInt8}
    (ho : o.op = .call { callee := .builtin .append, args := #[s, x], argTypes := #[48, 48] }) (hs : a.eval s = v) (hx : a.eval x = .slice (some ⟨gl, 0, none⟩) 1 1)
    (h10 : W.heap[gl]? = some (.cells #[.string ⟨z.toArray⟩] 9)) (hS : S0 ≤ W.heap.size) (hn : nn ≤ 1000000) (hU : SAp S0 nn ss v W) (xs : List Value) :
    Stu.relUpon Try.prog (TE 9 1 S0) W (fun v W' => ((sap S0 (nn + 1) (ss ++ [z])).p xs v ∧ (sap S0 (nn + 1) (ss ++ [z])).q xs v W') ∧ (sap S0 (nn + 1) (ss ++ [z])).u v W') ((execOp a.eval o).run Try.prog W) := by
  obtain ⟨v', W', hr, k1, k2⟩ := app1_run (ty := o.type) Try.underlying48 info_str rfl (by decide) (by decide) (by decide) h10 rfl (by intro u hu; simp at hu; subst hu; rfl) hS hn hU.1 hU.2
  unfold execOp
  simp only [ho, resolve, invoke, builtin, Sem.run_bind, Sem.run_pure, Result.andThen_ok, List.map_toArray, List.map_cons, List.map_nil, hs, hx, hr]
  have k3 : W'.ownsRow S0 9 1 v' (nn + 1) (stv (ss ++ [z])) := by
    rw [show stv (ss ++ [z]) = stv ss ++ [.string ⟨z.toArray⟩] by simp [stv]]
    exact k1
  exact ⟨k2, ⟨shq.of_row k3, trivial⟩, k3, fun e => by omega⟩
end Go.Proofs.Ytbpecfbliglboaa
