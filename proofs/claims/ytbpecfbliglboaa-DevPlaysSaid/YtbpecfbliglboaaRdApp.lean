/- append(append([]write{}, l...), x) of the reference's device, in a region that draws its order. -/
import Derived.Test.YtbpecfbliglboaaRdDs
import Derived.Test.YtbpecfbliglboaaRelApp
import Derived.Test.YtbpecfbliglboaaStu
namespace Go.Proofs.Ytbpecfbliglboaa
open Go.RowKit Go.Maps
set_option linter.unusedVariables false
set_option linter.unusedSimpArgs false
theorem info_rwrite : (Try.prog.info? 85).map (fun i => (i.zero, i.size, i.bytes)) = some (some (.agg #[.int .i64 0, .string ByteArray.empty]), 2, 24) := by kernel_rfl
/-- the world below S0 stays, small blocks stay -/
def TB (S0 : Nat) (W W' : World) : Prop := Below S0 W W' ∧ ∀ (k : Nat) cs (t : Nat) fr, cs.size ≤ 2 → W.heap[k]? = some (.cells cs t fr) → W'.heap[k]? = some (.cells cs t fr)
theorem TB.refl (S0 : Nat) (W : World) : TB S0 W W := ⟨Below.refl _ _, fun _ _ _ _ _ h => h⟩
theorem TB.trans {S0 : Nat} (a b c : World) (h : TB S0 a b) (k : TB S0 b c) : TB S0 a c := ⟨h.1.trans k.1, fun i cs t fr h1 h3 => k.2 i cs t fr h1 (h.2 i cs t fr h1 h3)⟩
def Gn (S0 : Nat) (W W' : World) : Prop := Below W.heap.size W W' ∧ S0 ≤ W.heap.size
theorem Gn.tb {S0 : Nat} (W W' : World) (h : Gn S0 W W') : TB S0 W W' := ⟨h.1.mono h.2, fun k _ _ _ _ h3 => (h.1.block k (Array.getElem?_eq_some_iff.1 h3).1).trans h3⟩
theorem append_nil {P : Program} (W : World) (t ty e : TypeId) (ht : P.underlying t = some (.slice e)) (hi : ∃ i, P.info? e = some i) (g : Nat) (cap n : Nat) (hc : n ≤ cap) (A : Option Addr) (c : Nat) :
    (Builtin.append_ #[t, t] ty #[.slice (some ⟨g, 0, none⟩) n cap, .slice A 0 c]).run P W = .ok (.slice (some ⟨g, 0, none⟩) n cap) W := by
  obtain ⟨i, hi⟩ := hi
  cases A with
  | none => simp [Builtin.append_, run_underlying ht, sizeOf, typeInfo, hi, Builtin.lenOf, Builtin.firstCells, hc, storeCells]
  | some a =>
    have hl : (loadCells a 0).run P W = .ok #[] W := by unfold loadCells; simp [go_sem]
    simp [Builtin.append_, run_underlying ht, sizeOf, typeInfo, hi, Builtin.lenOf, Builtin.firstCells, hc, hl, storeCells]
def WApp1 (S0 : Nat) (w1 : World) (nn : Nat) (ws : List (Int × ByteArray)) (v : Value) (W : World) : Prop := W.ownsRow S0 85 2 v nn (wvl ws) ∧ (nn = 0 → ∃ g, v = .slice (some ⟨g, 0, none⟩) 0 0 ∧ W.heap[g]? = some (.cells #[] 85)) ∧ Below S0 w1 W
def WApp2 (S0 : Nat) (w1 : World) (nn : Nat) (ws : List (Int × ByteArray)) (v : Value) (W : World) : Prop := W.ownsRow S0 85 2 v nn (wvl ws) ∧ Below S0 w1 W
theorem WApp2.kept {S0 nn : Nat} {w1 : World} {ws : List (Int × ByteArray)} {v : Value} {W W' : World} (h : WApp2 S0 w1 nn ws v W) (hg : Gn S0 W W') : WApp2 S0 w1 nn ws v W' :=
  ⟨orow_stay h.1 (fun k cs fr hk => (hg.1.block k (Array.getElem?_eq_some_iff.1 hk).1).trans hk), h.2.trans (hg.1.mono hg.2)⟩
theorem WApp1.kept {S0 nn : Nat} {w1 : World} {ws : List (Int × ByteArray)} {v : Value} {W W' : World} (h : WApp1 S0 w1 nn ws v W) (hg : Gn S0 W W') : WApp1 S0 w1 nn ws v W' := by
  obtain ⟨h1, h2, h3⟩ := h
  obtain ⟨k1, k2⟩ := WApp2.kept ⟨h1, h3⟩ hg
  refine ⟨k1, fun e => ?_, k2⟩
  obtain ⟨g, e1, e2⟩ := h2 e
  exact ⟨g, e1, (hg.1.block g (Array.getElem?_eq_some_iff.1 e2).1).trans e2⟩
def shpn (nn : Nat) (v : Value) : Prop := ∃ A c, v = .slice A nn c ∧ nn ≤ c
theorem shpn.of_row {W : World} {base e size n : Nat} {v : Value} {xs : List Value} (h : W.ownsRow base e size v n xs) : shpn n v := by
  rcases h.2 with ⟨rfl, h0⟩ | ⟨g, cap, cur, rfl, _, _, hc, _⟩
  · exact ⟨none, 0, by rw [h0], by omega⟩
  · exact ⟨_, cap, rfl, hc⟩
theorem Src.of_row {W : World} {base e size n nn c : Nat} {A : Option Addr} {xs : List Value} (h : W.ownsRow base e size (.slice A nn c) n xs) : nn = n ∧ Src W A xs := by
  rcases h.2 with ⟨e, h0⟩ | ⟨g, cap, cur, e, _, _, hc, _⟩
  · injection e with e1 e2 e3
    refine ⟨by omega, fun hp => ?_⟩
    have := h.1
    rw [h0] at this
    omega
  · injection e with e1 e2 e3
    subst e1; subst e2; subst e3
    refine ⟨rfl, fun _ => ⟨_, rfl, fun j u hu => ?_⟩⟩
    exact World.ownsRow.cells (g := g) h rfl j u hu
set_option maxRecDepth 20000 in
theorem wapp1_rel {o : Oper} {a : Act} {W w1 : World} {S0 g0 nn c B : Nat} {A : Option Addr} {ws : List (Int × ByteArray)} {s x : Operand}
    (ho : o.op = .call { callee := .builtin .append, args := #[s, x], argTypes := #[49, 49] }) (hs : a.eval s = .slice (some ⟨g0, 0, none⟩) 0 0) (hx : a.eval x = .slice A nn c)
    (h2 : W.heap[g0]? = some (.cells #[] 85)) (hg0 : S0 ≤ g0) (hS : S0 ≤ W.heap.size) (hv : W.ownsRow B 85 2 (.slice A nn c) nn (wvl ws)) (hn : nn ≤ 1000000) (hU : Below S0 w1 W) :
    Stu.relUpon Try.prog (TB S0) W (fun v W' => (shpn nn v ∧ True) ∧ WApp1 S0 w1 nn ws v W') ((execOp a.eval o).run Try.prog W) := by
  obtain ⟨_, hsrc⟩ := Src.of_row hv
  have hnn : (wvl ws).length = nn * 2 := hv.1
  have hown : W.ownsRow S0 85 2 (.slice (some ⟨g0, 0, none⟩) 0 0) 0 [] := ⟨rfl, .inr ⟨g0, 0, #[], rfl, hg0, h2, Nat.le_refl _, Nat.zero_le _, rfl, rfl⟩⟩
  obtain ⟨i0, hi2, hzz⟩ := Option.map_eq_some_iff.1 info_rwrite
  simp only [Prod.mk.injEq] at hzz
  unfold execOp
  simp only [ho, resolve, invoke, builtin, Sem.run_bind, Sem.run_pure, Result.andThen_ok, List.map_toArray, List.map_cons, List.map_nil, hs, hx]
  rcases Nat.eq_zero_or_pos nn with h0 | h0
  · subst h0
    rw [append_nil W _ _ 85 Try.underlying49 ⟨i0, hi2⟩ g0 0 0 (Nat.le_refl _) A c]
    have hss : ws = [] := by
      rw [wvl_len] at hnn
      exact List.eq_nil_of_length_eq_zero (by omega)
    subst hss
    simp only [Result.andThen_ok]
    exact ⟨TB.refl _ _, ⟨⟨_, 0, rfl, Nat.le_refl _⟩, trivial⟩, hown, fun _ => ⟨g0, rfl, h2⟩, hU⟩
  · obtain ⟨v1, W', hr, k1, k2⟩ := append_dicho (P := Try.prog) W S0 49 o.type 85 i0 (.agg #[.int .i64 0, .string ByteArray.empty]) 2 24 Try.underlying49 hi2 hzz.1 hzz.2.1 hzz.2.2 rfl (by decide) (by decide) _ 0 [] hown A nn c (wvl ws) hnn hsrc (wvl_one ws) (by omega) hS
    rw [hr]
    simp only [Result.andThen_ok]
    rw [Nat.zero_add, List.nil_append] at k1
    rcases k2 with ⟨g, cur, q1, q2, q3, q4, _⟩ | ⟨q1, q2⟩
    · exfalso
      simp [Value.ownBlock] at q1
      subst q1
      rw [h2] at q3
      injection q3 with q3
      injection q3 with q3
      subst q3
      rw [hnn] at q4
      simp at q4
      omega
    · exact ⟨Gn.tb _ _ ⟨q1, hS⟩, ⟨shpn.of_row k1, trivial⟩, k1, fun e => by omega, hU.trans (q1.mono hS)⟩
set_option maxRecDepth 20000 in
theorem wapp2_rel {o : Oper} {a : Act} {W w1 : World} {S0 gl nn : Nat} {ws : List (Int × ByteArray)} {s x : Operand} {v : Value} {at_ : Int} {z : ByteArray} {fr : Nat × Nat}
    (ho : o.op = .call { callee := .builtin .append, args := #[s, x], argTypes := #[49, 49] }) (hs : a.eval s = v) (hx : a.eval x = .slice (some ⟨gl, 0, none⟩) 1 1)
    (h10 : W.heap[gl]? = some (.cells #[.int .i64 at_, .string z] 85 fr)) (hS : S0 ≤ W.heap.size) (hn : nn ≤ 1000000) (hU : WApp1 S0 w1 nn ws v W) :
    Stu.relUpon Try.prog (TB S0) W (fun v W' => (shpn (nn + 1) v ∧ True) ∧ WApp2 S0 w1 (nn + 1) (ws ++ [(at_, z)]) v W') ((execOp a.eval o).run Try.prog W) := by
  obtain ⟨u1, u2, u3⟩ := hU
  have hsrc : Src W (some ⟨gl, 0, none⟩) (wvl [(at_, z)]) := fun _ => ⟨_, rfl, fun j u hu => by
    have ha : (⟨gl, 0, none⟩ : Addr).add j = ⟨gl, j, none⟩ := by unfold Addr.add; split <;> simp_all
    rw [ha, cell_of_row _ gl j _ _ _ h10]
    simpa [wvl] using hu⟩
  obtain ⟨i0, hi2, hzz⟩ := Option.map_eq_some_iff.1 info_rwrite
  simp only [Prod.mk.injEq] at hzz
  obtain ⟨v1, W', hr, k1, k2⟩ := append_dicho (P := Try.prog) W S0 49 o.type 85 i0 (.agg #[.int .i64 0, .string ByteArray.empty]) 2 24 Try.underlying49 hi2 hzz.1 hzz.2.1 hzz.2.2 rfl (by decide) (by decide) v nn (wvl ws) u1 (some ⟨gl, 0, none⟩) 1 1 (wvl [(at_, z)]) rfl hsrc (wvl_one _) (by omega) hS
  unfold execOp
  simp only [ho, resolve, invoke, builtin, Sem.run_bind, Sem.run_pure, Result.andThen_ok, List.map_toArray, List.map_cons, List.map_nil, hs, hx, hr]
  have k1' : W'.ownsRow S0 85 2 v1 (nn + 1) (wvl (ws ++ [(at_, z)])) := by
    rw [wvl_app]; exact k1
  rcases k2 with ⟨g, cur, q1, q2, q3, q4, q5, q6⟩ | ⟨q1, q2⟩
  · have hgS : S0 ≤ g := (u1.lt g q1).1
    have hbig : 3 ≤ cur.size := by
      rcases Nat.eq_zero_or_pos nn with h0 | h0
      · exfalso
        obtain ⟨g', e1, e2⟩ := u2 h0
        subst e1
        simp [Value.ownBlock] at q1
        subst q1
        rw [e2] at q3
        injection q3 with q3
        injection q3 with q3
        subst q3
        simp [wvl] at q4
      · simp [wvl] at q4
        omega
    have hbl : Below S0 W W' := ⟨q6.os, q6.tape, q6.output, q6.size, fun k hk => q6.block k (Nat.lt_of_lt_of_le hk hS) (fun e => by injection e with e; omega)⟩
    refine ⟨⟨hbl, fun k cs t fr' hsz hk => (q6.block k (Array.getElem?_eq_some_iff.1 hk).1 (fun e => ?_)).trans hk⟩, ⟨shpn.of_row k1', trivial⟩, k1', u3.trans hbl⟩
    injection e with e
    subst e
    rw [q3] at hk
    injection hk with hk
    injection hk with e1 e2 e3
    subst e1
    omega
  · exact ⟨Gn.tb _ _ ⟨q1, hS⟩, ⟨shpn.of_row k1', trivial⟩, k1', u3.trans (q1.mono hS)⟩
def wlit0 (S0 : Nat) : Stu.SpU (TB S0) (Gn S0) := ⟨false, fun _ v => ∃ g, v = .slice (some ⟨g, 0, none⟩) 0 0, fun _ v W => ∃ g, v = .slice (some ⟨g, 0, none⟩) 0 0 ∧ S0 ≤ g ∧ W.heap[g]? = some (.cells #[] 85), fun _ _ => True, fun _ _ W W' h hg => by
  obtain ⟨g, h1, h2, h3⟩ := h
  exact ⟨g, h1, h2, hg.2 _ _ _ _ (by simp) h3⟩, fun _ _ _ _ _ => trivial⟩
def wlit1 (S0 : Nat) (at_ : Int) (z : ByteArray) : Stu.SpU (TB S0) (Gn S0) := ⟨false, fun _ v => ∃ g, v = .slice (some ⟨g, 0, none⟩) 1 1, fun _ v W => ∃ g, v = .slice (some ⟨g, 0, none⟩) 1 1 ∧ W.heap[g]? = some (.cells #[.int .i64 at_, .string z] 85), fun _ _ => True, fun _ _ W W' h hg => by
  obtain ⟨g, h1, h3⟩ := h
  exact ⟨g, h1, hg.2 _ _ _ _ (by simp) h3⟩, fun _ _ _ _ _ => trivial⟩
def wsp1 (S0 : Nat) (w1 : World) (nn : Nat) (ws : List (Int × ByteArray)) : Stu.SpU (TB S0) (Gn S0) := ⟨true, fun _ v => shpn nn v, fun _ _ _ => True, WApp1 S0 w1 nn ws, fun _ _ _ _ _ _ => trivial, fun _ _ _ h hg => h.kept hg⟩
def wsp2 (S0 : Nat) (w1 : World) (nn : Nat) (ws : List (Int × ByteArray)) : Stu.SpU (TB S0) (Gn S0) := ⟨true, fun _ v => shpn nn v, fun _ _ _ => True, WApp2 S0 w1 nn ws, fun _ _ _ _ _ _ => trivial, fun _ _ _ h hg => h.kept hg⟩
theorem wlit_rel {S0 e : Nat} {W : World} {vs : Array Value} (hS : S0 ≤ W.heap.size) {p : Value → Prop} {q : Value → World → Prop} (v : Value) (hp : p v) (hq : q v (W.alloc (.cells vs e))) :
    Stu.relUpon Try.prog (Gn S0) W (fun v W' => p v ∧ q v W') (.ok (.value v) (W.alloc (.cells vs e))) :=
  ⟨⟨(Below.refl _ W).alloc (Nat.le_refl _) _, hS⟩, hp, hq⟩
end Go.Proofs.Ytbpecfbliglboaa
