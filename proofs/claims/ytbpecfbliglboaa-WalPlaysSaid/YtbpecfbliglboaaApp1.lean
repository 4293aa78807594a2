/- append of one element to an own row, in a drawn region (out of KvRf0, generic). -/
import Derived.Test.YtbpecfbliglboaaApb
namespace Go.Proofs.Ytbpecfbliglboaa
open Go.RowKit Go.Maps
set_option linter.unusedVariables false
set_option linter.unusedSimpArgs false
attribute [local irreducible] wpR relOp Stu.wpR Stu.relOp
def TE (e sz S0 : Nat) (w w' : World) : Prop := Below S0 w w' ∧ ∀ (k : Nat) cs (t : Nat) fr, (t ≠ e ∨ cs.size ≤ sz) → w.heap[k]? = some (.cells cs t fr) → w'.heap[k]? = some (.cells cs t fr)
theorem TE.refl (e sz S0 : Nat) (w : World) : TE e sz S0 w w := ⟨Below.refl _ _, fun _ _ _ _ _ h => h⟩
theorem TE.trans {e sz S0 : Nat} (a b c : World) (h : TE e sz S0 a b) (k : TE e sz S0 b c) : TE e sz S0 a c := ⟨h.1.trans k.1, fun i cs t fr h1 h3 => k.2 i cs t fr h1 (h.2 i cs t fr h1 h3)⟩
theorem Gs.te {e sz S0 : Nat} (W W' : World) (h : Gs S0 W W') : TE e sz S0 W W' := ⟨h.1.mono h.2, fun k _ _ _ _ h3 => (h.1.block k (Array.getElem?_eq_some_iff.1 h3).1).trans h3⟩
theorem TE.drew {e sz S0 : Nat} {w W : World} (h : TE e sz S0 w.drew W) (hS : S0 ≤ w.heap.size) : TE e sz S0 w W := (Gs.te _ _ ⟨Below.drew (Below.refl _ w), hS⟩).trans _ _ _ h
set_option maxRecDepth 20000 in
/-- append(v, x), x a struct in a block of its own -/
theorem app1_run {W : World} {S0 gl n t ty e sz bytes : Nat} {z : Value} {xs : List Value} {ys : Array Value} {v : Value} {fr : Nat × Nat}
    (ht : Try.prog.underlying t = some (.slice e)) (hi : (Try.prog.info? e).map (fun i => (i.zero, i.size, i.bytes)) = some (some z, sz, bytes)) (hzs : z.cells.size = sz) (hsz : 0 < sz) (hb0 : 0 < bytes) (hb1 : bytes ≤ 1000)
    (h10 : W.heap[gl]? = some (.cells ys e fr)) (hys : ys.size = sz) (hone : ∀ u ∈ ys.toList, u.oneCell' = true) (hS : S0 ≤ W.heap.size) (hn : n ≤ 1000000) (hO : W.ownsRow S0 e sz v n xs) (hz : n = 0 → ∀ g, v.ownBlock = some g → W.heap[g]? = some (.cells #[] e)) :
    ∃ v' W', (Builtin.append_ #[t, t] ty #[v, .slice (some ⟨gl, 0, none⟩) 1 1]).run Try.prog W = .ok v' W' ∧ W'.ownsRow S0 e sz v' (n + 1) (xs ++ ys.toList) ∧ TE e sz S0 W W' := by
  have hsrc : Src W (some ⟨gl, 0, none⟩) ys.toList := fun _ => ⟨_, rfl, fun j u hu => by
    have ha : (⟨gl, 0, none⟩ : Addr).add j = ⟨gl, j, none⟩ := by unfold Addr.add; split <;> simp_all
    rw [ha, cell_of_row _ gl j _ _ _ h10, ← Array.getElem?_toList]
    exact hu⟩
  obtain ⟨i0, hi2, hzz⟩ := Option.map_eq_some_iff.1 hi
  simp only [Prod.mk.injEq] at hzz
  obtain ⟨v1, W', hr, k1, k2⟩ := append_dicho (P := Try.prog) W S0 t ty e i0 z sz bytes ht hi2 hzz.1 hzz.2.1 hzz.2.2 hzs hsz hb0 v n xs hO (some ⟨gl, 0, none⟩) 1 1 ys.toList (by rw [Array.length_toList, hys, Nat.one_mul]) hsrc hone (by
    have : (n + 1) * bytes ≤ 1000001 * 1000 := Nat.mul_le_mul (by omega) hb1
    omega) hS
  refine ⟨v1, W', hr, k1, ?_⟩
  rcases k2 with ⟨g, cur, q1, q2, q3, q4, q5, q6⟩ | ⟨q1, q2⟩
  · have hgS : S0 ≤ g := (hO.lt g q1).1
    have hbig : sz < cur.size := by
      rw [Array.length_toList, hys] at q4
      rcases Nat.eq_zero_or_pos n with h0 | h0
      · exfalso
        have e2 := hz h0 g q1
        rw [e2] at q3
        injection q3 with q3
        injection q3 with q3
        subst q3
        simp at q4
        omega
      · have : 1 * sz ≤ n * sz := Nat.mul_le_mul h0 (Nat.le_refl _)
        omega
    have hbl : Below S0 W W' := ⟨q6.os, q6.tape, q6.output, q6.size, fun k hk => q6.block k (Nat.lt_of_lt_of_le hk hS) (fun e => by injection e with e; omega)⟩
    refine ⟨hbl, fun k cs t' fr' hd hk => (q6.block k (Array.getElem?_eq_some_iff.1 hk).1 (fun e => ?_)).trans hk⟩
    injection e with e
    subst e
    rw [q3] at hk
    injection hk with hk
    injection hk with e1 e2 e3
    subst e1
    rcases hd with hd | hd
    · exact hd e2.symm
    · omega
  · exact Gs.te _ _ ⟨q1, hS⟩
theorem app1_rel {o : Oper} {a : Act} {W : World} {S0 gl n t e sz bytes : Nat} {z : Value} {xs : List Value} {ys : Array Value} {v : Value} {fr : Nat × Nat} {s x : Operand}
    (ht : Try.prog.underlying t = some (.slice e)) (hi : (Try.prog.info? e).map (fun i => (i.zero, i.size, i.bytes)) = some (some z, sz, bytes)) (hzs : z.cells.size = sz) (hsz : 0 < sz) (hb0 : 0 < bytes) (hb1 : bytes ≤ 1000)
    (ho : o.op = .call { callee := .builtin .append, args := #[s, x], argTypes := #[t, t] }) (hs : a.eval s = v) (hx : a.eval x = .slice (some ⟨gl, 0, none⟩) 1 1)
    (h10 : W.heap[gl]? = some (.cells ys e fr)) (hys : ys.size = sz) (hone : ∀ u ∈ ys.toList, u.oneCell' = true) (hS : S0 ≤ W.heap.size) (hn : n ≤ 1000000) (hO : W.ownsRow S0 e sz v n xs) (hz : n = 0 → ∀ g, v.ownBlock = some g → W.heap[g]? = some (.cells #[] e))
    {R : Value → World → Prop} (hR : ∀ v' W', W'.ownsRow S0 e sz v' (n + 1) (xs ++ ys.toList) → TE e sz S0 W W' → R v' W') :
    Stu.relUpon Try.prog (TE e sz S0) W (fun v W' => (shpn (n + 1) v ∧ True) ∧ R v W') ((execOp a.eval o).run Try.prog W) := by
  obtain ⟨v', W', hr, k1, k2⟩ := app1_run (ty := o.type) ht hi hzs hsz hb0 hb1 h10 hys hone hS hn hO hz
  unfold execOp
  simp only [ho, resolve, invoke, builtin, Sem.run_bind, Sem.run_pure, Result.andThen_ok, List.map_toArray, List.map_cons, List.map_nil, hs, hx, hr]
  exact ⟨k2, ⟨shpn.of_row k1, trivial⟩, hR _ _ k1 k2⟩
end Go.Proofs.Ytbpecfbliglboaa
