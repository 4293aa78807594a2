/- Regions in which all that there is stays. -/
import Derived.Test.YtgaccogekmaijaaDoorApb
namespace Go.Proofs.YtgaccogekmaijaaDoor
open Go.RowKit Go.Maps
set_option linter.unusedVariables false
set_option linter.unusedSimpArgs false
attribute [local irreducible] wpR relOp Stu.wpR Stu.relOp
def CB (W W' : World) : Prop := Below W.heap.size W W'
theorem CB.refl (W : World) : CB W W := Below.refl _ _
theorem CB.trans {a b c : World} (h : CB a b) (k : CB b c) : CB a c := below_add h k
theorem CB.heap {W W' : World} (h : CB W W') {k : Nat} {o : Obj} (hk : W.heap[k]? = some o) : W'.heap[k]? = some o := (h.block k (Array.getElem?_eq_some_iff.1 hk).1).trans hk
def cvaS (v0 : Value) : Stu.SpU CB CB := ⟨false, fun _ v => v = v0, fun _ _ _ => True, fun _ _ => True, fun _ _ _ _ _ _ => trivial, fun _ _ _ _ _ => trivial⟩
def cslS (n : Nat) (l : List UInt8) : Stu.SpU CB CB := ⟨false, fun _ v => shpn n v, fun _ v W => Sl W v l, fun _ _ => True, fun _ _ _ _ h hg => h.below hg, fun _ _ _ _ _ => trivial⟩
theorem cstr_rel {n : Nat} {W : World} {l : List UInt8} {z : ByteArray} {A : Option Addr} {c : Nat} {o : Oper} {a : Act} {x : Operand} (ho : o.op = .convert 22 9 x) (hx : a.eval x = .slice A n c) (hs : Sl W (.slice A n c) l) (hz : z = ⟨l.toArray⟩) (xs : List Value) :
    Stu.relUpon Tryd.prog CB W (fun v W' => (cvaS (.string z)).p xs v ∧ (cvaS (.string z)).q xs v W') ((execOp a.eval o).run Tryd.prog W) := by
  obtain ⟨A', c', e, _, h3⟩ := hs.rd
  injection e with e1 e2 e3
  subst e1
  have hr := h3.str n c e2.symm
  unfold execOp
  simp only [ho, Sem.run_bind, Sem.run_pure, Result.andThen_ok, hx, hr]
  exact ⟨Below.refl _ _, by rw [hz]; rfl, trivial⟩
/-- a literal of so many cells -/
def clitS (S0 m : Nat) (t : Nat) (cs : Array Value) : Stu.SpU CB CB := ⟨false, fun _ v => ∃ g, v = .slice (some ⟨g, 0, none⟩) m m, fun _ v W => ∃ g, v = .slice (some ⟨g, 0, none⟩) m m ∧ S0 ≤ g ∧ W.heap[g]? = some (.cells cs t), fun _ _ => True, fun _ _ _ _ h hg => by
  obtain ⟨g, h1, h3, h2⟩ := h
  exact ⟨g, h1, h3, CB.heap hg h2⟩, fun _ _ _ _ _ => trivial⟩
theorem clit_rel {S0 m t : Nat} {cs : Array Value} {W : World} (hS : S0 ≤ W.heap.size) (xs : List Value) :
    Stu.relUpon Tryd.prog CB W (fun v W' => (clitS S0 m t cs).p xs v ∧ (clitS S0 m t cs).q xs v W') (.ok (.value (.slice (some ⟨W.heap.size, 0, none⟩) m m)) (W.alloc (.cells cs t))) :=
  ⟨(Below.refl _ W).alloc (Nat.le_refl _) _, ⟨_, rfl⟩, ⟨_, rfl, hS, heap_new _ _ _ rfl⟩⟩
end Go.Proofs.YtgaccogekmaijaaDoor
