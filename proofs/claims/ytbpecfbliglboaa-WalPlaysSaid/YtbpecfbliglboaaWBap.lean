/- wal: a slice of bytes is appended to a row of the log's own, in a region that draws. -/
import Derived.Test.YtbpecfbliglboaaApp1
import Derived.Test.YtbpecfbliglboaaWLs
namespace Go.Proofs.Ytbpecfbliglboaa
open Go.RowKit Go.Maps
set_option linter.unusedVariables false
set_option linter.unusedSimpArgs false
attribute [local irreducible] wpR relOp Stu.wpR Stu.relOp
theorem TE.sl {e sz S0 : Nat} {w w' : World} (h : TE e sz S0 w w') (he : 5 ≠ e) {v : Value} {l : List UInt8} (hs : Sl w v l) : Sl w' v l := by
  obtain ⟨A, c, h1, h2, h3, h4⟩ := hs
  refine ⟨A, c, h1, h2, ⟨h3.1, fun hp => ?_⟩, fun a e => ?_⟩
  · obtain ⟨a, e, hc⟩ := h3.2 hp
    obtain ⟨cs, fr, h5⟩ := h4 a e
    refine ⟨a, e, fun j hj => ?_⟩
    have h6 : (a.add j).block = a.block := by unfold Addr.add; split <;> rfl
    rw [World.cell?_of_block (w := w) (by rw [h6]; exact (h.2 _ _ _ _ (.inl he) h5).trans h5.symm)]
    exact hc j hj
  · obtain ⟨cs, fr, h5⟩ := h4 a e
    exact ⟨cs, fr, h.2 _ _ _ _ (.inl he) h5⟩
theorem bap_run {W : World} {S0 gl : Nat} {v vb : Value} {rs : List (List UInt8)} {l : List UInt8} {fr : Nat × Nat} (HO : Bsr W S0 v rs) (hb : Sl W vb l) (h10 : W.heap[gl]? = some (.cells #[vb] 33 fr)) (hS : S0 ≤ W.heap.size) (hn : rs.length ≤ 1000000) :
    ∃ v' W', (Builtin.append_ #[53, 53] 53 #[v, .slice (some ⟨gl, 0, none⟩) 1 1]).run Try.prog W = .ok v' W' ∧ Bsr W' S0 v' (rs ++ [l]) ∧ TE 33 1 S0 W W' := by
  obtain ⟨xs, hO, hC, hz⟩ := HO
  have hone : ∀ u ∈ #[vb].toList, u.oneCell' = true := by
    intro u hu
    simp at hu
    subst hu
    obtain ⟨A, c, rfl, _⟩ := hb.rd
    rfl
  obtain ⟨v', W', h1, h2, h3⟩ := app1_run (ty := 53) Try.underlying53 info_bs rfl (by decide) (by decide) (by decide) h10 rfl hone hS hn hO (fun e g hg => by
    have := hz (List.eq_nil_of_length_eq_zero e)
    rw [this] at hg
    cases hg)
  refine ⟨v', W', h1, ⟨xs ++ [vb], by rw [List.length_append]; exact h2, ?_, fun e => by simp at e⟩, h3⟩
  exact (hC.imp fun _ _ h => h3.sl (by decide) h).snoc (h3.sl (by decide) hb)
theorem Bsr.base {w : World} {b0 b1 : Nat} {v : Value} {rs : List (List UInt8)} (h : Bsr w b1 v rs) (hb : b0 ≤ b1) : Bsr w b0 v rs := by
  obtain ⟨xs, h1, h2, h3⟩ := h
  refine ⟨xs, ⟨h1.1, ?_⟩, h2, h3⟩
  rcases h1.2 with h | ⟨g, cap, cur, hv, hbb, hh, hr⟩
  · exact .inl h
  · exact .inr ⟨g, cap, cur, hv, Nat.le_trans hb hbb, hh, hr⟩
theorem DS.grown {w0 w w1 : World} {B S0 g : Nat} {d : DevMath.Dev} {va : Value} {rs : List (List UInt8)} (h : DS w0 w B g d) (hr0 : Bsr w S0 va rs) (hBS : B ≤ S0) (hg : w.grownBy w1 va.ownBlock) : DS w0 w1 B g d := by
  obtain ⟨xs, ho, _⟩ := hr0.base hBS
  rcases ho.2 with ⟨rfl, _⟩ | ⟨b, cap, cur, rfl, hb, hh, _⟩
  · exact h.below ⟨hg.os, hg.tape, hg.output, hg.size, fun k hk => hg.block k hk (by simp [Value.ownBlock])⟩
  · exact h.other hh hb (by decide) (by decide) (by decide) (by decide) ⟨hg.os, hg.tape, hg.output, hg.size, fun k hk hne => hg.block k hk (by simp only [Value.ownBlock]; intro e; injection e with e; exact hne e)⟩
def BsD (w0 : World) (B S0 g : Nat) (d : DevMath.Dev) (rs : List (List UInt8)) (v : Value) (W : World) : Prop := Bsr W S0 v rs ∧ DS w0 W B g d
def bsS (w0 : World) (B S0 g : Nat) (d : DevMath.Dev) (n : Nat) (rs : List (List UInt8)) : Stu.SpU (TE 33 1 S0) (Gs S0) := ⟨true, fun _ v => shpn n v, fun _ _ _ => True, BsD w0 B S0 g d rs, fun _ _ _ _ _ _ => trivial, fun _ _ _ h hg => ⟨h.1.below hg.1, h.2.below hg.1⟩⟩
def bsL (S0 : Nat) (vb : Value) : Stu.SpU (TE 33 1 S0) (Gs S0) := ⟨false, fun _ v => ∃ g, v = .slice (some ⟨g, 0, none⟩) 1 1, fun _ v W => ∃ g, v = .slice (some ⟨g, 0, none⟩) 1 1 ∧ W.heap[g]? = some (.cells #[vb] 33), fun _ _ => True, fun _ _ W W' h hg => by
  obtain ⟨g, h1, h3⟩ := h
  exact ⟨g, h1, hg.2 _ _ _ _ (.inr (by simp)) h3⟩, fun _ _ _ _ _ => trivial⟩
theorem bap_rel {o : Oper} {a : Act} {w0 W : World} {B S0 gl n g : Nat} {d : DevMath.Dev} {v vb : Value} {rs : List (List UInt8)} {l : List UInt8} {s x : Operand} (hBS : B ≤ S0) (ho : o.op = .call { callee := .builtin .append, args := #[s, x], argTypes := #[53, 53] }) (hty : o.type = 53) (hs : a.eval s = v) (hx : a.eval x = .slice (some ⟨gl, 0, none⟩) 1 1)
    (HOD : BsD w0 B S0 g d rs v W) (hb : Sl W vb l) (h10 : W.heap[gl]? = some (.cells #[vb] 33)) (hS : S0 ≤ W.heap.size) (hn : rs.length = n) (hn6 : n ≤ 1000000) (xs : List Value) :
    Stu.relUpon Try.prog (TE 33 1 S0) W (fun v W' => ((bsS w0 B S0 g d (n + 1) (rs ++ [l])).p xs v ∧ (bsS w0 B S0 g d (n + 1) (rs ++ [l])).q xs v W') ∧ (bsS w0 B S0 g d (n + 1) (rs ++ [l])).u v W') ((execOp a.eval o).run Try.prog W) := by
  obtain ⟨HO, HD⟩ := HOD
  obtain ⟨v', W', hr, k1, k2⟩ := bap_run HO hb h10 hS (by omega)
  obtain ⟨v2, W2, hr2, _, _, k3, _⟩ := bsr_app HO hb h10 hS (by omega)
  rw [hr] at hr2
  injection hr2 with q1 q2
  subst q1
  subst q2
  have k4 := HD.grown HO hBS k3
  unfold execOp
  simp only [ho, hty, resolve, invoke, builtin, Sem.run_bind, Sem.run_pure, Result.andThen_ok, List.map_toArray, List.map_cons, List.map_nil, hs, hx, hr]
  obtain ⟨A, c, h1, h2⟩ := k1.shp
  rw [List.length_append, hn] at h1 h2
  exact ⟨k2, ⟨⟨A, c, h1, h2⟩, trivial⟩, k1, k4⟩
end Go.Proofs.Ytbpecfbliglboaa
