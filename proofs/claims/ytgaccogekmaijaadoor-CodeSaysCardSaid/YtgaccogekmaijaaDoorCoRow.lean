/- One element appended to a row of the call's own; lines. -/
import Derived.Test.YtgaccogekmaijaaDoorApb
import Derived.Test.YtgaccogekmaijaaDoorCoLn
import Derived.Test.YtgaccogekmaijaaDoorCoB64
namespace Go.Proofs.YtgaccogekmaijaaDoor
open Go.RowKit Go.Maps
set_option linter.unusedVariables false
set_option linter.unusedSimpArgs false
def TE (e sz S0 : Nat) (w w' : World) : Prop := Below S0 w w' ∧ ∀ (k : Nat) cs (t : Nat) fr, (t ≠ e ∨ cs.size ≤ sz) → w.heap[k]? = some (.cells cs t fr) → w'.heap[k]? = some (.cells cs t fr)
theorem TE.refl (e sz S0 : Nat) (w : World) : TE e sz S0 w w := ⟨Below.refl _ _, fun _ _ _ _ _ h => h⟩
theorem TE.trans {e sz S0 : Nat} (a b c : World) (h : TE e sz S0 a b) (k : TE e sz S0 b c) : TE e sz S0 a c := ⟨h.1.trans k.1, fun i cs t fr h1 h3 => k.2 i cs t fr h1 (h.2 i cs t fr h1 h3)⟩
theorem Gs.te {e sz S0 : Nat} (W W' : World) (h : Gs S0 W W') : TE e sz S0 W W' := ⟨h.1.mono h.2, fun k _ _ _ _ h3 => (h.1.block k (Array.getElem?_eq_some_iff.1 h3).1).trans h3⟩
theorem TE.drew {e sz S0 : Nat} {w W : World} (h : TE e sz S0 w.drew W) (hS : S0 ≤ w.heap.size) : TE e sz S0 w W := (Gs.te _ _ ⟨Below.drew (Below.refl _ w), hS⟩).trans _ _ _ h
/-- append(v, x), x a struct in a block of its own -/
theorem app1_run {W : World} {S0 gl n t ty e sz bytes : Nat} {z : Value} {xs : List Value} {ys : Array Value} {v : Value} {fr : Nat × Nat}
    (ht : Tryd.prog.underlying t = some (.slice e)) (hi : (Tryd.prog.info? e).map (fun i => (i.zero, i.size, i.bytes)) = some (some z, sz, bytes)) (hzs : z.cells.size = sz) (hsz : 0 < sz) (hb0 : 0 < bytes) (hb1 : bytes ≤ 1000)
    (h10 : W.heap[gl]? = some (.cells ys e fr)) (hys : ys.size = sz) (hone : ∀ u ∈ ys.toList, u.oneCell' = true) (hS : S0 ≤ W.heap.size) (hn : n ≤ 1000000) (hO : W.ownsRow S0 e sz v n xs) (hz : n = 0 → ∀ g, v.ownBlock = some g → W.heap[g]? = some (.cells #[] e)) :
    ∃ v' W', (Builtin.append_ #[t, t] ty #[v, .slice (some ⟨gl, 0, none⟩) 1 1]).run Tryd.prog W = .ok v' W' ∧ W'.ownsRow S0 e sz v' (n + 1) (xs ++ ys.toList) ∧ TE e sz S0 W W' := by
  have hsrc : Src W (some ⟨gl, 0, none⟩) ys.toList := fun _ => ⟨_, rfl, fun j u hu => by
    have ha : (⟨gl, 0, none⟩ : Addr).add j = ⟨gl, j, none⟩ := by unfold Addr.add; split <;> simp_all
    rw [ha, cell_of_row _ gl j _ _ _ h10, ← Array.getElem?_toList]
    exact hu⟩
  obtain ⟨i0, hi2, hzz⟩ := Option.map_eq_some_iff.1 hi
  simp only [Prod.mk.injEq] at hzz
  obtain ⟨v1, W', hr, k1, k2⟩ := append_dicho (P := Tryd.prog) W S0 t ty e i0 z sz bytes ht hi2 hzz.1 hzz.2.1 hzz.2.2 hzs hsz hb0 v n xs hO (some ⟨gl, 0, none⟩) 1 1 ys.toList (by rw [Array.length_toList, hys, Nat.one_mul]) hsrc hone (by
    have : (n + 1) * bytes ≤ 1000001 * 1000 := Nat.mul_le_mul (by omega) hb1
    omega) hS
  refine ⟨v1, W', hr, k1, ?_⟩
  rcases k2 with ⟨g, cur, q1, q2, q3, q4, q5, q6⟩ | ⟨q1, q2⟩
  · have hgS : S0 ≤ g := (hO.lt g q1).1
    have hbig : sz < cur.size := by
      rw [Array.length_toList, hys] at q4
      rcases Nat.eq_zero_or_pos n with h0 | h0
      · exfalso
        have e2 := hz h0 g q1
        rw [e2] at q3
        injection q3 with q3
        injection q3 with q3
        subst q3
        simp at q4
        omega
      · have : 1 * sz ≤ n * sz := Nat.mul_le_mul h0 (Nat.le_refl _)
        omega
    have hbl : Below S0 W W' := ⟨q6.os, q6.tape, q6.output, q6.size, fun k hk => q6.block k (Nat.lt_of_lt_of_le hk hS) (fun e => by injection e with e; omega)⟩
    refine ⟨hbl, fun k cs t' fr' hd hk => (q6.block k (Array.getElem?_eq_some_iff.1 hk).1 (fun e => ?_)).trans hk⟩
    injection e with e
    subst e
    rw [q3] at hk
    injection hk with hk
    injection hk with e1 e2 e3
    subst e1
    rcases hd with hd | hd
    · exact hd e2.symm
    · omega
  · exact Gs.te _ _ ⟨q1, hS⟩
theorem row_below {w w1 : World} {base e sz n : Nat} {v : Value} {xs : List Value} (h : w.ownsRow base e sz v n xs) (hb : Below w.heap.size w w1) : w1.ownsRow base e sz v n xs :=
  World.ownsRow.kept h ⟨hb.os, hb.tape, hb.output, hb.size, fun k hk _ => hb.block k hk⟩ (row := none) (by cases v.ownBlock <;> simp)
theorem Cellsl.snoc {w : World} : ∀ {vs : List Value} {ls : List (List UInt8)} {v : Value} {l : List UInt8}, Cellsl w vs ls → (∃ A c, v = .slice A l.length c ∧ l.length ≤ c ∧ Rd w A l) → Cellsl w (vs ++ [v]) (ls ++ [l])
  | [], [], v, l, _, h => ⟨h, trivial⟩
  | v0 :: vs, l0 :: ls, v, l, ⟨h1, h2⟩, h => ⟨h1, Cellsl.snoc h2 h⟩
  | [], _ :: _, _, _, h, _ => h.elim
  | _ :: _, [], _, _, h, _ => h.elim
theorem Cellsl.below {w w1 : World} (hb : Below w.heap.size w w1) : ∀ {vs : List Value} {ls : List (List UInt8)}, Cellsl w vs ls → Cellsl w1 vs ls
  | [], [], _ => trivial
  | v :: vs, l :: ls, ⟨⟨A, c, h1, h2, h3⟩, h⟩ => ⟨⟨A, c, h1, h2, h3.below hb⟩, Cellsl.below hb h⟩
  | [], _ :: _, h => h.elim
  | _ :: _, [], h => h.elim
theorem rowl_rd {w : World} {base e : Nat} {v : Value} {vs : List Value} {ls : List (List UInt8)} (h : w.ownsRow base e 1 v ls.length vs) (hc : Cellsl w vs ls) : ∃ A c, v = .slice A ls.length c ∧ ls.length ≤ c ∧ Rdl w A ls := by
  rcases h.2 with ⟨rfl, hn⟩ | ⟨g, cap, cur, rfl, hb, hh, hcap, hm, hsz, htk⟩
  · obtain rfl : ls = [] := List.eq_nil_of_length_eq_zero hn
    exact ⟨none, 0, rfl, Nat.le_refl _, Rdl.nil _ _⟩
  · refine ⟨_, cap, rfl, hcap, by simp only [maxLen] at hm; omega, fun _ => ⟨_, rfl, fun j hj => ?_⟩⟩
    obtain ⟨A, c, h1, h2, h3⟩ := hc.at_.2 j hj
    exact ⟨A, c, World.ownsRow.cells (g := g) h rfl j _ h1, h2, h3⟩
theorem info_sl : (Tryd.prog.info? 22).map (fun i => (i.zero, i.size, i.bytes)) = some (some (.slice none 0 0), 1, 24) := by kernel_rfl
/-- append(l, x) of a slice of bytes -/
theorem appl_run {W : World} {S0 n nx cx : Nat} {Ax : Option Addr} {vs : List Value} {v : Value} (hS : S0 ≤ W.heap.size) (hn : n ≤ 1000000) (hO : W.ownsRow S0 22 1 v n vs) (hz : n = 0 → v = .slice none 0 0) :
    ∃ v' W', (Builtin.append_ #[39, 39] 39 #[v, .slice (some ⟨W.heap.size, 0, none⟩) 1 1]).run Tryd.prog (W.alloc (.cells #[.slice Ax nx cx] 22)) = .ok v' W' ∧ W'.ownsRow S0 22 1 v' (n + 1) (vs ++ [.slice Ax nx cx]) ∧ Below S0 W W' := by
  have hb : Below W.heap.size W (W.alloc (.cells #[.slice Ax nx cx] 22)) := (Below.refl _ W).alloc (Nat.le_refl _) _
  obtain ⟨v', W', h1, h2, h3⟩ := app1_run (ty := 39) (ys := #[.slice Ax nx cx]) Tryd.underlying39 info_sl rfl (by decide) (by decide) (by decide) (heap_new W _ _ rfl) rfl (by intro u hu; simp at hu; subst hu; rfl) (Nat.le_trans hS hb.size) hn (row_below hO hb) (fun h0 g hg => by rw [hz h0] at hg; cases hg)
  exact ⟨v', W', h1, h2, (hb.mono hS).trans h3.1⟩
end Go.Proofs.YtgaccogekmaijaaDoor
namespace CodeMath
theorem ln_brk (cur t : List UInt8) : ln cur (13 :: 10 :: t) = (cur ++ [13, 10]) :: ln [] t := by
  simp [ln]
theorem ln_go (cur t : List UInt8) (x : UInt8) (h : ¬ (cur.getLast? = some 13 ∧ x = 10)) : ln cur (x :: t) = ln (cur ++ [x]) t := by
  simp only [ln]
  rw [if_neg (fun e => h ⟨e.2, e.1⟩)]
theorem ln_end (cur rest : List UInt8) (hl : rest.length ≤ 1) (h : ¬ (cur.getLast? = some 13 ∧ rest.head? = some 10)) : ln cur rest = if cur ++ rest = [] then [] else [cur ++ rest] := by
  match rest, hl with
  | [], _ => simp [ln]
  | [x], _ =>
    rw [ln_go cur [] x (by simpa using h)]
    simp [ln]
end CodeMath
