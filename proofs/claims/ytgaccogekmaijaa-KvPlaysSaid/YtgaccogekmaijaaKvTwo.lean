/- Two tables side by side. -/
import Derived.Test.YtgaccogekmaijaaKvBytes
import Derived.Test.YtgaccogekmaijaaKvLight
namespace Go.Proofs.Ytgaccogekmaijaa
open Go.RowKit
set_option linter.unusedVariables false
set_option linter.unusedSimpArgs false
theorem TbM.lt {w : World} {B g m n : Nat} {vk : Value} {f : ByteArray → Option Value} {L : List KvMath.Ent} (h : TbM w B g m vk f n L) : ∀ k, OwnT g m vk k → k < w.heap.size := by
  intro k hk
  rcases hk with rfl | rfl | hk
  · exact (Array.getElem?_eq_some_iff.1 h.nn.st).1
  · exact h.nn.mp.lt
  · obtain ⟨cs, e, _⟩ := orow_typ h.ks hk
    exact (Array.getElem?_eq_some_iff.1 e).1
theorem TbM.base {w : World} {B B' g m n : Nat} {vk : Value} {f : ByteArray → Option Value} {L : List KvMath.Ent} (h : TbM w B g m vk f n L) (hb : B' ≤ B) : TbM w B' g m vk f n L :=
  ⟨⟨h.nn.st, h.nn.mp, h.nn.fm, Nat.le_trans hb h.nn.gb, Nat.le_trans hb h.nn.mb⟩, orow_low h.ks hb, h.ri, h.kz⟩
/-- blocks that are none of the table's turn -/
theorem TbM.apart {S : Nat → Prop} {w w1 : World} {B g m n : Nat} {vk : Value} {f : ByteArray → Option Value} {L : List KvMath.Ent} (h : TbM w B g m vk f n L) (hc : Chg S w w1) (hS : ∀ k, S k → ¬ OwnT g m vk k) (h8 : ∀ k, S k → ∀ cs fr, w.heap[k]? ≠ some (.cells cs 5 fr)) : TbM w1 B g m vk f n L :=
  ⟨h.nn.chg hc (fun e => hS g e (.inl rfl)) (fun e => hS m e (.inr (.inl rfl))) h8, orow_stay h.ks (fun k cs fr hk e => hc.heap e (fun hs => hS k hs (.inr (.inr hk)))), h.ri, h.kz⟩
def A2 (w0 w : World) (B ga gb N : Nat) (La Lb : List KvMath.Ent) : Prop := ∃ ma vka fa na mb vkb fb nb, TbM w B ga ma vka fa na La ∧ TbM w B gb mb vkb fb nb Lb ∧ (∀ k, OwnT ga ma vka k → ¬ OwnT gb mb vkb k) ∧ na ≤ N ∧ nb ≤ N ∧ Below B w0 w ∧ B ≤ w.heap.size
theorem A2.swap {w0 w : World} {B ga gb N : Nat} {La Lb : List KvMath.Ent} (h : A2 w0 w B ga gb N La Lb) : A2 w0 w B gb ga N Lb La := by
  obtain ⟨ma, vka, fa, na, mb, vkb, fb, nb, h1, h2, h3, h4, h5, h6, h7⟩ := h
  exact ⟨mb, vkb, fb, nb, ma, vka, fa, na, h2, h1, fun k hk hk' => h3 k hk' hk, h5, h4, h6, h7⟩
theorem A2.fst {w0 w : World} {B ga gb N : Nat} {La Lb : List KvMath.Ent} (h : A2 w0 w B ga gb N La Lb) : Tb w0 w B ga N La := by
  obtain ⟨ma, vka, fa, na, mb, vkb, fb, nb, h1, h2, h3, h4, h5, h6, h7⟩ := h
  exact ⟨ma, vka, fa, na, h1, h4, h6, h7⟩
theorem A2.below {w0 w w1 : World} {B ga gb N : Nat} {La Lb : List KvMath.Ent} (h : A2 w0 w B ga gb N La Lb) (hb : Below w.heap.size w w1) : A2 w0 w1 B ga gb N La Lb := by
  obtain ⟨ma, vka, fa, na, mb, vkb, fb, nb, h1, h2, h3, h4, h5, h6, h7⟩ := h
  exact ⟨ma, vka, fa, na, mb, vkb, fb, nb, h1.below hb, h2.below hb, h3, h4, h5, below_then h6 h7 hb, Nat.le_trans h7 hb.size⟩
theorem a2_commit {w0 w : World} {B ga gb N : Nat} {La Lb : List KvMath.Ent} (h : A2 w0 w B ga gb N La Lb) (A : Option Addr) (c : Nat) (xs : List PutD) (hr : PutS B w A xs) (hl : xs.length ≤ c) (hn : xs.length ≤ 10000) (hN : N ≤ 100000) (hL : La.length ≤ 100000) (hg : xs.all PutD.good = true) :
    Calls Try.prog 11 #[.pointer (some ⟨ga, 0, none⟩), .slice A xs.length c] w fun e w' => e = .returned (.int .i64 0) ∧ A2 w0 w' B ga gb (N + xs.length) (KvMath.all La (xs.map PutD.ent)) Lb ∧ TV B w w' := by
  obtain ⟨ma, vka, fa, na, mb, vkb, fb, nb, h1, h2, h3, h4, h5, h6, h7⟩ := h
  refine (kv_commit_m h1 h4 h7 A c xs hr hl hn hN hL).mono ?_
  rintro e w1 ⟨rfl, hk⟩
  rw [hg, if_pos rfl] at hk
  have htv := (hk.tb h1 h7).2
  obtain ⟨vk', f', n', k1, k2, k3, k4⟩ := hk
  refine ⟨by rw [hg]; rfl, ⟨ma, vk', f', n', mb, vkb, fb, nb, k1, h2.apart k3 h3 (fun k ho cs fr e => ?_), fun k ho hb => ?_, k2, by omega, h6.trans htv.1, Nat.le_trans h7 htv.1.size⟩, htv⟩
  · rcases (h1.typ k ho).2 _ _ _ e with e | e
    · exact absurd e (by decide)
    · exact absurd e (by decide)
  · rcases ho with ho | ho | ho
    · exact h3 k (.inl ho) hb
    · exact h3 k (.inr (.inl ho)) hb
    · rcases k4 k ho with e | e
      · exact h3 k (.inr (.inr e)) hb
      · have := h2.lt k hb
        omega
theorem a2_new {w0 w : World} {B0 g0 : Nat} (h : Tb w0 w B0 g0 0 []) : Calls Try.prog 10 #[] w fun e w' => e = .returned (.pointer (some ⟨w.heap.size + 1, 0, none⟩)) ∧ A2 w0 w' B0 g0 (w.heap.size + 1) 0 [] [] := by
  refine (kv_new w).mono ?_
  rintro e w1 ⟨rfl, ht, hb⟩
  refine ⟨rfl, ?_⟩
  obtain ⟨m, vk, f, n, h1, h2, h3, h4⟩ := h
  obtain ⟨m', vk', f', n', k1, k2, k3, k4⟩ := ht
  refine ⟨m, vk, f, n, m', vk', f', n', h1.below hb, k1.base h4, fun k hk hk' => ?_, h2, k2, below_then h3 h4 hb, Nat.le_trans h4 hb.size⟩
  have e1 := h1.lt k hk
  have e2 := (k1.typ k hk').1
  omega
/-- a change in a literal of the law's -/
theorem PutS.lit1 {B gl n c : Nat} {w : World} {A : Option Addr} {fr : Nat × Nat} {x : PutD} (h : w.heap[gl]? = some (.cells #[.string x.key, .slice A n c, .bool x.gone] 38 fr)) (hn : n = x.val.length) (hc : n ≤ c) (hr : ∀ W, TV B w W → Rd W A x.val) (h1 : x.key.size ≤ 140737488351232) (h2 : x.val.length ≤ 140737488351232) : PutS B w (some ⟨gl, 0, none⟩) [x] := fun _ => by
  subst hn
  refine ⟨_, rfl, fun j hj => ?_⟩
  have : j = 0 := by simpa using hj
  subst this
  refine ⟨A, c, hc, h1, h2, fun W hW => ?_⟩
  have hh := hW.2 _ _ _ _ (by decide) (by decide) h
  have ha : (⟨gl, 0, none⟩ : Addr).add (0 * 3) = ⟨gl, 0, none⟩ := by unfold Addr.add; split <;> simp_all
  rw [ha]
  exact ⟨by rw [cell_of_row _ gl _ _ _ _ hh]; rfl, by rw [cell_of_row _ gl _ _ _ _ hh]; rfl, by rw [cell_of_row _ gl _ _ _ _ hh]; rfl, hr W hW⟩
end Go.Proofs.Ytgaccogekmaijaa
