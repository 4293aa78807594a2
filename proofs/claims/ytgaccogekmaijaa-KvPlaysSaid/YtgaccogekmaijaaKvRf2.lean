/- The document's own table: Commit. -/
import Derived.Test.YtgaccogekmaijaaKvRf1
namespace Go.Proofs.Ytgaccogekmaijaa
open Go.RowKit Go.Maps
set_option linter.unusedVariables false
set_option linter.unusedSimpArgs false
theorem info_rpair : (Try.prog.info? 82).map (fun i => (i.zero, i.size, i.bytes)) = some (some (.agg #[.string ByteArray.empty, .string ByteArray.empty]), 2, 32) := by kernel_rfl
theorem append_nil {P : Program} (W : World) (t ty e : TypeId) (ht : P.underlying t = some (.slice e)) (hi : ∃ i, P.info? e = some i) (g : Nat) (cap n : Nat) (hc : n ≤ cap) (A : Option Addr) (c : Nat) :
    (Builtin.append_ #[t, t] ty #[.slice (some ⟨g, 0, none⟩) n cap, .slice A 0 c]).run P W = .ok (.slice (some ⟨g, 0, none⟩) n cap) W := by
  obtain ⟨i, hi⟩ := hi
  cases A with
  | none => simp [Builtin.append_, run_underlying ht, sizeOf, typeInfo, hi, Builtin.lenOf, Builtin.firstCells, hc, storeCells]
  | some a =>
    have hl : (loadCells a 0).run P W = .ok #[] W := by unfold loadCells; simp [go_sem]
    simp [Builtin.append_, run_underlying ht, sizeOf, typeInfo, hi, Builtin.lenOf, Builtin.firstCells, hc, hl, storeCells]
theorem Src.drop2 {w : World} {A : Option Addr} {xs : List Value} (h : Src w A xs) (k : Nat) : Src w (A.map (·.add k)) (xs.drop k) := fun hp => by
  rw [List.length_drop] at hp
  obtain ⟨a, rfl, hc⟩ := h (by omega)
  refine ⟨a.add k, rfl, fun j u hu => ?_⟩
  rw [List.getElem?_drop] at hu
  rw [Go.Deep.add_add]
  exact hc _ _ hu
theorem Src.take2 {w : World} {A : Option Addr} {xs : List Value} (h : Src w A xs) (k : Nat) : Src w A (xs.take k) := fun hp => by
  rw [List.length_take] at hp
  obtain ⟨a, rfl, hc⟩ := h (by omega)
  refine ⟨a, rfl, fun j u hu => hc j u ?_⟩
  rw [List.getElem?_take] at hu
  split at hu
  · exact hu
  · cases hu
theorem Src.below {w w1 : World} {A : Option Addr} {xs : List Value} (h : Src w A xs) (hb : Below w.heap.size w w1) : Src w1 A xs := fun hp => by
  obtain ⟨a, e, hc⟩ := h hp
  exact ⟨a, e, fun j u hu => cell_below hb (hc j u hu)⟩
theorem PRow.src {w : World} {A : Option Addr} {L : List KvMath.Ent} (h : PRow w A L) : Src w A (pvl L) := fun hp => by
  rw [pvl_len] at hp
  obtain ⟨g, e, hc⟩ := h (by omega)
  refine ⟨_, e, fun j u hu => ?_⟩
  have ha : (⟨g, 0, none⟩ : Addr).add j = ⟨g, j, none⟩ := by unfold Addr.add; split <;> simp_all
  rw [ha]
  have hj : j < L.length * 2 := by rw [← pvl_len]; exact (List.getElem?_eq_some_iff.1 hu).1
  obtain ⟨h1, h2⟩ := hc (j / 2) (by omega)
  obtain ⟨h3, h4⟩ := pvl_at L (j / 2) (by omega)
  rcases Nat.mod_two_eq_zero_or_one j with e | e
  · have ej : j / 2 * 2 = j := by omega
    rw [ej] at h1 h3
    rw [h1, ← hu, h3]
  · have ej : j / 2 * 2 + 1 = j := by omega
    rw [ej] at h2 h4
    rw [h2, ← hu, h4]
theorem papp0_run {W : World} {ty S0 g0 nn c : Nat} {A : Option Addr} {xs : List Value} (h2 : W.heap[g0]? = some (.cells #[] 82)) (hg0 : S0 ≤ g0) (hS : S0 ≤ W.heap.size) (hxs : xs.length = nn * 2) (hsrc : Src W A xs) (hone : ∀ u ∈ xs, u.oneCell' = true) (hn : nn ≤ 1000000) :
    ∃ v W', (Builtin.append_ #[47, 47] ty #[.slice (some ⟨g0, 0, none⟩) 0 0, .slice A nn c]).run Try.prog W = .ok v W' ∧ W'.ownsRow S0 82 2 v nn xs ∧ (nn = 0 → ∀ b, v.ownBlock = some b → W'.heap[b]? = some (.cells #[] 82)) ∧ Below W.heap.size W W' := by
  have hown : W.ownsRow S0 82 2 (.slice (some ⟨g0, 0, none⟩) 0 0) 0 [] := ⟨rfl, .inr ⟨g0, 0, #[], rfl, hg0, h2, Nat.le_refl _, Nat.zero_le _, rfl, rfl⟩⟩
  obtain ⟨i0, hi2, hzz⟩ := Option.map_eq_some_iff.1 info_rpair
  simp only [Prod.mk.injEq] at hzz
  rcases Nat.eq_zero_or_pos nn with h0 | h0
  · subst h0
    obtain rfl : xs = [] := List.eq_nil_of_length_eq_zero (by omega)
    exact ⟨_, _, append_nil W _ _ 82 Try.underlying47 ⟨i0, hi2⟩ g0 0 0 (Nat.le_refl _) A c, hown, fun _ b hb => by simp [Value.ownBlock] at hb; subst hb; exact h2, Below.refl _ _⟩
  · obtain ⟨v1, W', hr, k1, k2⟩ := append_dicho (P := Try.prog) W S0 47 ty 82 i0 _ 2 32 Try.underlying47 hi2 hzz.1 hzz.2.1 hzz.2.2 rfl (by decide) (by decide) _ 0 [] hown A nn c xs hxs hsrc hone (by omega) hS
    rw [Nat.zero_add, List.nil_append] at k1
    refine ⟨v1, W', hr, k1, fun e => by omega, ?_⟩
    rcases k2 with ⟨g, cur, q1, q2, q3, q4, _⟩ | ⟨q1, q2⟩
    · exfalso
      simp [Value.ownBlock] at q1
      subst q1
      rw [h2] at q3
      injection q3 with q3
      injection q3 with q3
      subst q3
      rw [hxs] at q4
      simp at q4
      omega
    · exact q1
/-- append(m, rest...) : all below S0 stays -/
theorem papp2_run {W : World} {ty S0 n m c : Nat} {v : Value} {A : Option Addr} {xs ys : List Value} (hO : W.ownsRow S0 82 2 v n xs) (hS : S0 ≤ W.heap.size) (hys : ys.length = m * 2) (hsrc : Src W A ys) (hone : ∀ u ∈ ys, u.oneCell' = true) (hn : n + m ≤ 2000000) :
    ∃ v' W', (Builtin.append_ #[47, 47] ty #[v, .slice A m c]).run Try.prog W = .ok v' W' ∧ W'.ownsRow S0 82 2 v' (n + m) (xs ++ ys) ∧ Below S0 W W' := by
  obtain ⟨i0, hi2, hzz⟩ := Option.map_eq_some_iff.1 info_rpair
  simp only [Prod.mk.injEq] at hzz
  obtain ⟨v1, W', hr, k1, k2⟩ := append_dicho (P := Try.prog) W S0 47 ty 82 i0 _ 2 32 Try.underlying47 hi2 hzz.1 hzz.2.1 hzz.2.2 rfl (by decide) (by decide) v n xs hO A m c ys hys hsrc hone (by omega) hS
  refine ⟨v1, W', hr, k1, ?_⟩
  rcases k2 with ⟨g, cur, q1, q2, q3, q4, q5, q6⟩ | ⟨q1, q2⟩
  · have hgS : S0 ≤ g := (hO.lt g q1).1
    exact ⟨q6.os, q6.tape, q6.output, q6.size, fun k hk => q6.block k (Nat.lt_of_lt_of_le hk hS) (fun e => by injection e with e; omega)⟩
  · exact q1.mono hS
def plit (S0 : Nat) (k v : ByteArray) : Stu.SpU (TE 82 2 S0) (Gs S0) := ⟨false, fun _ u => ∃ g, u = .slice (some ⟨g, 0, none⟩) 1 1, fun _ u W => ∃ g, u = .slice (some ⟨g, 0, none⟩) 1 1 ∧ W.heap[g]? = some (.cells #[.string k, .string v] 82), fun _ _ => True, fun _ _ W W' h hg => by
  obtain ⟨g, h1, h3⟩ := h
  exact ⟨g, h1, hg.2 _ _ _ _ (.inr (by simp)) h3⟩, fun _ _ _ _ _ => trivial⟩
def PRw (S0 : Nat) (n : Nat) (xs : List Value) (v : Value) (W : World) : Prop := W.ownsRow S0 82 2 v n xs
def PR0 (S0 : Nat) (n : Nat) (xs : List Value) (v : Value) (W : World) : Prop := PRw S0 n xs v W ∧ (n = 0 → ∀ b, v.ownBlock = some b → W.heap[b]? = some (.cells #[] 82))
theorem PRw.gs {S0 n : Nat} {xs : List Value} {v : Value} {W W' : World} (h : PRw S0 n xs v W) (hg : Gs S0 W W') : PRw S0 n xs v W' := orow_stay h (fun k cs fr _ hk => (hg.1.block k (Array.getElem?_eq_some_iff.1 hk).1).trans hk)
theorem PR0.gs {S0 n : Nat} {xs : List Value} {v : Value} {W W' : World} (h : PR0 S0 n xs v W) (hg : Gs S0 W W') : PR0 S0 n xs v W' := ⟨h.1.gs hg, fun e b hb => (hg.1.block b (Array.getElem?_eq_some_iff.1 (h.2 e b hb)).1).trans (h.2 e b hb)⟩
def psp (S0 : Nat) (n : Nat) (xs : List Value) : Stu.SpU (TE 82 2 S0) (Gs S0) := ⟨true, fun _ v => shpn n v, fun _ _ _ => True, PRw S0 n xs, fun _ _ _ _ _ _ => trivial, fun _ _ _ h hg => h.gs hg⟩
theorem plit_rel {S0 e : Nat} {W : World} {vs : Array Value} (hS : S0 ≤ W.heap.size) {p : Value → Prop} {q : Value → World → Prop} (v : Value) (hp : p v) (hq : q v (W.alloc (.cells vs e))) :
    Stu.relUpon Try.prog (Gs S0) W (fun v W' => p v ∧ q v W') (.ok (.value v) (W.alloc (.cells vs e))) :=
  ⟨⟨(Below.refl _ W).alloc (Nat.le_refl _) _, hS⟩, hp, hq⟩
end Go.Proofs.Ytgaccogekmaijaa
