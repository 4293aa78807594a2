/- What is encoded is read again: plain. -/
import Derived.Test.YtgaccogekmaijaaKvLoad
namespace KvMath
theorem numB2 (n : Nat) : numB n 2 = [UInt8.ofNat (n / 256), UInt8.ofNat n] := by
  simp [numB, List.range_succ]
theorem numB4 (n : Nat) : numB n 4 = [UInt8.ofNat (n / 16777216), UInt8.ofNat (n / 65536), UInt8.ofNat (n / 256), UInt8.ofNat n] := by
  simp [numB, List.range_succ]
theorem rd_num2 (n : Nat) (h : n < 65536) : rd (numB n 2) = n := by
  rw [numB2]
  simp [rd, UInt8.toNat_ofNat']
  omega
theorem rd_num4 (n : Nat) (h : n < 4294967296) : rd (numB n 4) = n := by
  rw [numB4]
  simp [rd, UInt8.toNat_ofNat']
  omega
theorem takeL_app (a b : List UInt8) (n : Nat) (h : a.length = n) : takeL (a ++ b) n = a := by
  subst h
  unfold takeL
  rw [if_neg (by rw [List.length_append]; omega), List.take_left]
theorem restL_app (a b : List UInt8) (n : Nat) (h : a.length = n) : restL (a ++ b) n = b := by
  subst h
  unfold restL
  rw [if_neg (by rw [List.length_append]; omega), List.drop_left]
theorem bad_app (a b : List UInt8) (n : Nat) (h : a.length = n) : decide ((a ++ b).length < n) = false := by
  apply decide_eq_false
  rw [List.length_append]
  omega
end KvMath
namespace Go.Proofs.Ytgaccogekmaijaa
open Go.RowKit
theorem ba_mk (k : ByteArray) : (⟨k.data.toList.toArray⟩ : ByteArray) = k := by cases k; simp
theorem PutD.good_iff (x : PutD) : x.good = true ↔ 0 < x.key.size ∧ x.key.size ≤ 200 ∧ x.val.length ≤ 200000 ∧ (x.gone = true → x.val = []) := by
  unfold PutD.good
  simp only [Bool.and_eq_true, decide_eq_true_eq, Bool.or_eq_true, Bool.not_eq_true', and_assoc]
  constructor
  · rintro ⟨h1, h2, h3, h4⟩
    refine ⟨h1, h2, h3, fun hg => ?_⟩
    rcases h4 with h4 | h4
    · rw [hg] at h4; cases h4
    · exact List.eq_nil_of_length_eq_zero h4
  · rintro ⟨h1, h2, h3, h4⟩
    refine ⟨h1, h2, h3, ?_⟩
    cases hg : x.gone with
    | false => exact .inl rfl
    | true => exact .inr (by rw [h4 hg]; rfl)
theorem putM_enc (x : PutD) (rest : List UInt8) (hx : x.good = true) : putM (KvMath.encP x.ent ++ rest) false = (x, rest, false) := by
  have hg := (PutD.good_iff x).1 hx
  obtain ⟨k, v, gone⟩ := x
  dsimp only at hg
  obtain ⟨h1, h2, h3, h4⟩ := hg
  have hkl : k.data.toList.length = k.size := by rw [Array.length_toList]; rfl
  cases gone with
  | true =>
    have hv := h4 rfl
    subst hv
    have e : KvMath.encP (PutD.ent ⟨k, [], true⟩) ++ rest = [0] ++ (KvMath.numB k.size 2 ++ (k.data.toList ++ rest)) := by
      simp [KvMath.encP, PutD.ent]
    rw [e]
    unfold putM
    dsimp only
    rw [KvMath.takeL_app [0] _ 1 rfl, KvMath.restL_app [0] _ 1 rfl, KvMath.bad_app [0] _ 1 rfl]
    rw [KvMath.takeL_app _ _ 2 (KvMath.numB_len _ _), KvMath.restL_app _ _ 2 (KvMath.numB_len _ _), KvMath.bad_app _ _ 2 (KvMath.numB_len _ _)]
    rw [KvMath.rd_num2 _ (by omega), KvMath.takeL_app _ _ _ hkl, KvMath.restL_app _ _ _ hkl, KvMath.bad_app _ _ _ hkl]
    rw [if_pos (show KvMath.rd [0] = 0 from rfl), ba_mk, hx]
    rfl
  | false =>
    have e : KvMath.encP (PutD.ent ⟨k, v, false⟩) ++ rest = [1] ++ (KvMath.numB k.size 2 ++ (k.data.toList ++ (KvMath.numB v.length 4 ++ (v ++ rest)))) := by
      simp [KvMath.encP, PutD.ent]
    rw [e]
    unfold putM
    dsimp only
    rw [KvMath.takeL_app [1] _ 1 rfl, KvMath.restL_app [1] _ 1 rfl, KvMath.bad_app [1] _ 1 rfl]
    rw [KvMath.takeL_app _ _ 2 (KvMath.numB_len _ _), KvMath.restL_app _ _ 2 (KvMath.numB_len _ _), KvMath.bad_app _ _ 2 (KvMath.numB_len _ _)]
    rw [KvMath.rd_num2 _ (by omega), KvMath.takeL_app _ _ _ hkl, KvMath.restL_app _ _ _ hkl, KvMath.bad_app _ _ _ hkl]
    rw [if_neg (show ¬ KvMath.rd [1] = 0 from by decide), ba_mk]
    rw [KvMath.takeL_app _ _ 4 (KvMath.numB_len _ _), KvMath.restL_app _ _ 4 (KvMath.numB_len _ _), KvMath.bad_app _ _ 4 (KvMath.numB_len _ _)]
    rw [KvMath.rd_num4 _ (by omega), KvMath.takeL_app _ _ _ rfl, KvMath.restL_app _ _ _ rfl, KvMath.bad_app _ _ _ rfl, hx]
    rfl
theorem encP_ne (x : ByteArray × List UInt8 × Bool) (rest : List UInt8) : KvMath.encP x ++ rest ≠ [] := by
  unfold KvMath.encP
  split <;> simp
theorem decB_enc (xs : List PutD) (h : xs.all PutD.good = true) : decB (KvMath.encB (xs.map PutD.ent)) = some xs := by
  induction xs with
  | nil => rfl
  | cons x xs ih =>
    rw [List.all_cons, Bool.and_eq_true] at h
    have e : KvMath.encB ((x :: xs).map PutD.ent) = KvMath.encP x.ent ++ KvMath.encB (xs.map PutD.ent) := by simp [KvMath.encB]
    rw [e, decB_step _ (encP_ne _ _) (by rw [putM_enc x _ h.1]), putM_enc x _ h.1]
    dsimp only
    rw [ih h.2]
    rfl
/-- keys of a table of good changes -/
theorem all_keys (ps : List PutD) (hp : ps.all PutD.good = true) : ∀ (L : List KvMath.Ent), (∀ p ∈ L, 0 < p.1.size ∧ p.1.size ≤ 200 ∧ p.2.length ≤ 200000) → ∀ p ∈ KvMath.all L (ps.map PutD.ent), 0 < p.1.size ∧ p.1.size ≤ 200 ∧ p.2.length ≤ 200000 := by
  induction ps with
  | nil => intro L h; exact h
  | cons x xs ih =>
    rw [List.all_cons, Bool.and_eq_true] at hp
    intro L h
    refine ih hp.2 (KvMath.one L x.key x.val x.gone) (fun p hq => ?_)
    rcases KvMath.mem_one hq with hq | rfl
    · exact h p hq
    · have := (PutD.good_iff x).1 hp.1
      exact ⟨this.1, this.2.1, this.2.2.1⟩
theorem toPut_good (L : List KvMath.Ent) (h : ∀ p ∈ L, 0 < p.1.size ∧ p.1.size ≤ 200 ∧ p.2.length ≤ 200000) : (L.map toPut).all PutD.good = true := by
  rw [List.all_eq_true]
  intro x hx
  obtain ⟨p, hp, rfl⟩ := List.mem_map.1 hx
  have := h p hp
  exact (PutD.good_iff _).2 ⟨this.1, this.2.1, this.2.2, fun h => by cases h⟩
theorem bytesB_good (L : List KvMath.Ent) (h : ∀ p ∈ L, 0 < p.1.size ∧ p.1.size ≤ 200 ∧ p.2.length ≤ 200000) : bytesB L = KvMath.encB ((L.map toPut).map PutD.ent) := by
  unfold bytesB
  rw [if_pos (toPut_good L h)]
theorem decB_bytes (L : List KvMath.Ent) (h : ∀ p ∈ L, 0 < p.1.size ∧ p.1.size ≤ 200 ∧ p.2.length ≤ 200000) : decB (bytesB L) = some (L.map toPut) := by
  rw [bytesB_good L h]
  exact decB_enc _ (toPut_good L h)
theorem okTo_rise (L : List KvMath.Ent) (h : KvMath.Rise L) : okTo (L.map toPut) (L.map toPut).length := by
  intro j hj _
  rw [List.getElem_map]
  refine ⟨rfl, fun i hi e => ?_⟩
  rw [List.getElem_map]
  rw [List.length_map] at hj
  exact h.adj i j hj (by omega)
/-- a rising list, put one after the other, is itself -/
theorem all_rise (L : List KvMath.Ent) (h : KvMath.Rise L) : KvMath.all [] ((L.map toPut).map PutD.ent) = L := by
  have key : ∀ (M D : List KvMath.Ent), KvMath.Rise (D ++ M) → KvMath.all D ((M.map toPut).map PutD.ent) = D ++ M := by
    intro M
    induction M with
    | nil => intro D _; simp [KvMath.all]
    | cons p M ih =>
      intro D hr
      have h1 : KvMath.one D p.1 p.2 false = D ++ [p] := by
        have hall : ∀ q ∈ D, KvMath.bl q.1 p.1 = true := fun q hq => (List.pairwise_append.1 hr).2.2 q hq p (by simp)
        unfold KvMath.one KvMath.low KvMath.high
        rw [KvMath.filter_all hall, KvMath.filter_none (fun q hq => KvMath.bl_asymm (hall q hq))]
        simp
      show KvMath.all (KvMath.one D p.1 p.2 false) ((M.map toPut).map PutD.ent) = _
      rw [h1, ih (D ++ [p]) (by simpa using hr)]
      simp
  have := key L [] h
  simpa using this
/-- bytes' length -/
theorem bytesB_len (L : List KvMath.Ent) (h : L.length ≤ 8) (hv : ∀ p ∈ L, p.1.size ≤ 200 ∧ p.2.length ≤ 200) : (bytesB L).length ≤ 20000 := by
  unfold bytesB
  split
  · have key : ∀ (M : List KvMath.Ent), (∀ p ∈ M, p.1.size ≤ 200 ∧ p.2.length ≤ 200) → (KvMath.encB ((M.map toPut).map PutD.ent)).length ≤ M.length * 500 := by
      intro M
      induction M with
      | nil => intro _; simp [KvMath.encB]
      | cons p M ih =>
        intro hm
        have h1 := ih fun q hq => hm q (List.mem_cons_of_mem _ hq)
        have h2 := hm p (List.mem_cons_self ..)
        have e : KvMath.encB (((p :: M).map toPut).map PutD.ent) = KvMath.encP (toPut p).ent ++ KvMath.encB ((M.map toPut).map PutD.ent) := by simp [KvMath.encB]
        rw [e, List.length_append, List.length_cons]
        have h3 : (KvMath.encP (toPut p).ent).length ≤ 500 := by
          have hkl : p.1.data.toList.length = p.1.size := by rw [Array.length_toList]; rfl
          have e2 : KvMath.encP (toPut p).ent = [1] ++ KvMath.numB p.1.size 2 ++ p.1.data.toList ++ KvMath.numB p.2.length 4 ++ p.2 := rfl
          rw [e2]
          simp only [List.length_append, KvMath.numB_len, hkl, List.length_cons, List.length_nil]
          omega
        omega
    have := key L hv
    omega
  · simp
end Go.Proofs.Ytgaccogekmaijaa
