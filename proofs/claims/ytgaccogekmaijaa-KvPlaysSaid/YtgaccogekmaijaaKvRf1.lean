/- The document's own table: May, find, Get. -/
import Derived.Test.YtgaccogekmaijaaKvRf0
import Derived.Test.YtgaccogekmaijaaKvTab
import Derived.Test.YtgaccogekmaijaaKvLight
import Derived.Test.YtgaccogekmaijaaKvRT
namespace Go.Proofs.Ytgaccogekmaijaa
open Go.RowKit Go.Maps
set_option linter.unusedVariables false
set_option linter.unusedSimpArgs false
attribute [local irreducible] Stu.wpR Stu.relOp wpR relOp
def vS (p : KvMath.Ent) : ByteArray := ⟨p.2.toArray⟩
def pvl (L : List KvMath.Ent) : List Value := L.flatMap fun p => [.string p.1, .string (vS p)]
theorem pvl_len (L : List KvMath.Ent) : (pvl L).length = L.length * 2 := by
  induction L with
  | nil => rfl
  | cons p L ih => simp only [pvl, List.flatMap_cons, List.length_append, List.length_cons, List.length_nil] at *; omega
theorem pvl_app (L M : List KvMath.Ent) : pvl (L ++ M) = pvl L ++ pvl M := by simp [pvl]
theorem pvl_at (L : List KvMath.Ent) : ∀ i, (hi : i < L.length) → (pvl L)[i * 2]? = some (.string L[i].1) ∧ (pvl L)[i * 2 + 1]? = some (.string (vS L[i])) := by
  induction L with
  | nil => intro i hi; simp at hi
  | cons p L ih =>
    intro i hi
    have e : pvl (p :: L) = .string p.1 :: .string (vS p) :: pvl L := rfl
    rw [e]
    cases i with
    | zero => exact ⟨rfl, rfl⟩
    | succ i =>
      have h := ih i (by simpa using hi)
      rw [show (i + 1) * 2 = i * 2 + 1 + 1 by omega]
      simpa using h
theorem pvl_one (L : List KvMath.Ent) : ∀ u ∈ pvl L, u.oneCell' = true := by
  intro u hu
  simp only [pvl, List.mem_flatMap] at hu
  obtain ⟨p, _, hu⟩ := hu
  simp at hu
  rcases hu with rfl | rfl <;> rfl
theorem pvl_take (L : List KvMath.Ent) (k : Nat) (hk : k ≤ L.length) : (pvl L).take (k * 2) = pvl (L.take k) := by
  have h := pvl_app (L.take k) (L.drop k)
  rw [List.take_append_drop] at h
  rw [h, List.take_left' (by rw [pvl_len, List.length_take]; omega)]
theorem pvl_drop (L : List KvMath.Ent) (k : Nat) (hk : k ≤ L.length) : (pvl L).drop (k * 2) = pvl (L.drop k) := by
  have h := pvl_app (L.take k) (L.drop k)
  rw [List.take_append_drop] at h
  rw [h, List.drop_left' (by rw [pvl_len, List.length_take]; omega)]
/-- the document's table -/
def RT (w : World) (B g : Nat) (L : List KvMath.Ent) : Prop := ∃ v, w.heap[g]? = some (.cells #[v] 49) ∧ B ≤ g ∧ w.ownsRow B 82 2 v L.length (pvl L)
/-- a row of the document's pairs, read -/
def PRow (w : World) (A : Option Addr) (L : List KvMath.Ent) : Prop := 0 < L.length → ∃ g, A = some ⟨g, 0, none⟩ ∧ ∀ i, (hi : i < L.length) → w.cell? ⟨g, i * 2, none⟩ = some (.string L[i].1) ∧ w.cell? ⟨g, i * 2 + 1, none⟩ = some (.string (vS L[i]))
theorem prow_of {w : World} {B : Nat} {v : Value} {L : List KvMath.Ent} (h : w.ownsRow B 82 2 v L.length (pvl L)) : ∃ A c, v = .slice A L.length c ∧ L.length ≤ c ∧ PRow w A L := by
  have h0 := h
  rcases h.2 with ⟨rfl, hn⟩ | ⟨g, cap, cur, rfl, hb, hh, hc, hm, hsz, htk⟩
  · exact ⟨none, 0, by rw [hn], by omega, fun hp => by omega⟩
  · refine ⟨_, cap, rfl, hc, fun _ => ⟨g, rfl, fun i hi => ?_⟩⟩
    have hcur : ∀ i, i < L.length * 2 → cur[i]? = (pvl L)[i]? := fun i hi => by
      rw [← htk, List.getElem?_take_of_lt hi, Array.getElem?_toList]
    obtain ⟨h1, h2⟩ := pvl_at L i hi
    exact ⟨by rw [cell_of_row _ g _ _ _ _ hh, hcur _ (by omega)]; exact h1, by rw [cell_of_row _ g _ _ _ _ hh, hcur _ (by omega)]; exact h2⟩
theorem PRow.below {w w1 : World} {A : Option Addr} {L : List KvMath.Ent} (h : PRow w A L) (hb : Below w.heap.size w w1) : PRow w1 A L := fun hp => by
  obtain ⟨g, e, h1⟩ := h hp
  exact ⟨g, e, fun i hi => ⟨cell_below hb (h1 i hi).1, cell_below hb (h1 i hi).2⟩⟩
theorem RT.rd {w : World} {B g : Nat} {L : List KvMath.Ent} (h : RT w B g L) : ∃ A c, w.cell? ⟨g, 0, none⟩ = some (.slice A L.length c) ∧ L.length ≤ c ∧ PRow w A L := by
  obtain ⟨v, h1, h2, h3⟩ := h
  obtain ⟨A, c, rfl, h4, h5⟩ := prow_of h3
  exact ⟨A, c, by rw [cell_of_row _ g 0 _ _ _ h1]; rfl, h4, h5⟩
theorem RT.below {w w1 : World} {B g : Nat} {L : List KvMath.Ent} (h : RT w B g L) (hb : Below w.heap.size w w1) : RT w1 B g L := by
  obtain ⟨v, h1, h2, h3⟩ := h
  exact ⟨v, (hb.block g (Array.getElem?_eq_some_iff.1 h1).1).trans h1, h2, World.ownsRow.kept h3 ⟨hb.os, hb.tape, hb.output, hb.size, fun k hk _ => hb.block k hk⟩ (row := none) (by cases v.ownBlock <;> simp)⟩
set_option maxRecDepth 20000 in
set_option maxHeartbeats 2000000 in
theorem ref_may (w : World) (A : Option Addr) (c : Nat) (xs : List PutD) (hr : Row KPut 3 w A xs) (hc : xs.length ≤ c) (hn : xs.length ≤ 1000000) :
    Calls Try.prog 34 #[.slice A xs.length c] w fun e w' => e = .returned (.bool (xs.all PutD.good)) ∧ Below w.heap.size w w' := by
  obtain ⟨n, hnn⟩ : ∃ n, n = xs.length := ⟨_, rfl⟩
  rw [← hnn] at hc hn ⊢
  have HN := Lib.hid hnn; have HR := Lib.hid hr
  clear hnn hr
  go_enter Try.func34, Try.ntmps34
  go_wp2
  go_loopw [3] (fun i wr => ∃ p : Nat, p ≤ n ∧ i = .int .i64 p ∧ Below w.heap.size w wr ∧ (xs.take p).all PutD.good = true) (fun i _ => n - (intOf i).toNat)
  case atStart => exact ⟨0, by omega, rfl, Below.refl _ _, rfl⟩
  case round =>
    obtain ⟨p, hp, rfl, hb, hall⟩ := hrel
    by_cases hlt : p < n
    · have hltI : (p : Int) < n := by omega
      have hpx : p < xs.length := by rw [← HN.out]; exact hlt
      obtain ⟨a, Aj, cj, rfl, c0, c1, c2, hcj, _⟩ := put_at (puts_below HR.out hb) p hpx
      have HX : Hid (xs[p].good = true → (xs.take (p + 1)).all PutD.good = true) := Lib.hid fun h => all_take_next hpx hall h
      have HF : Hid (xs[p].good = false → xs.all PutD.good = false) := Lib.hid fun h => all_take_false hpx h
      generalize xs[p] = x at *
      obtain ⟨xk, xv, xg⟩ := x
      dsimp only at *
      obtain ⟨nv, hnv⟩ : ∃ nv, nv = xv.length := ⟨_, rfl⟩
      rw [← hnv] at c1 hcj
      have HNV := Lib.hid hnv
      have hwp : IntKind.i64.wrap ((p : Int) + 1) = ((p + 1 : Nat) : Int) := by rw [IntKind.wrap_i64]; omega
      have HB := Lib.hid hb
      have HA1 : Hid (Below w.heap.size w (wr.alloc (.cells #[.string xk, .slice Aj nv cj, .bool xg] 80))) := Lib.hid (hb.alloc hb.size _)
      have hx1 := heap_new wr (.cells #[.string xk, .slice Aj nv cj, .bool xg] 80) wr.heap.size rfl
      have x0 : (wr.alloc (.cells #[.string xk, .slice Aj nv cj, .bool xg] 80)).cell? ⟨wr.heap.size, 0, none⟩ = some (.string xk) := by rw [cell_of_row _ wr.heap.size 0 _ _ _ hx1]; rfl
      clear hall hnv hpx hb hx1
      have bad : ∀ h : PutD.good ⟨xk, xv, xg⟩ = false, xs.all PutD.good = false := fun h => HF.out h
      have HBAD := Lib.hid bad
      clear bad
      by_cases k1 : xk.size < 1
      · have k1i : (xk.size : Int) < 1 := by omega
        have HBD := Lib.hid (HBAD.out (by cases h : PutD.good ⟨xk, xv, xg⟩ with | false => rfl | true => have := ((PutD.good_iff _).1 h).1; dsimp only at this; omega))
        go_wp2
        go_ret
        exact ⟨by rw [HBD.out]; rfl, HA1.out⟩
      · have k1i : ¬ (xk.size : Int) < 1 := by omega
        by_cases k2 : 200 < xk.size
        · have k2i : (200 : Int) < xk.size := by omega
          have HBD := Lib.hid (HBAD.out (by cases h : PutD.good ⟨xk, xv, xg⟩ with | false => rfl | true => have := ((PutD.good_iff _).1 h).2.1; dsimp only at this; omega))
          go_wp2
          go_ret
          exact ⟨by rw [HBD.out]; rfl, HA1.out⟩
        · have k2i : ¬ (200 : Int) < xk.size := by omega
          by_cases k3 : 200000 < nv
          · have k3i : (200000 : Int) < nv := by omega
            have HBD := Lib.hid (HBAD.out (by cases h : PutD.good ⟨xk, xv, xg⟩ with | false => rfl | true => have := ((PutD.good_iff _).1 h).2.2.1; dsimp only at this; rw [← HNV.out] at this; omega))
            go_wp2
            go_ret
            exact ⟨by rw [HBD.out]; rfl, HA1.out⟩
          · have k3i : ¬ (200000 : Int) < nv := by omega
            cases xg with
            | false =>
              have HG := Lib.hid (HX.out ((PutD.good_iff _).2 ⟨by dsimp only; omega, by dsimp only; omega, by dsimp only; rw [← HNV.out]; omega, fun h => by cases h⟩))
              go_wp2
              go_roundw
              case rel => exact ⟨p + 1, by omega, by go_num, HA1.out, HG.out⟩
              case measure => simp [intOf]; omega
            | true =>
              by_cases k4 : 0 < nv
              · have k4i : (0 : Int) < nv := by omega
                have HBD := Lib.hid (HBAD.out (by cases h : PutD.good ⟨xk, xv, true⟩ with | false => rfl | true => have := ((PutD.good_iff _).1 h).2.2.2 rfl; dsimp only at this; rw [this] at HNV; have := HNV.out; simp at this; omega))
                go_wp2
                go_ret
                exact ⟨by rw [HBD.out]; rfl, HA1.out⟩
              · have k4i : ¬ (0 : Int) < nv := by omega
                have HG := Lib.hid (HX.out ((PutD.good_iff _).2 ⟨by dsimp only; omega, by dsimp only; omega, by dsimp only; rw [← HNV.out]; omega, fun _ => List.eq_nil_of_length_eq_zero (by have := HNV.out; dsimp only; omega)⟩))
                go_wp2
                go_roundw
                case rel => exact ⟨p + 1, by omega, by go_num, HA1.out, HG.out⟩
                case measure => simp [intOf]; omega
    · have hltI : ¬ (p : Int) < n := by omega
      have hpn : p = n := by omega
      rw [hpn, HN.out, List.take_length] at hall
      have HG := Lib.hid hall; have HB := Lib.hid hb
      clear hall hpn hb
      go_wp2
      go_ret
      exact ⟨by rw [HG.out]; rfl, HB.out⟩
set_option maxRecDepth 20000 in
set_option maxHeartbeats 2000000 in
theorem ref_find (w : World) (B g : Nat) (L : List KvMath.Ent) (h : RT w B g L) (hr : KvMath.Rise L) (hL : L.length ≤ 1000000) (k : ByteArray) :
    Calls Try.prog 35 #[.pointer (some ⟨g, 0, none⟩), .string k] w fun e w' => e = .returned (.tuple #[.int .i64 (KvMath.pos L k), .bool (KvMath.has L k)]) ∧ Below w.heap.size w w' := by
  obtain ⟨A, c, g0, hc, hrow⟩ := h.rd
  obtain ⟨n, hnn⟩ : ∃ n, n = L.length := ⟨_, rfl⟩
  obtain ⟨q, hq⟩ : ∃ q, q = KvMath.pos L k := ⟨_, rfl⟩
  have hqn : q ≤ n := by rw [hq, hnn]; exact KvMath.pos_le L k
  have hlp := fun t ht => KvMath.less_pos L k hr t ht
  have hha := KvMath.has_at L k hr
  obtain ⟨hk, hhk⟩ : ∃ hk, hk = KvMath.has L k := ⟨_, rfl⟩
  rw [← hq] at hlp hha ⊢
  rw [← hhk] at hha ⊢
  rw [← hnn] at g0 hc hL
  have HN := Lib.hid hnn; have HROW := Lib.hid hrow; have HLP := Lib.hid hlp; have HHA := Lib.hid hha
  clear hnn hq hrow hlp hha h hhk
  go_enter Try.func35, Try.ntmps35
  go_wp2
  go_loopw [6] (fun i wr => ∃ p : Nat, p ≤ q ∧ i = .int .i64 p ∧ wr = w) (fun i _ => n - (intOf i).toNat)
  case atStart => exact ⟨0, by omega, rfl, rfl⟩
  case round =>
    obtain ⟨p, hp, rfl, rfl⟩ := hrel
    by_cases hpq : p < q
    · have hpn : p < n := by omega
      have hpnI : (p : Int) < n := by omega
      have hpL : p < L.length := by rw [← HN.out]; exact hpn
      obtain ⟨g', rfl, hrow⟩ := HROW.out (by omega)
      have x0 := (hrow p hpL).1
      have hb := HLP.out p hpL
      rw [decide_eq_true hpq] at hb
      unfold KvMath.bl at hb
      generalize L[p].1 = k1 at *
      have hwp : IntKind.i64.wrap ((p : Int) + 1) = ((p + 1 : Nat) : Int) := by rw [IntKind.wrap_i64]; omega
      clear hrow
      go_wp2
      go_roundw
      case rel => exact ⟨p + 1, by omega, by go_num, by first | rfl | trivial⟩
      case measure => simp [intOf]; omega
    · have hpe : p = q := by omega
      by_cases hqe : q < n
      · have hpn : p < n := by omega
        have hpnI : (p : Int) < n := by omega
        have hpL : p < L.length := by rw [← HN.out]; exact hpn
        obtain ⟨g', rfl, hrow⟩ := HROW.out (by omega)
        have x0 := (hrow p hpL).1
        have hb := HLP.out p hpL
        rw [decide_eq_false hpq] at hb
        unfold KvMath.bl at hb
        have hhas : hk = decide (L[p].1 = k) := by
          rw [Bool.eq_iff_iff, HHA.out, decide_eq_true_eq]
          subst hpe
          exact ⟨fun ⟨_, e⟩ => e, fun e => ⟨hpL, e⟩⟩
        generalize L[p].1 = k1 at *
        have HPE := Lib.hid hpe
        have HH := Lib.hid hhas
        clear hrow hpe hhas
        go_wp2
        go_region
        all_goals go_wp2
        all_goals go_ret2
        refine ⟨?_, Below.drew (Below.refl _ _)⟩
        show Ending.returned (.tuple #[.int .i64 (p : Int), .bool (k1.toList == k.toList)]) = _
        rw [HH.out, ← HPE.out, show (k1.toList == k.toList) = decide (k1 = k) from by rw [Bool.eq_iff_iff, beq_iff_eq, decide_eq_true_eq]; exact ⟨KvMath.ba_ext, fun e => by rw [e]⟩]
      · have hqn' : q = n := by omega
        have hhf : hk = false := by
          cases hk with
          | false => rfl
          | true => obtain ⟨h1, _⟩ := HHA.out.1 rfl; rw [← HN.out] at h1; omega
        subst hhf
        have hpnI : ¬ (p : Int) < n := by omega
        go_wp2
        go_region
        all_goals go_wp2
        all_goals go_ret2
        refine ⟨?_, Below.drew (Below.refl _ _)⟩
        show Ending.returned (.tuple #[.int .i64 (n : Int), .bool false]) = _
        rw [hqn']
end Go.Proofs.Ytgaccogekmaijaa
