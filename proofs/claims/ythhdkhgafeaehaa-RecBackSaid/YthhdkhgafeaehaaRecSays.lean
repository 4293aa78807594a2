/- RecSays: the walk of the law. -/
import Derived.Test.YthhdkhgafeaehaaRecTurned
import Derived.Test.YthhdkhgafeaehaaRecRow
import Derived.Test.YthhdkhgafeaehaaRecScan2
namespace Go.Proofs.Ythhdkhgafeaehaa
open Go.RowKit
set_option linter.unusedVariables false
set_option linter.unusedSimpArgs false
attribute [local irreducible] wpR relOp
set_option maxRecDepth 20000 in
set_option maxHeartbeats 4000000 in
theorem RecSays_ok (num : Int) (A : Option Addr) (c : Nat) (body : List UInt8) (A1 : Option Addr) (c1 : Nat) (l : List UInt8) (first : Int) (w : World) (hr : Rd w A body) (hc : body.length ≤ c) (hr1 : Rd w A1 l) (hc1 : l.length ≤ c1) (hb : body.length ≤ 500) (hl : l.length ≤ 900)
    (wf : (Lit.int .i64 num).wf = true) (wf1 : (Lit.int .i64 first).wf = true) :
    Calls Try.prog 8 #[.agg #[.int .i64 num, .slice A body.length c], .slice A1 l.length c1, .int .i64 first] w fun e w' => e = .returned (.bool true) ∧ Below w.heap.size w w' := by
  obtain ⟨m, hmm⟩ : ∃ m, m = body.length := ⟨_, rfl⟩
  obtain ⟨n, hnn⟩ : ∃ n, n = l.length := ⟨_, rfl⟩
  have hput := fun w' (h : Rd w' A1 l) (h2 : Rd w' A body) => put_any w' A1 c1 l num A c body h (by omega) h2 (by omega) wf
  have hputr := fun w' (h : Rd w' A1 l) (h2 : Rd w' A body) => putrec_any w' A1 c1 l num A c body h (by omega) h2 (by omega) wf
  have hget := fun w' (h : Rd w' A1 l) => get_any w' A1 c1 l h hc1 (by omega)
  have hgetr := fun w' (h : Rd w' A1 l) => getrec_any w' A1 c1 l h hc1 (by omega)
  have hscan := fun w' (h : Rd w' A1 l) => scan_any w' A1 c1 l first h hc1 (by omega) wf1
  have hscanr := fun w' (h : Rd w' A1 l) => refscan_any w' A1 c1 l first h hc1 (by omega) wf1
  unfold GotIs at hget hgetr
  obtain ⟨pB, hpB⟩ : ∃ B, B = putB l num body := ⟨_, rfl⟩
  obtain ⟨pE, hpE⟩ : ∃ B, B = putE num body.length := ⟨_, rfl⟩
  obtain ⟨g, hg⟩ : ∃ g, g = RecMath.get l := ⟨_, rfl⟩
  obtain ⟨tot, htot⟩ : ∃ g, g = RecMath.scanAll l first := ⟨_, rfl⟩
  have hrl : tot.1.length ≤ 900 := by
    rw [htot]; exact Nat.le_trans (RecMath.scan_len _ _ _) hl
  rw [← hpB, ← hpE, ← hnn, ← hmm] at hput hputr
  rw [← hg, ← hnn] at hget hgetr
  rw [← htot, ← hnn] at hscan hscanr
  rw [← hmm] at hc hb ⊢
  rw [← hnn] at hc1 hl ⊢
  clear hpB hpE hg htot hmm hnn
  obtain ⟨gn, gb, gk, ge⟩ := g
  obtain ⟨rs, tn⟩ := tot
  dsimp only at *
  have HPut := Lib.hid hput; have HPutr := Lib.hid hputr; have HGet := Lib.hid hget; have HGetr := Lib.hid hgetr; have HScan := Lib.hid hscan; have HScanr := Lib.hid hscanr
  clear hput hputr hget hgetr hscan hscanr
  obtain ⟨W0, hW0, hB0, hs0, hbx⟩ := box2 w (.int .i64 num) (.slice A m c) 32
  go_enter Try.func8, Try.ntmps8
  go_wp2_with fail
  rw [← hW0]
  clear hW0
  refine (awake5_any _).mono ?_
  rintro e w1 ⟨rfl, hb1⟩
  have hx1 := hbx w1 hb1
  have HR : Hid (∀ W, Below W0.heap.size W0 W → Rd W A1 l ∧ Rd W A body) := Lib.hid fun W h => ⟨hr1.below (below_then hB0 (by omega) h), hr.below (below_then hB0 (by omega) h)⟩
  have HB1 := Lib.hid hb1
  clear hb1
  go_wp2_with fail
  refine (HPut.out w1 (HR.out _ HB1.out).1 (HR.out _ HB1.out).2).mono ?_
  rintro e w2 ⟨v2, rfl, ho2, hb2⟩
  have HB2 := Lib.hid (below_then HB1.out HB1.out.size hb2)
  obtain ⟨A2, c2, rfl, hle2, hrd2⟩ := ho2.rd
  have HRd2 := Lib.hid hrd2
  have hx2 := hbx w2 HB2.out
  clear ho2 hb2 hrd2 hx1
  go_wp2_with fail
  refine (HPutr.out w2 (HR.out _ HB2.out).1 (HR.out _ HB2.out).2).mono ?_
  rintro e w3 ⟨v3, rfl, ho3, hb3⟩
  have HB3 := Lib.hid (below_then HB2.out HB2.out.size hb3)
  obtain ⟨A3, c3, rfl, hle3, hrd3⟩ := ho3.rd
  have HRd3 := Lib.hid hrd3
  have HRd2' := Lib.hid (HRd2.out.below hb3)
  clear ho3 hb3 hrd3 HRd2 hx2
  go_wp2_with fail
  refine (HGet.out w3 (HR.out _ HB3.out).1).mono ?_
  rintro e w4 ⟨v4, rfl, hs4, hb4⟩
  have HB4 := Lib.hid (below_then HB3.out HB3.out.size hb4)
  obtain ⟨A4, c4, rfl, hle4, hrd4⟩ := hs4.rd
  have HRd4 := Lib.hid hrd4
  have HRd2 := Lib.hid (HRd2'.out.below hb4)
  have HRd3' := Lib.hid (HRd3.out.below hb4)
  clear hs4 hb4 hrd4 HRd2' HRd3
  obtain ⟨W4, hW4, hB4, hs4, hbx4⟩ := box2 w4 (.int .i64 gn) (.slice A4 gb.length c4) 32
  go_wp2_with fail
  rw [← hW4]
  clear hW4
  have HB4b := Lib.hid (below_then HB4.out HB4.out.size hB4)
  refine (HGetr.out W4 (HR.out _ HB4b.out).1).mono ?_
  rintro e w5 ⟨v5, rfl, hs5, hb5⟩
  have HK5 := Lib.hid (below_then hB4 (Nat.le_of_lt hs4) hb5)
  have HX4 := Lib.hid hbx4
  have HB5 := Lib.hid (below_then HB4b.out HB4b.out.size hb5)
  have HY5 := Lib.hid hb5
  obtain ⟨A5, c5, rfl, hle5, hrd5⟩ := hs5.rd
  have HRd5 := Lib.hid hrd5
  clear hs5 hb5 hrd5 hB4 hbx4
  obtain ⟨W5, hW5, hB5, hs5, hbx5⟩ := box2 w5 (.int .i64 gn) (.slice A5 gb.length c5) 40
  go_wp2_with fail
  rw [← hW5]
  clear hW5
  have HB5b := Lib.hid (below_then HB5.out HB5.out.size hB5)
  refine (HScan.out W5 (HR.out _ HB5b.out).1).mono ?_
  rintro e w6 ⟨v6, rfl, hs6, hb6⟩
  have HB6 := Lib.hid (below_then HB5b.out HB5b.out.size hb6)
  have HS6 := Lib.hid hs6
  have HY6 := Lib.hid hb6
  obtain ⟨A6, c6, rfl, hle6, hrd6⟩ := hs6.rd
  clear hs6 hb6 hrd6
  go_wp2_with fail
  refine (HScanr.out w6 (HR.out _ HB6.out).1).mono ?_
  rintro e w7 ⟨v7, rfl, hs7, hb7⟩
  have HB7 := Lib.hid (below_then HB6.out HB6.out.size hb7)
  have HY7 := Lib.hid (below_add HY6.out hb7)
  obtain ⟨A6', c6', e6, hle6', HC6⟩ := (HS6.out.below hb7).rd
  obtain ⟨A7, c7, rfl, hle7, HC7⟩ := hs7.rd
  cases e6
  clear hs7 hb7
  have hx4 := HX4.out w7 (below_add (below_add HY5.out hB5) HY7.out)
  have hx5 := hbx5 w7 HY7.out
  have h57 : Below w5.heap.size w5 w7 := below_add hB5 HY7.out
  have s2 := ((HRd2.out.below HK5.out).below h57).str _ c2 rfl
  have s3 := ((HRd3'.out.below HK5.out).below h57).str _ c3 rfl
  have s4 := ((HRd4.out.below HK5.out).below h57).str _ c4 rfl
  have s5 := (HRd5.out.below h57).str _ c5 rfl
  have q3 : (gn != gn) = false := bne_self_eq_false _
  have q4 : ((gk : Int) != gk) = false := bne_self_eq_false _
  have q5 : ((ge : Int) != ge) = false := bne_self_eq_false _
  have q6 : ((tn : Int) != tn) = false := bne_self_eq_false _
  have q7 : (pE != pE) = false := bne_self_eq_false _
  have q8 : ((rs.length : Int) != rs.length) = false := bne_self_eq_false _
  have HC6' := Lib.hid HC6; have HC7' := Lib.hid HC7
  have HBA := Lib.hid (below_then hB0 (by omega) HB7.out)
  clear HC6 HC7 h57 hB5 hbx5 HX4 HY5 HY7 HRd2 HRd3' HRd4 HRd5 HK5 HB7
  go_wp2_with fail
  clear s2 s3 s4 s5 hx4 hx5 q3 q4 q5 q6 q7 q8
  obtain ⟨rn, hrn⟩ : ∃ rn, rn = rs.length := ⟨_, rfl⟩
  rw [← hrn] at hle6 hle7 hrl ⊢
  have HRN := Lib.hid hrn
  clear hrn
  go_loopw [21] (fun i wr => ∃ k : Nat, k ≤ rn ∧ i = .int .i64 k ∧ Below w7.heap.size w7 wr) (fun i _ => rn - (intOf i).toNat)
  case atStart => exact ⟨0, by omega, rfl, Below.refl _ _⟩
  case round =>
    obtain ⟨k, hk, rfl, hbr⟩ := hrel
    by_cases hlt : k < rn
    · obtain ⟨g6, v6, rfl, ha6, hb6, hs6⟩ := HC6'.out k (by rw [← HRN.out]; exact hlt)
      obtain ⟨g7, v7, rfl, ha7, hb7, hs7⟩ := HC7'.out k (by rw [← HRN.out]; exact hlt)
      generalize rs[k]'(by rw [← HRN.out]; exact hlt) = rk at ha6 hb6 hs6 ha7 hb7 hs7
      obtain ⟨A8, c8, rfl, hle8, hr8⟩ := hs6.rd
      obtain ⟨A9, c9, rfl, hle9, hr9⟩ := hs7.rd
      have HC : Hid (∀ W, Gr wr.heap.size wr.drew W → W.cell? ⟨g6, k * 2, none⟩ = some (.int .i64 rk.1) ∧ W.cell? ⟨g6, k * 2 + 1, none⟩ = some (.slice A8 rk.2.length c8) ∧ W.cell? ⟨g7, k * 2, none⟩ = some (.int .i64 rk.1) ∧ W.cell? ⟨g7, k * 2 + 1, none⟩ = some (.slice A9 rk.2.length c9) ∧
          (convert 22 9 (.slice A8 rk.2.length c8)).run Try.prog W = .ok (.string ⟨rk.2.toArray⟩) W ∧ (convert 22 9 (.slice A9 rk.2.length c9)).run Try.prog W = .ok (.string ⟨rk.2.toArray⟩) W) := Lib.hid fun W hW => by
        have h := below_add hbr (Below.trans (Below.drew (Below.refl wr.heap.size wr)) hW.1)
        exact ⟨cell_below h ha6, cell_below h hb6, cell_below h ha7, cell_below h hb7, (hr8.below h).str _ _ rfl, (hr9.below h).str _ _ rfl⟩
      have HBr := Lib.hid hbr
      clear ha6 hb6 hs6 ha7 hb7 hs7 hr8 hr9 hbr HC6' HC7'
      go_wp2_with fail
      refine wp_region_tbl _ (fun _ => none) (wr.heap.size) (by kernel_rfl) (by kernel_rfl) (by kernel_rfl) ?_
      repeat (first
        | (refine wpR_plain ?_ (by rfl) (fun K hK => ?_); (focus (first | (simp only [Region.wanted]; done) | (go_simp; done))); apply Exists.intro; refine ⟨fun W hW => ?_, ?_⟩; (go_simp; (try simp only [plainUpon_value, true_and]); rfl); go_simp; refine hK _ ?_; clear hK K)
        | (refine wpR_plain ?_ (by rfl) (fun K hK => ?_); (focus (first | (simp only [Region.wanted]; done) | (go_simp; done))); apply Exists.intro; refine ⟨fun W hW => ?_, ?_⟩; (have hcw := HC.out W hW; go_simp; (try simp only [plainUpon_value, true_and]); rfl); go_simp; refine hK _ ?_; clear hK K)
        | (refine wpR_skip ?_ (fun K hK => ?_); (focus (first | (simp only [Region.wanted]; done) | (go_simp; done))); go_simp; refine hK _ ?_; clear hK K))
      refine wpR_nil (fun W hW hF => ?_)
      have hbW := below_add HBr.out (Below.trans (Below.drew (Below.refl wr.heap.size wr)) hW.1)
      clear hF hW
      go_wp2
      go_roundw
      case rel => exact ⟨k + 1, by omega, by go_num, hbW⟩
      case measure => simp [intOf]; omega
    · obtain rfl : k = rn := by omega
      have HW := Lib.hid (below_then HBA.out HBA.out.size hbr)
      clear hbr
      go_wp2
      go_ret
      exact ⟨rfl, HW.out⟩
set_option maxRecDepth 20000 in
set_option maxHeartbeats 1000000 in
theorem RecSays_walk (num : Int) (A : Option Addr) (c : Nat) (l : List UInt8) (A1 : Option Addr) (c1 : Nat) (l1 : List UInt8) (first : Int) (w : World) (wf : (Lit.int .i64 num).wf = true) (hr : Rd w A l) (hc : l.length ≤ c) (hl : l.length ≤ 140737488351232) (hr1 : Rd w A1 l1) (hc1 : l1.length ≤ c1) (hl1 : l1.length ≤ 140737488351232) (wf2 : (Lit.int .i64 first).wf = true) :
    Calls Try.prog 8 #[.agg #[.int .i64 num, .slice A l.length c], .slice A1 l1.length c1, .int .i64 first] w fun e w' => e = .returned (.bool true) ∧ Below w.heap.size w w' := by
  by_cases h : l.length ≤ 500 ∧ l1.length ≤ 900
  · exact RecSays_ok num A c l A1 c1 l1 first w hr hc hr1 hc1 h.1 h.2 wf wf2
  · clear hr hr1
    generalize l.length = n at *
    generalize l1.length = m at *
    obtain ⟨W0, hW0, hB0, hs0, hbx⟩ := box2 w (.int .i64 num) (.slice A n c) 32
    by_cases h1 : 500 < n
    ·
      go_enter Try.func8, Try.ntmps8
      go_wp2_with fail
      rw [← hW0]
      clear hW0
      refine (awake5_any _).mono ?_
      rintro e w1 ⟨rfl, hb1⟩
      have hx1 := hbx w1 hb1
      have HB1 := Lib.hid (below_then hB0 (by omega) hb1)
      clear hb1 hbx h
      go_wp2_with fail
      go_ret
      exact ⟨rfl, HB1.out⟩
    · have h2 : 900 < m := by omega
      go_enter Try.func8, Try.ntmps8
      go_wp2_with fail
      rw [← hW0]
      clear hW0
      refine (awake5_any _).mono ?_
      rintro e w1 ⟨rfl, hb1⟩
      have hx1 := hbx w1 hb1
      have HB1 := Lib.hid (below_then hB0 (by omega) hb1)
      clear hb1 hbx h
      go_wp2_with fail
      go_ret
      exact ⟨rfl, HB1.out⟩
end Go.Proofs.Ythhdkhgafeaehaa
