/- The law CodeSays: the walk. -/
import Derived.Test.YtgaccogekmaijaaDoorCoRd
namespace Go.Proofs.YtgaccogekmaijaaDoor
open Go.RowKit Go.Maps
set_option linter.unusedVariables false
set_option linter.unusedSimpArgs false
attribute [local irreducible] wpR relOp Stu.wpR Stu.relOp
theorem own_rel {W : World} {f : FuncId} {args : Array Value} {k : Nat} {r : List UInt8} (h : Calls Tryd.prog f args W fun e w' => ∃ v, e = .returned v ∧ Ob w' W.heap.size 5 v r ∧ Below W.heap.size W w') (hk : r.length = k) (xs : List Value) :
    Calls Tryd.prog f args W fun e w'' => ∃ v, e = .returned v ∧ CB W w'' ∧ ((crvS k r).p xs v ∧ (crvS k r).q xs v w'') := by
  refine h.mono ?_
  rintro e w' ⟨v, rfl, ho, hb⟩
  exact ⟨v, rfl, hb, ho.shpn hk, ho.rv⟩
theorem rv_rel {W : World} {f : FuncId} {args : Array Value} {k : Nat} {r : List UInt8} (h : Calls Tryd.prog f args W fun e w' => ∃ v, e = .returned v ∧ Rv w' v r ∧ Below W.heap.size W w') (hk : r.length = k) (xs : List Value) :
    Calls Tryd.prog f args W fun e w'' => ∃ v, e = .returned v ∧ CB W w'' ∧ ((crvS k r).p xs v ∧ (crvS k r).q xs v w'') := by
  refine h.mono ?_
  rintro e w' ⟨v, rfl, ho, hb⟩
  obtain ⟨A', c', h1, h2, _⟩ := ho.shp hk
  exact ⟨v, rfl, hb, ⟨A', c', h1, h2⟩, ho⟩
/-- what both readings of base 64 have in common -/
theorem both_dec {w w2 w3 : World} {b : List UInt8} {e e2 : Ending} (h : Dec64 w b e w2) (k : Dec64 w2 b e2 w3) : ∃ (n : Nat) (l : List UInt8) (A1 A2 : Option Addr) (c1 c2 : Nat) (z : Int), e = .returned (.tuple #[.slice A1 n c1, .int .i64 z]) ∧ e2 = .returned (.tuple #[.slice A2 n c2, .int .i64 z]) ∧ l.length = n ∧ Rd w3 A1 l ∧ Rd w3 A2 l ∧ Below w.heap.size w w3 := by
  obtain ⟨hb, h⟩ := h
  obtain ⟨kb, k⟩ := k
  have hbb := below_then hb hb.size kb
  rcases h with ⟨l, v, h1, rfl, ho⟩ | ⟨h1, rfl⟩
  · rcases k with ⟨l2, v2, k1, rfl, ko⟩ | ⟨k1, _⟩
    · rw [h1] at k1
      injection k1 with k1
      subst k1
      obtain ⟨A1, c1, rfl, _, r1⟩ := ho.rd
      obtain ⟨A2, c2, rfl, _, r2⟩ := ko.rd
      exact ⟨_, l, A1, A2, c1, c2, 0, rfl, rfl, rfl, r1.below kb, r2, hbb⟩
    · rw [h1] at k1; cases k1
  · rcases k with ⟨l2, v2, k1, _, _⟩ | ⟨k1, rfl⟩
    · rw [h1] at k1; cases k1
    · exact ⟨0, [], none, none, 0, 0, 3, rfl, rfl, rfl, Rd.nil _ _, Rd.nil _ _, hbb⟩
set_option maxRecDepth 20000 in
set_option maxHeartbeats 40000000 in
theorem CodeSays_walk (A : Option Addr) (c : Nat) (b : List UInt8) (how : ByteArray) (w : World) (hr : Rd w A b) (hc : b.length ≤ c) (hlm : b.length ≤ 140737488351232) (hh : how.size ≤ 140737488351232) (hcap : c ≤ 9223372036854775807) :
    Calls Tryd.prog 5 #[.slice A b.length c, .string how] w fun e w' => e = .returned (.bool true) ∧ Below w.heap.size w w' := by
  obtain ⟨m, hm⟩ : ∃ m, b.length = m := ⟨_, rfl⟩
  obtain ⟨hs, hhs⟩ : ∃ hs, hs = how.size := ⟨_, rfl⟩
  rw [hm] at hc hlm ⊢
  have HM := Lib.hid hm; have HR := Lib.hid hr
  clear hm hr
  go_enter Tryd.func5, Tryd.ntmps5
  go_wp2_with fail
  refine (awake13_any _).mono ?_
  rintro e w1 ⟨rfl, hb1⟩
  have HB1 := Lib.hid hb1
  clear hb1
  by_cases h5 : 500 < m
  · have h5i : (500 : Int) < m := by omega
    clear hhs
    go_wp2
    go_ret
    exact ⟨rfl, HB1.out⟩
  · have h5i : ¬ (500 : Int) < m := by omega
    by_cases h50 : 50 < how.size
    · have h50i : (50 : Int) < how.size := by omega
      clear hhs
      go_wp2
      go_ret
      exact ⟨rfl, HB1.out⟩
    · have h50i : ¬ (50 : Int) < how.size := by omega
      clear hhs
      have HCON := Lib.hid (dec_n w1 A m c b (HR.out.below HB1.out) HM.out hc (by omega))
      go_wp2_with fail
      refine HCON.out.mono ?_
      intro e w2 hd1
      have HD1 := Lib.hid hd1
      have hb2 : Below w1.heap.size w1 w2 := hd1.1
      have HB2 := Lib.hid (below_then HB1.out HB1.out.size hb2)
      have HCON2 := Lib.hid (rdec_any w2 A m c b (HR.out.below HB2.out) HM.out hc (by omega))
      have hex : ∃ v z, e = .returned (.tuple #[v, .int .i64 z]) := by
        rcases hd1.2 with ⟨l, v, _, h, _⟩ | ⟨_, h⟩
        · exact ⟨v, 0, h⟩
        · exact ⟨_, 3, h⟩
      obtain ⟨v1, z1, rfl⟩ := hex
      clear hd1 hb2 HCON
      go_wp2_with fail
      refine HCON2.out.mono ?_
      intro e2 w3 hd2
      obtain ⟨n, l, A1, A2, c1, c2, z, e1, rfl, hln, hr1, hr2, hb3⟩ := both_dec HD1.out hd2
      injection e1 with e1
      injection e1 with e1
      have ee := congrArg Array.toList e1
      simp at ee
      obtain ⟨rfl, rfl⟩ := ee
      have HB3 := Lib.hid (below_then HB1.out HB1.out.size hb3)
      have HR1 := Lib.hid hr1; have HR2 := Lib.hid hr2; have HLN := Lib.hid hln
      clear hd2 e1 hln hr1 hr2 hb3 HCON2 HD1 HB2
      obtain ⟨SX, hSX⟩ : ∃ S : ByteArray, S = ⟨l.toArray⟩ := ⟨_, rfl⟩
      have HBW : Hid (∀ W, CB w3.drew W → Below w3.heap.size w3 W) := Lib.hid fun W hW => (Below.drew (Below.refl _ w3)).trans hW
      have HC : Hid (∀ W, CB w3.drew W → (convert 22 9 (.slice A1 n c1)).run Tryd.prog W = .ok (.string SX) W ∧ (convert 22 9 (.slice A2 n c2)).run Tryd.prog W = .ok (.string SX) W) := Lib.hid fun W hW => by
        have h := HBW.out W hW
        rw [hSX]
        exact ⟨(HR1.out.below h).str n c1 HLN.out, (HR2.out.below h).str n c2 HLN.out⟩
      have HQ : Hid (∀ W, CB w3.drew W → Rd W A b) := Lib.hid fun W hW => HR.out.below (below_then HB3.out HB3.out.size (HBW.out W hW))
      have hm6 : m ≤ 1000000 := by omega
      obtain ⟨E, hE⟩ : ∃ E, E = CodeMath.enc 0 b := ⟨_, rfl⟩
      obtain ⟨Q, hQ⟩ : ∃ Q, Q = CodeMath.qpS 0 b := ⟨_, rfl⟩
      obtain ⟨F, hF0⟩ : ∃ F, F = CodeMath.fqS b := ⟨_, rfl⟩
      obtain ⟨D, hD⟩ : ∃ D, D = CodeMath.decodeS how.data.toList b := ⟨_, rfl⟩
      obtain ⟨nE, hnE⟩ : ∃ nE, E.length = nE := ⟨_, rfl⟩
      obtain ⟨nQ, hnQ⟩ : ∃ nQ, Q.length = nQ := ⟨_, rfl⟩
      obtain ⟨nF, hnF⟩ : ∃ nF, F.length = nF := ⟨_, rfl⟩
      obtain ⟨nD, hnD⟩ : ∃ nD, D.length = nD := ⟨_, rfl⟩
      obtain ⟨SE, hSE⟩ : ∃ S : ByteArray, S = ⟨E.toArray⟩ := ⟨_, rfl⟩
      obtain ⟨SQ, hSQ⟩ : ∃ S : ByteArray, S = ⟨Q.toArray⟩ := ⟨_, rfl⟩
      obtain ⟨SF, hSF⟩ : ∃ S : ByteArray, S = ⟨F.toArray⟩ := ⟨_, rfl⟩
      obtain ⟨SD, hSD⟩ : ∃ S : ByteArray, S = ⟨D.toArray⟩ := ⟨_, rfl⟩
      have HE := Lib.hid hE; have HQQ := Lib.hid hQ; have HF0 := Lib.hid hF0; have HD0 := Lib.hid hD
      have HnE := Lib.hid hnE; have HnQ := Lib.hid hnQ; have HnF := Lib.hid hnF; have HnD := Lib.hid hnD
      have HSE := Lib.hid hSE; have HSQ := Lib.hid hSQ; have HSF := Lib.hid hSF; have HSD := Lib.hid hSD
      have t1 : (SE.toList == SE.toList) = true := by simp
      have t2 : (SQ.toList == SQ.toList) = true := by simp
      have t3 : (SF.toList == SF.toList) = true := by simp
      have t4 : (SD.toList == SD.toList) = true := by simp
      have t5 : (SX.toList == SX.toList) = true := by simp
      have t6 : (z1 == z1) = true := by simp
      clear hE hQ hF0 hD hnE hnQ hnF hnD hSE hSQ hSF hSD hSX
      go_wp2_with fail
      refine Stu.wp_region_stu _ (Stu.mkT [(1, crvS nE E), (2, cvaS (.string SE)), (4, crvS nE E), (5, cvaS (.string SE)), (21, crvS nQ Q), (22, cvaS (.string SQ)), (24, crvS nQ Q), (25, cvaS (.string SQ)), (30, crvS nF F), (31, cvaS (.string SF)), (33, crvS nF F), (34, cvaS (.string SF)), (40, crvS nD D), (41, cvaS (.string SD)), (44, crvS nD D), (45, cvaS (.string SD))]) (fun _ => True) [] CB.refl (fun _ _ _ => CB.trans) (fun _ _ h => h) (fun _ _ _ _ => trivial) trivial (Stu.mkT_ks _ (by show List.Nodup [1, 2, 4, 5, 21, 22, 24, 25, 30, 31, 33, 34, 40, 41, 44, 45]; decide) _ rfl) (by kernel_rfl) (by kernel_rfl) (by kernel_rfl) ?_
      repeat (first
        | (refine Stu.wpR_plain ?_ (by rfl) (by rfl) (fun K hK => ?_); (focus (first | (simp only [Region.wanted]; done) | (go_simp; done))); apply Exists.intro; refine ⟨fun W hW => ?_, ?_⟩; (go_simp; (try simp only [Stu.plainUpon_value, true_and]); rfl); go_simp; refine hK _ ?_; clear hK K)
        | (refine Stu.wpR_plain ?_ (by rfl) (by rfl) (fun K hK => ?_); (focus (first | (simp only [Region.wanted]; done) | (go_simp; done))); apply Exists.intro; refine ⟨fun W hW => ?_, ?_⟩; (have hcw := HC.out W hW; go_simp; (try simp only [Stu.plainUpon_value, true_and]); rfl); go_simp; refine hK _ ?_; clear hK K)
        | (refine Stu.wpR_spg (by rfl) (by rfl) ?_ ?_ (fun W hW hF => ?_) (fun K v hv hK => ?_); (focus (first | (simp only [Region.wanted]; done) | (go_simp; done))); (focus (exact ⟨_, none, _, rfl, Nat.le_refl _⟩)); (go_simp; simp only [Stu.relUpon_enter]; exact own_rel (by rw [HE.out]; exact b64_n W A m c b (HQ.out W hW) HM.out hc hm6) HnE.out _); (obtain ⟨AE, cE, rfl, hcE⟩ := hv); go_simp; refine hK _ ?_; clear hK K)
        | (refine Stu.wpR_spg (by rfl) (by rfl) ?_ ?_ (fun W hW hF => ?_) (fun K v hv hK => ?_); (focus (first | (simp only [Region.wanted]; done) | (go_simp; done))); (focus (exact ⟨_, none, _, rfl, Nat.le_refl _⟩)); (go_simp; simp only [Stu.relUpon_enter]; exact own_rel (by rw [HE.out]; exact rb64_any W A m c b (HQ.out W hW) HM.out hc hm6) HnE.out _); (obtain ⟨AE, cE, rfl, hcE⟩ := hv); go_simp; refine hK _ ?_; clear hK K)
        | (refine Stu.wpR_spg (by rfl) (by rfl) ?_ ?_ (fun W hW hF => ?_) (fun K v hv hK => ?_); (focus (first | (simp only [Region.wanted]; done) | (go_simp; done))); (focus (exact ⟨_, none, _, rfl, Nat.le_refl _⟩)); (go_simp; simp only [Stu.relUpon_enter]; exact own_rel (by rw [HQQ.out]; exact quo_n W A m c b (HQ.out W hW) HM.out hc hm6) HnQ.out _); (obtain ⟨AE, cE, rfl, hcE⟩ := hv); go_simp; refine hK _ ?_; clear hK K)
        | (refine Stu.wpR_spg (by rfl) (by rfl) ?_ ?_ (fun W hW hF => ?_) (fun K v hv hK => ?_); (focus (first | (simp only [Region.wanted]; done) | (go_simp; done))); (focus (exact ⟨_, none, _, rfl, Nat.le_refl _⟩)); (go_simp; simp only [Stu.relUpon_enter]; exact own_rel (by rw [HQQ.out]; exact rquo_any W A m c b (HQ.out W hW) HM.out hc hm6) HnQ.out _); (obtain ⟨AE, cE, rfl, hcE⟩ := hv); go_simp; refine hK _ ?_; clear hK K)
        | (refine Stu.wpR_spg (by rfl) (by rfl) ?_ ?_ (fun W hW hF => ?_) (fun K v hv hK => ?_); (focus (first | (simp only [Region.wanted]; done) | (go_simp; done))); (focus (exact ⟨_, none, _, rfl, Nat.le_refl _⟩)); (go_simp; simp only [Stu.relUpon_enter]; exact own_rel (by rw [HF0.out]; exact fq_n W A m c b (HQ.out W hW) HM.out hc hcap hm6) HnF.out _); (obtain ⟨AE, cE, rfl, hcE⟩ := hv); go_simp; refine hK _ ?_; clear hK K)
        | (refine Stu.wpR_spg (by rfl) (by rfl) ?_ ?_ (fun W hW hF => ?_) (fun K v hv hK => ?_); (focus (first | (simp only [Region.wanted]; done) | (go_simp; done))); (focus (exact ⟨_, none, _, rfl, Nat.le_refl _⟩)); (go_simp; simp only [Stu.relUpon_enter]; exact own_rel (by rw [HF0.out]; exact rfq_any W A m c b (HQ.out W hW) HM.out hc hm6) HnF.out _); (obtain ⟨AE, cE, rfl, hcE⟩ := hv); go_simp; refine hK _ ?_; clear hK K)
        | (refine Stu.wpR_spg (by rfl) (by rfl) ?_ ?_ (fun W hW hF => ?_) (fun K v hv hK => ?_); (focus (first | (simp only [Region.wanted]; done) | (go_simp; done))); (focus (exact ⟨_, none, _, rfl, Nat.le_refl _⟩)); (go_simp; simp only [Stu.relUpon_enter]; exact rv_rel (by rw [HD0.out]; exact decode_any W how A m c b hh (HQ.out W hW) HM.out hc hcap hm6) HnD.out _); (obtain ⟨AE, cE, rfl, hcE⟩ := hv); go_simp; refine hK _ ?_; clear hK K)
        | (refine Stu.wpR_spg (by rfl) (by rfl) ?_ ?_ (fun W hW hF => ?_) (fun K v hv hK => ?_); (focus (first | (simp only [Region.wanted]; done) | (go_simp; done))); (focus (exact ⟨_, none, _, rfl, Nat.le_refl _⟩)); (go_simp; simp only [Stu.relUpon_enter]; exact rv_rel (by rw [HD0.out]; exact rdecode_any W how A m c b hh (HQ.out W hW) HM.out hc hcap hm6) HnD.out _); (obtain ⟨AE, cE, rfl, hcE⟩ := hv); go_simp; refine hK _ ?_; clear hK K)
        | (refine Stu.wpR_spg (by rfl) (by rfl) ?_ ?_ (fun W hW hF => ?_) (fun K v hv hK => ?_); (focus (first | (simp only [Region.wanted]; done) | (go_simp; done))); (focus (exact ⟨_, rfl⟩)); (exact crv_str rfl rfl (hF 1 rfl) HSE.out _); (cases hv); go_simp; refine hK _ ?_; clear hK K)
        | (refine Stu.wpR_spg (by rfl) (by rfl) ?_ ?_ (fun W hW hF => ?_) (fun K v hv hK => ?_); (focus (first | (simp only [Region.wanted]; done) | (go_simp; done))); (focus (exact ⟨_, rfl⟩)); (exact crv_str rfl rfl (hF 4 rfl) HSE.out _); (cases hv); go_simp; refine hK _ ?_; clear hK K)
        | (refine Stu.wpR_spg (by rfl) (by rfl) ?_ ?_ (fun W hW hF => ?_) (fun K v hv hK => ?_); (focus (first | (simp only [Region.wanted]; done) | (go_simp; done))); (focus (exact ⟨_, rfl⟩)); (exact crv_str rfl rfl (hF 21 rfl) HSQ.out _); (cases hv); go_simp; refine hK _ ?_; clear hK K)
        | (refine Stu.wpR_spg (by rfl) (by rfl) ?_ ?_ (fun W hW hF => ?_) (fun K v hv hK => ?_); (focus (first | (simp only [Region.wanted]; done) | (go_simp; done))); (focus (exact ⟨_, rfl⟩)); (exact crv_str rfl rfl (hF 24 rfl) HSQ.out _); (cases hv); go_simp; refine hK _ ?_; clear hK K)
        | (refine Stu.wpR_spg (by rfl) (by rfl) ?_ ?_ (fun W hW hF => ?_) (fun K v hv hK => ?_); (focus (first | (simp only [Region.wanted]; done) | (go_simp; done))); (focus (exact ⟨_, rfl⟩)); (exact crv_str rfl rfl (hF 30 rfl) HSF.out _); (cases hv); go_simp; refine hK _ ?_; clear hK K)
        | (refine Stu.wpR_spg (by rfl) (by rfl) ?_ ?_ (fun W hW hF => ?_) (fun K v hv hK => ?_); (focus (first | (simp only [Region.wanted]; done) | (go_simp; done))); (focus (exact ⟨_, rfl⟩)); (exact crv_str rfl rfl (hF 33 rfl) HSF.out _); (cases hv); go_simp; refine hK _ ?_; clear hK K)
        | (refine Stu.wpR_spg (by rfl) (by rfl) ?_ ?_ (fun W hW hF => ?_) (fun K v hv hK => ?_); (focus (first | (simp only [Region.wanted]; done) | (go_simp; done))); (focus (exact ⟨_, rfl⟩)); (exact crv_str rfl rfl (hF 40 rfl) HSD.out _); (cases hv); go_simp; refine hK _ ?_; clear hK K)
        | (refine Stu.wpR_spg (by rfl) (by rfl) ?_ ?_ (fun W hW hF => ?_) (fun K v hv hK => ?_); (focus (first | (simp only [Region.wanted]; done) | (go_simp; done))); (focus (exact ⟨_, rfl⟩)); (exact crv_str rfl rfl (hF 44 rfl) HSD.out _); (cases hv); go_simp; refine hK _ ?_; clear hK K))
      refine Stu.wpR_nil (fun W hW hU hF => ?_)
      have HB5 := Lib.hid (below_then HB3.out HB3.out.size (HBW.out W hW))
      clear hF hW hU HC HBW HQ
      go_wp2
      go_ret
      exact ⟨rfl, HB5.out⟩
end Go.Proofs.YtgaccogekmaijaaDoor
