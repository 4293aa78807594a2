/- The law CodeBack: the walk. -/
import Derived.Test.YtgaccogekmaijaaDoorCoAw
import Derived.Test.YtgaccogekmaijaaDoorCoSh
namespace Go.Proofs.YtgaccogekmaijaaDoor
open Go.RowKit Go.Maps
set_option linter.unusedVariables false
set_option linter.unusedSimpArgs false
attribute [local irreducible] wpR relOp Stu.wpR Stu.relOp
theorem Ob.sl3 {w : World} {base e n : Nat} {v : Value} {l : List UInt8} (h : Ob w base e v l) (hn : l.length = n) : ∃ A c, v = .slice A n c ∧ n ≤ c ∧ Rd w A l := by
  obtain ⟨A, c, h1, h2, h3⟩ := h.rd
  exact ⟨A, c, by rw [h1, hn], by omega, h3⟩
theorem Ob.capm {w : World} {base e n : Nat} {v : Value} {l : List UInt8} (h : Ob w base e v l) (hn : l.length = n) : ∃ A c, v = .slice A n c ∧ n ≤ c ∧ c ≤ 9223372036854775807 ∧ Rd w A l := by
  obtain ⟨A, c, hv, h2, h3⟩ := h.sl3 hn
  refine ⟨A, c, hv, h2, ?_, h3⟩
  rcases h.2 with ⟨rfl, _⟩ | ⟨g, cap, cur, rfl, _, _, _, hm, _⟩
  · cases hv; omega
  · cases hv; simp only [maxLen] at hm; omega
theorem b64_n (w : World) (A : Option Addr) (n c : Nat) (b : List UInt8) (hr : Rd w A b) (hn : b.length = n) (hc : n ≤ c) (hl : n ≤ 1000000) :
    Calls Tryd.prog 8 #[.slice A n c] w fun e w' => ∃ v, e = .returned v ∧ Ob w' w.heap.size 5 v (CodeMath.enc 0 b) ∧ Below w.heap.size w w' := by
  subst hn; exact b64_any w A c b hr hc hl
theorem quo_n (w : World) (A : Option Addr) (n c : Nat) (b : List UInt8) (hr : Rd w A b) (hn : b.length = n) (hc : n ≤ c) (hl : n ≤ 1000000) :
    Calls Tryd.prog 9 #[.slice A n c] w fun e w' => ∃ v, e = .returned v ∧ Ob w' w.heap.size 5 v (CodeMath.qpS 0 b) ∧ Below w.heap.size w w' := by
  subst hn; exact quoted_any w A c b hr hc hl
theorem dec_n (w : World) (A : Option Addr) (n c : Nat) (b : List UInt8) (hr : Rd w A b) (hn : b.length = n) (hc : n ≤ c) (hl : n ≤ 1000000) :
    Calls Tryd.prog 10 #[.slice A n c] w (Dec64 w b) := by
  subst hn; exact dec64_any w A c b hr hc hl
theorem short_n (w : World) (A : Option Addr) (n c : Nat) (b : List UInt8) (hr : Rd w A b) (hn : b.length = n) (hc : n ≤ c) (hl : n ≤ 1000000) (hs : ∀ l ∈ CodeMath.ln [] b, CodeMath.shortL l = true) :
    Calls Tryd.prog 12 #[.slice A n c] w fun e w' => e = .returned (.bool true) ∧ Below w.heap.size w w' := by
  subst hn; exact short_any w A c b hr hc hl hs
theorem fq_rel {W : World} {A : Option Addr} {n c k : Nat} {l r : List UInt8} (hr : Rd W A l) (hn : l.length = n) (hc : n ≤ c) (hcap : c ≤ 9223372036854775807) (hl : n ≤ 10000000) (hq : CodeMath.fqS l = r) (hk : r.length = k) (xs : List Value) :
    Calls Tryd.prog 11 #[.slice A n c] W fun e w'' => ∃ v, e = .returned v ∧ CB W w'' ∧ ((cslS k r).p xs v ∧ (cslS k r).q xs v w'') := by
  subst hn
  refine (fromq_any W A c l hr hc hcap hl).mono ?_
  rintro e w' ⟨v, rfl, ho, hb⟩
  rw [hq] at ho
  exact ⟨v, rfl, hb, ho.shpn hk, ho.sl⟩
set_option maxRecDepth 20000 in
set_option maxHeartbeats 8000000 in
theorem CodeBack_walk (A : Option Addr) (c : Nat) (b : List UInt8) (w : World) (hr : Rd w A b) (hc : b.length ≤ c) (hlm : b.length ≤ 140737488351232) :
    Calls Tryd.prog 3 #[.slice A b.length c] w fun e w' => e = .returned (.bool true) ∧ Below w.heap.size w w' := by
  obtain ⟨m, hm⟩ : ∃ m, m = b.length := ⟨_, rfl⟩
  rw [← hm] at hc hlm ⊢
  have HM := Lib.hid hm; have HR := Lib.hid hr
  clear hm hr
  go_enter Tryd.func3, Tryd.ntmps3
  go_wp2_with fail
  refine (awake13_any _).mono ?_
  rintro e w1 ⟨rfl, hb1⟩
  have HB1 := Lib.hid hb1
  clear hb1
  by_cases h5 : 500 < m
  · have h5i : (500 : Int) < m := by omega
    go_wp2
    go_ret
    exact ⟨rfl, HB1.out⟩
  · have h5i : ¬ (500 : Int) < m := by omega
    have HCON := Lib.hid (b64_n w1 A m c b (HR.out.below HB1.out) HM.out.symm hc (by omega))
    go_wp2_with fail
    refine HCON.out.mono ?_
    rintro e w2 ⟨v, rfl, ho, hb2⟩
    clear HCON
    have HB2 := Lib.hid (below_then HB1.out HB1.out.size hb2)
    obtain ⟨np, hnp⟩ : ∃ np, (CodeMath.enc 0 b).length = np := ⟨_, rfl⟩
    have hnp9 : np ≤ 10000 := by
      have := encF_len (b.length + 1) 0 b (by omega)
      rw [← hnp]
      unfold CodeMath.enc
      have := HM.out
      omega
    obtain ⟨Ap, cp, rfl, hcp, hrp⟩ := ho.sl' hnp
    have HRP := Lib.hid hrp; have HNP := Lib.hid hnp
    clear ho hb2 hrp hnp
    have HCON := Lib.hid (quo_n w2 A m c b (HR.out.below HB2.out) HM.out.symm hc (by omega))
    go_wp2_with fail
    refine HCON.out.mono ?_
    rintro e w3 ⟨v, rfl, ho, hb3⟩
    clear HCON
    have HB3 := Lib.hid (below_then HB2.out HB2.out.size hb3)
    have HRP3 := Lib.hid (HRP.out.below hb3)
    obtain ⟨nq, hnq⟩ : ∃ nq, (CodeMath.qpS 0 b).length = nq := ⟨_, rfl⟩
    have hnq9 : nq ≤ 10000 := by
      have := CodeMath.qpF_len (b.length + 1) 0 b (by omega)
      rw [← hnq]
      unfold CodeMath.qpS
      have := HM.out
      omega
    obtain ⟨Aq, cq, rfl, hcq, hcqm, hrq⟩ := ho.capm hnq
    have HRQ := Lib.hid hrq; have HNQ := Lib.hid hnq
    clear ho hb3 hrq hnq HRP
    have HCON := Lib.hid (dec_n w3 Ap np cp (CodeMath.enc 0 b) HRP3.out HNP.out hcp (by omega))
    go_wp2_with fail
    refine HCON.out.mono ?_
    rintro e w4 ⟨hb4, ⟨l, v, hd, rfl, ho⟩ | ⟨hd, _⟩⟩
    · rw [CodeMath.dec_enc] at hd
      injection hd with hd
      subst hd
      clear HCON
      have HB4 := Lib.hid (below_then HB3.out HB3.out.size hb4)
      have HRP4 := Lib.hid (HRP3.out.below hb4)
      have HRQ4 := Lib.hid (HRQ.out.below hb4)
      obtain ⟨Ax, cx, rfl, hcx, hrx⟩ := ho.sl' HM.out.symm
      have HRX := Lib.hid hrx
      clear ho hb4 hrx HRP3 HRQ
      obtain ⟨B, hB⟩ : ∃ B : ByteArray, B = ⟨b.toArray⟩ := ⟨_, rfl⟩
      have HBB := Lib.hid hB
      have hBB : (B.toList == B.toList) = true := by simp
      have HBW : Hid (∀ W, CB w4.drew W → Below w4.heap.size w4 W) := Lib.hid fun W hW => (Below.drew (Below.refl _ w4)).trans hW
      have HC : Hid (∀ W, CB w4.drew W → (convert 22 9 (.slice A m c)).run Tryd.prog W = .ok (.string B) W ∧ (convert 22 9 (.slice Ax m cx)).run Tryd.prog W = .ok (.string B) W) := Lib.hid fun W hW => by
        have h := HBW.out W hW
        rw [hB]
        exact ⟨(HR.out.below (below_then HB4.out HB4.out.size h)).str m c HM.out.symm, (HRX.out.below h).str m cx HM.out.symm⟩
      have HQ : Hid (∀ W, CB w4.drew W → Rd W Aq (CodeMath.qpS 0 b)) := Lib.hid fun W hW => HRQ4.out.below (HBW.out W hW)
      have HFQ : Hid (CodeMath.fqS (CodeMath.qpS 0 b) = b) := Lib.hid (CodeMath.fqS_qp b)
      clear hB
      go_wp2_with fail
      refine Stu.wp_region_stu _ (Stu.mkT [(11, cslS m b), (12, cvaS (.string B))]) (fun _ => True) [] CB.refl (fun _ _ _ => CB.trans) (fun _ _ h => h) (fun _ _ _ _ => trivial) trivial (Stu.mkT_ks _ (by show List.Nodup [11, 12]; decide) _ rfl) (by kernel_rfl) (by kernel_rfl) (by kernel_rfl) ?_
      repeat (first
        | (refine Stu.wpR_plain ?_ (by rfl) (by rfl) (fun K hK => ?_); (focus (first | (simp only [Region.wanted]; done) | (go_simp; done))); apply Exists.intro; refine ⟨fun W hW => ?_, ?_⟩; (go_simp; (try simp only [Stu.plainUpon_value, true_and]); rfl); go_simp; refine hK _ ?_; clear hK K)
        | (refine Stu.wpR_plain ?_ (by rfl) (by rfl) (fun K hK => ?_); (focus (first | (simp only [Region.wanted]; done) | (go_simp; done))); apply Exists.intro; refine ⟨fun W hW => ?_, ?_⟩; (have hcw := HC.out W hW; go_simp; (try simp only [Stu.plainUpon_value, true_and]); rfl); go_simp; refine hK _ ?_; clear hK K)
        | (refine Stu.wpR_spg (by rfl) (by rfl) ?_ ?_ (fun W hW hF => ?_) (fun K v hv hK => ?_); (focus (first | (simp only [Region.wanted]; done) | (go_simp; done))); (focus (exact ⟨_, none, _, rfl, Nat.le_refl _⟩)); (go_simp; simp only [Stu.relUpon_enter]; exact fq_rel (HQ.out W hW) HNQ.out hcq hcqm (by omega) HFQ.out HM.out.symm _); (obtain ⟨A11, c11, rfl, hc11⟩ := hv); go_simp; refine hK _ ?_; clear hK K)
        | (refine Stu.wpR_spg (by rfl) (by rfl) ?_ ?_ (fun W hW hF => ?_) (fun K v hv hK => ?_); (focus (first | (simp only [Region.wanted]; done) | (go_simp; done))); (focus (exact ⟨_, rfl⟩)); (exact cstr_rel rfl rfl (hF 11 rfl) HBB.out _); (cases hv); go_simp; refine hK _ ?_; clear hK K))
      refine Stu.wpR_nil (fun W hW hU hF => ?_)
      have hbW := HBW.out W hW
      have HB5 := Lib.hid (below_then HB4.out HB4.out.size hbW)
      have HRP5 := Lib.hid (HRP4.out.below hbW)
      have HRQ5 := Lib.hid (HRQ4.out.below hbW)
      clear hF hW hU HC HBW HQ hbW HRP4 HRQ4
      have HS1 := Lib.hid (short_n W Ap np cp (CodeMath.enc 0 b) HRP5.out HNP.out hcp (by omega) (CodeMath.enc_short b))
      go_wp2_with fail
      refine HS1.out.mono ?_
      rintro e w6 ⟨rfl, hb6⟩
      have HS2 := Lib.hid (short_n w6 Aq nq cq (CodeMath.qpS 0 b) (HRQ5.out.below hb6) HNQ.out hcq (by omega) (CodeMath.qp_short b))
      have HB6 := Lib.hid (below_then HB5.out HB5.out.size hb6)
      clear hb6 HS1
      go_wp2_with fail
      refine HS2.out.mono ?_
      rintro e w7 ⟨rfl, hb7⟩
      have HB7 := Lib.hid (below_then HB6.out HB6.out.size hb7)
      clear hb7 HS2
      go_wp2
      go_ret
      exact ⟨rfl, HB7.out⟩
    · rw [CodeMath.dec_enc] at hd; cases hd
end Go.Proofs.YtgaccogekmaijaaDoor
