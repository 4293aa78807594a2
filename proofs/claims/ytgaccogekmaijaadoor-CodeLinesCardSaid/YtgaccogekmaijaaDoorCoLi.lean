/- The law CodeLines: the walk. -/
import Derived.Test.YtgaccogekmaijaaDoorCoDc
namespace Go.Proofs.YtgaccogekmaijaaDoor
open Go.RowKit Go.Maps
set_option linter.unusedVariables false
set_option linter.unusedSimpArgs false
attribute [local irreducible] wpR relOp Stu.wpR Stu.relOp
/-- a row of bytes of the call's own; without bytes it has no room -/
def T5 (n : Nat) (v : Value) : Prop := ∃ A c, v = .slice A n c ∧ n ≤ c ∧ (n = 0 → c = 0)
def svT (base n : Nat) (l : List UInt8) : Stu.SpU (TE 5 4 base) (Gs base) := ⟨true, fun _ v => T5 n v, fun _ _ _ => True, fun v W => Ob W base 5 v l, fun _ _ _ _ _ _ => trivial, fun _ _ _ h hg => h.below hg.1⟩
/-- a literal of so many bytes, at most four -/
def slT (base : Nat) (l : List UInt8) (hl : l.length ≤ 4) : Stu.SpU (TE 5 4 base) (Gs base) := ⟨false, fun _ v => ∃ g, v = .slice (some ⟨g, 0, none⟩) l.length l.length, fun _ v W => ∃ g, v = .slice (some ⟨g, 0, none⟩) l.length l.length ∧ base ≤ g ∧ W.heap[g]? = some (.cells (bv l) 5), fun _ _ => True, fun _ _ W W' h hg => by
  obtain ⟨g, h1, h2, h3⟩ := h
  exact ⟨g, h1, h2, hg.2 _ _ _ _ (.inr (by simp [bv]; exact hl)) h3⟩, fun _ _ _ _ _ => trivial⟩
theorem ob_room {W : World} {base g n c : Nat} {o : Nat} {l : List UInt8} {A : Option Addr} (h : Ob W base 5 (.slice A n c) l) {cur : Array Value} (hg : (Value.slice A n c).ownBlock = some g) (hh : W.heap[g]? = some (.cells cur 5 (0, 0))) : cur.size = c := by
  rcases h.2 with ⟨e, _⟩ | ⟨g', cap, cur', e, _, hh', _, _, hs, _⟩
  · rw [e] at hg; cases hg
  · injection e with e1 e2 e3
    subst e1; subst e3
    simp [Value.ownBlock] at hg
    subst hg
    rw [hh'] at hh
    injection hh with hh
    injection hh with hh
    rw [← hh]; omega
theorem appT_run {W : World} {base m c n c0 : Nat} {l news : List UInt8} {A0 A : Option Addr} (HO : Ob W base 5 (.slice A0 n c0) l) (hn : l.length = n) (hz : n = 0 → c0 = 0) (HR : Rd W A news) (hm : news.length = m) (hB : base ≤ W.heap.size) (hlen : n + m ≤ 1000000000) (h5 : 5 ≤ n + m ∨ n = 0) :
    ∃ v' W', (Builtin.append_ #[22, 22] 22 #[.slice A0 n c0, .slice A m c]).run Tryd.prog W = .ok v' W' ∧ Ob W' base 5 v' (l ++ news) ∧ TE 5 4 base W W' := by
  subst hm; subst hn
  obtain ⟨i0, hi, hzz⟩ := Option.map_eq_some_iff.1 info_u8b
  simp only [Prod.mk.injEq] at hzz
  obtain ⟨v1, W', hr, h2, h3⟩ := append_dicho (P := Tryd.prog) W base 22 22 5 i0 (.int .u8 0) 1 1 Tryd.underlying22 hi hzz.1 hzz.2.1 hzz.2.2 rfl (by decide) (by decide) _ l.length (bvl l) HO A news.length c (bvl news) (by rw [bvl_length]; omega) (Src.of_rd HR) (bvl_one news) (by omega) hB
  refine ⟨v1, W', hr, by unfold Ob; rw [bvl_append, List.length_append]; exact h2, ?_⟩
  rcases h3 with ⟨g, cur, q1, q2, q3, q4, q5, q6⟩ | ⟨q1, _⟩
  · have hb : base ≤ g := (HO.lt g q1).1
    rw [bvl_length] at q4
    have hcs := ob_room (o := 0) HO q1 q3
    by_cases hnews : news = []
    · have hsame : W'.heap[g]? = W.heap[g]? := by
        rw [q5, q3, hnews]
        show some (Obj.cells (spl _ [] cur) _ _) = _
        rw [spl_nil]
      refine ⟨⟨q6.os, q6.tape, q6.output, q6.size, fun k hk => q6.block k (Nat.lt_of_lt_of_le hk hB) (fun e => by injection e with e; omega)⟩, fun k cs t fr _ hk => ?_⟩
      by_cases e : k = g
      · subst e
        rw [hsame]; exact hk
      · exact (q6.block k (Array.getElem?_eq_some_iff.1 hk).1 (fun e' => e (by injection e'))).trans hk
    · have hp : 0 < news.length := List.length_pos_iff.2 hnews
      have h45 : 5 ≤ cur.size := by
        rcases h5 with h5 | h5
        · omega
        · have := hz h5; omega
      refine ⟨⟨q6.os, q6.tape, q6.output, q6.size, fun k hk => q6.block k (Nat.lt_of_lt_of_le hk hB) (fun e => by injection e with e; omega)⟩, fun k cs t fr hd hk => (q6.block k (Array.getElem?_eq_some_iff.1 hk).1 (fun e => ?_)).trans hk⟩
      injection e with e
      subst e
      rw [q3] at hk
      injection hk with hk
      injection hk with e1 e2 e3
      subst e1
      rcases hd with hd | hd
      · exact hd e2.symm
      · omega
  · exact Gs.te _ _ ⟨q1, hB⟩
theorem appT_rel {o : Oper} {a : Act} {W : World} {base m c n c0 nn : Nat} {l news : List UInt8} {A0 A : Option Addr} {s x : Operand} (xs : List Value)
    (ho : o.op = .call { callee := .builtin .append, args := #[s, x], argTypes := #[22, 22] }) (hty : o.type = 22) (hs : a.eval s = .slice A0 n c0) (hx : a.eval x = .slice A m c)
    (HO : Ob W base 5 (.slice A0 n c0) l) (hn : l.length = n) (hz : n = 0 → c0 = 0) (HR : Rd W A news) (hm : news.length = m) (hB : base ≤ W.heap.size) (hlen : n + m ≤ 1000000000) (h5 : 5 ≤ n + m ∨ n = 0) {l2 : List UInt8} (hl2 : l2 = l ++ news) (hnn : l2.length = nn) (hpos : nn = 0 → m = 0 ∧ A0.isSome = true ∧ n = 0) :
    Stu.relUpon Tryd.prog (TE 5 4 base) W (fun v W' => ((svT base nn l2).p xs v ∧ (svT base nn l2).q xs v W') ∧ (svT base nn l2).u v W') ((execOp a.eval o).run Tryd.prog W) := by
  subst hl2
  by_cases h0 : nn = 0
  · obtain ⟨hm0, hA, hn0⟩ := hpos h0
    have hc0 := hz hn0
    obtain ⟨i0, hi, hzz⟩ := Option.map_eq_some_iff.1 info_u8b
    rcases HO.2 with ⟨e, _⟩ | ⟨g', cap, cur', e, _⟩
    · injection e with e1; rw [e1] at hA; cases hA
    · injection e with e1 e2 e3
      subst e1
      subst hm0
      have hr := append_nil (P := Tryd.prog) W 22 22 5 Tryd.underlying22 ⟨i0, hi⟩ g' c0 n (by omega) A c
      unfold execOp
      simp only [ho, hty, resolve, invoke, builtin, Sem.run_bind, Sem.run_pure, Result.andThen_ok, List.map_toArray, List.map_cons, List.map_nil, hs, hx, hr]
      have hnews : news = [] := List.eq_nil_of_length_eq_zero (by omega)
      refine ⟨TE.refl _ _ _ _, ⟨⟨_, c0, by rw [h0, hn0], by omega, fun _ => hc0⟩, trivial⟩, ?_⟩
      show Ob W base 5 _ _
      rw [hnews, List.append_nil]; exact HO
  · obtain ⟨v', W', hr, ho2, hts⟩ := appT_run (c := c) HO hn hz HR hm hB hlen h5
    obtain ⟨A2, c2, e2, h2⟩ := ho2.shpn hnn
    unfold execOp
    simp only [ho, hty, resolve, invoke, builtin, Sem.run_bind, Sem.run_pure, Result.andThen_ok, List.map_toArray, List.map_cons, List.map_nil, hs, hx, hr]
    exact ⟨hts, ⟨⟨A2, c2, e2, h2, fun h => absurd h h0⟩, trivial⟩, ho2⟩
theorem decode_rel {W : World} {A : Option Addr} {n c k : Nat} {how : ByteArray} {l r : List UInt8} (hh : how.size ≤ 140737488351232) (hr : Rd W A l) (hn : l.length = n) (hc : n ≤ c) (hcap : c ≤ 9223372036854775807) (hl : n ≤ 1000000) (hq : CodeMath.decodeS how.data.toList l = r) (hk : r.length = k) (xs : List Value) :
    Calls Tryd.prog 13 #[.string how, .slice A n c] W fun e w'' => ∃ v, e = .returned v ∧ CB W w'' ∧ ((crvS k r).p xs v ∧ (crvS k r).q xs v w'') := by
  refine (decode_any W how A n c l hh hr hn hc hcap hl).mono ?_
  rintro e w' ⟨v, rfl, ho, hb⟩
  rw [hq] at ho
  obtain ⟨A', c', h1, h2, _⟩ := ho.shp hk
  exact ⟨v, rfl, hb, ⟨A', c', h1, h2⟩, ho⟩
set_option maxRecDepth 20000 in
set_option maxHeartbeats 8000000 in
theorem CodeLines_walk (A : Option Addr) (c : Nat) (b : List UInt8) (at_ : Int) (w : World) (hr : Rd w A b) (hc : b.length ≤ c) (hlm : b.length ≤ 140737488351232) (hwf : Lit.wf (.int .i64 at_)) :
    Calls Tryd.prog 6 #[.slice A b.length c, .int .i64 at_] w fun e w' => e = .returned (.bool true) ∧ Below w.heap.size w w' := by
  obtain ⟨m, hm⟩ : ∃ m, m = b.length := ⟨_, rfl⟩
  rw [← hm] at hc hlm ⊢
  have HM := Lib.hid hm; have HR := Lib.hid hr
  have hat : at_ < 9223372036854775808 := by simp [Lit.wf, IntKind.min, IntKind.max, IntKind.signed, IntKind.bits] at hwf; omega
  clear hm hr hwf
  go_enter Tryd.func6, Tryd.ntmps6
  go_wp2_with fail
  refine (awake13_any _).mono ?_
  rintro e w1 ⟨rfl, hb1⟩
  have HB1 := Lib.hid hb1
  clear hb1
  by_cases h5 : 200 < m
  · have h5i : (200 : Int) < m := by omega
    go_wp2
    go_ret
    exact ⟨rfl, HB1.out⟩
  · have h5i : ¬ (200 : Int) < m := by omega
    by_cases hneg : at_ < 0
    · go_wp2
      go_ret
      exact ⟨rfl, HB1.out⟩
    · obtain ⟨a0, rfl⟩ : ∃ a0 : Nat, at_ = a0 := ⟨at_.toNat, by omega⟩
      clear hat
      have HCON := Lib.hid (b64_n w1 A m c b (HR.out.below HB1.out) HM.out.symm hc (by omega))
      go_wp2_with fail
      refine HCON.out.mono ?_
      rintro e w2 ⟨v, rfl, ho, hb2⟩
      clear HCON
      have HB2 := Lib.hid (below_then HB1.out HB1.out.size hb2)
      obtain ⟨np, hnp⟩ : ∃ np, (CodeMath.enc 0 b).length = np := ⟨_, rfl⟩
      have hnp9 : np ≤ 10000 := by
        have := encF_len (b.length + 1) 0 b (by omega)
        rw [← hnp]
        unfold CodeMath.enc
        have := HM.out
        omega
      obtain ⟨Ap, cp, rfl, hcp, hrp⟩ := ho.sl' hnp
      have HRP := Lib.hid hrp; have HNP := Lib.hid hnp
      clear ho hb2 hrp hnp
      by_cases h0 : np = 0
      · have hb0 : m = 0 := by
          rcases Nat.eq_zero_or_pos m with h | h
          · exact h
          · exfalso
            have h1 := CodeMath.dec_enc b
            have h2 : CodeMath.enc 0 b = [] := List.eq_nil_of_length_eq_zero (by rw [HNP.out]; exact h0)
            rw [h2] at h1
            have h3 : CodeMath.dec [] = some [] := by decide
            rw [h3] at h1
            injection h1 with h1
            have := HM.out
            rw [← h1] at this
            simp at this
            omega
        subst h0; subst hb0
        go_wp2
        go_ret
        exact ⟨rfl, HB2.out⟩
      · obtain ⟨k, hk⟩ : ∃ k, k = a0 % np := ⟨_, rfl⟩
        have hknp : k < np := by rw [hk]; exact Nat.mod_lt _ (by omega)
        have hnpb : ((np : Int) == 0) = false := by rw [beq_eq_false_iff_ne]; omega
        have hnpi : ¬ (np : Int) = 0 := by omega
        have htm : Int.tmod (a0 : Int) (np : Int) = (k : Int) := by rw [Int.tmod_eq_emod_of_nonneg (by omega), hk]; exact (Int.natCast_emod a0 np).symm
        have hk0 : (0 : Int) ≤ k := by omega
        have hknpi : (k : Int) ≤ np := by omega
        have hkcpi : (k : Int) ≤ cp := by omega
        have hkcp : k ≤ cp := by omega
        have hckp : ¬ cp = k := by omega
        have hnpcp : (np : Int) ≤ cp := by omega
        obtain ⟨ap, rfl, _⟩ := HRP.out.2 (by rw [HNP.out]; omega)
        obtain ⟨b1, hb1e⟩ : ∃ b1, b1 = (CodeMath.enc 0 b).take k := ⟨_, rfl⟩
        obtain ⟨b2, hb2e⟩ : ∃ b2, b2 = b1 ++ [13, 10, 9, 32] := ⟨_, rfl⟩
        obtain ⟨b3, hb3e⟩ : ∃ b3, b3 = b2 ++ (CodeMath.enc 0 b).drop k := ⟨_, rfl⟩
        have hl1 : b1.length = k := by rw [hb1e, List.length_take, HNP.out]; omega
        have hl2 : b2.length = k + 4 := by rw [hb2e, List.length_append, hl1]; rfl
        have hl3 : b3.length = np + 4 := by rw [hb3e, List.length_append, hl2, List.length_drop, HNP.out]; omega
        have hdec : CodeMath.dec b3 = some b := CodeMath.dec_blanks b b3 (by
          rw [hb3e, hb2e, hb1e, List.filter_append, List.filter_append, show ([13, 10, 9, 32] : List UInt8).filter (fun c => !CodeMath.blank c) = [] from by decide, List.append_nil, ← List.filter_append, List.take_append_drop])
        have HDEC := Lib.hid hdec; have H1 := Lib.hid hb1e; have H2 := Lib.hid hb2e; have H3 := Lib.hid hb3e; have L1 := Lib.hid hl1; have L2 := Lib.hid hl2; have L3 := Lib.hid hl3
        have HBW : Hid (∀ W, TE 5 4 w2.heap.size w2.drew W → Below w2.heap.size w2 W) := Lib.hid fun W hW => (Below.drew (Below.refl _ w2)).trans hW.1
        have HSz : Hid (∀ W, TE 5 4 w2.heap.size w2.drew W → w2.heap.size ≤ W.heap.size) := Lib.hid fun W hW => (HBW.out W hW).size
        have HP1 : Hid (∀ W, TE 5 4 w2.heap.size w2.drew W → Rd W (some ap) b1 ∧ Rd W (some (ap.add k)) ((CodeMath.enc 0 b).drop k)) := Lib.hid fun W hW => by
          have h := HRP.out.below (HBW.out W hW)
          rw [hb1e]
          exact ⟨h.take k, h.drop k⟩
        have HE4 : Hid (((CodeMath.enc 0 b).drop k).length = np - k) := Lib.hid (by rw [List.length_drop, HNP.out])
        clear hk hdec hb1e hb2e hb3e hl1 hl2 hl3
        go_wp2_with fail
        refine Stu.wp_region_stu _ (Stu.mkT [(0, slT w2.heap.size [] (by decide)), (4, svT w2.heap.size k b1), (5, slT w2.heap.size [13, 10, 9, 32] (by decide)), (6, svT w2.heap.size (k + 4) b2), (10, svT w2.heap.size (np + 4) b3)]) (fun _ => True) [4, 6, 10] (TE.refl _ _ _) TE.trans Gs.te (fun _ _ _ _ => trivial) trivial (Stu.mkT_ks _ (by show List.Nodup [0, 4, 5, 6, 10]; decide) _ rfl) (by kernel_rfl) (by kernel_rfl) (by kernel_rfl) ?_
        repeat (first
          | (refine Stu.wpR_plain ?_ (by rfl) (by rfl) (fun K hK => ?_); (focus (first | (simp only [Region.wanted]; done) | (go_simp; done))); apply Exists.intro; refine ⟨fun W hW => ?_, ?_⟩; (go_simp; (try simp only [Stu.plainUpon_value, true_and]); rfl); go_simp; refine hK _ ?_; clear hK K)
          | (refine Stu.wpR_spg (by rfl) (by rfl) ?_ ?_ (fun W hW hF => ?_) (fun K v hv hK => ?_); (focus (first | (simp only [Region.wanted]; done) | (go_simp; done))); (focus (exact ⟨_, 0, rfl⟩)); (go_simp; exact ⟨⟨(Below.refl _ W).alloc (Nat.le_refl _) _, HSz.out W hW⟩, ⟨_, rfl⟩, ⟨_, rfl, HSz.out W hW, heap_new _ _ _ rfl⟩⟩); (obtain ⟨g0, rfl⟩ := hv); go_simp; refine hK _ ?_; clear hK K)
          | (refine Stu.wpR_spu (by rfl) (by rfl) ?_ ?_ (fun W hW hU hF => ?_) (fun K v hv hK => ?_); (focus (first | (simp only [Region.wanted]; done) | (go_simp; done))); (focus (exact ⟨_, none, _, rfl, Nat.le_refl _, fun h => h⟩)); (obtain ⟨g', e1, e2, e3⟩ := (show (slT w2.heap.size [] (by decide)).q [] (.slice (some ⟨g0, 0, none⟩) 0 0) W from hF 0 rfl); cases e1; exact appT_rel (n := 0) (c0 := 0) (m := k) (nn := k) (l := []) (news := b1) _ rfl rfl rfl rfl (ob_of_bv (l := []) e3 e2 (by decide)) rfl (fun _ => rfl) (HP1.out W hW).1 L1.out (HSz.out W hW) (by omega) (.inr rfl) rfl L1.out (fun h => ⟨h, rfl, rfl⟩)); (obtain ⟨A4, c4, rfl, hc4, hz4⟩ := hv); go_simp; refine hK _ ?_; clear hK K)
          | (refine Stu.wpR_spu (by rfl) (by rfl) ?_ ?_ (fun W hW hU hF => ?_) (fun K v hv hK => ?_); (focus (first | (simp only [Region.wanted]; done) | (go_simp; done))); (focus (exact ⟨_, none, _, rfl, Nat.le_refl _, fun h => h⟩)); (obtain ⟨g', e1, e2, e3⟩ := (show (slT w2.heap.size [13, 10, 9, 32] (by decide)).q [] (.slice (some ⟨g0, 0, none⟩) 4 4) W from hF 5 rfl); cases e1; exact appT_rel (n := k) (m := 4) (nn := k + 4) (news := [13, 10, 9, 32]) _ rfl rfl rfl rfl hU L1.out hz4 (Rd.of_block (l := [13, 10, 9, 32]) e3 (by decide)) rfl (HSz.out W hW) (by omega) (by omega) H2.out L2.out (fun h => by omega)); (obtain ⟨A6, c6, rfl, hc6, hz6⟩ := hv); go_simp; refine hK _ ?_; clear hK K)
          | (refine Stu.wpR_spu (by rfl) (by rfl) ?_ ?_ (fun W hW hU hF => ?_) (fun K v hv hK => ?_); (focus (first | (simp only [Region.wanted]; done) | (go_simp; done))); (focus (exact ⟨_, none, _, rfl, Nat.le_refl _, fun h => h⟩)); (exact appT_rel (n := k + 4) (m := np - k) (nn := np + 4) (news := (CodeMath.enc 0 b).drop k) _ rfl rfl rfl rfl hU L2.out hz6 (HP1.out W hW).2 HE4.out (HSz.out W hW) (by omega) (by omega) H3.out L3.out (fun h => by omega)); (obtain ⟨A10, c10, rfl, hc10, hz10⟩ := hv); go_simp; refine hK _ ?_; clear hK K))
        refine Stu.wpR_nil (fun W hW hU hF => ?_)
        have ho : Ob W w2.heap.size 5 (.slice A10 (np + 4) c10) b3 := hU
        obtain ⟨_, _, e1, _, hcm, hrq⟩ := ho.capm L3.out
        injection e1 with e1 e2 e3
        subst e1; subst e3
        have HRQ := Lib.hid hrq
        have HB3 := Lib.hid (below_then HB2.out HB2.out.size (HBW.out W hW))
        clear hF hW hU HBW HSz HP1 ho hrq e2
        have HCON := Lib.hid (dec_n W A10 (np + 4) c10 b3 HRQ.out L3.out hc10 (by omega))
        go_wp2_with fail
        refine HCON.out.mono ?_
        rintro e w4 ⟨hb4, ⟨l, v, hd, rfl, ho⟩ | ⟨hd, _⟩⟩
        · rw [HDEC.out] at hd
          injection hd with hd
          subst hd
          clear HCON
          have HB4 := Lib.hid (below_then HB3.out HB3.out.size hb4)
          obtain ⟨Ax, cx, rfl, hcx, hrx⟩ := ho.sl' HM.out.symm
          have HRX := Lib.hid hrx
          have HRQ4 := Lib.hid (HRQ.out.below hb4)
          clear ho hb4 hrx HRQ
          obtain ⟨B, hB⟩ : ∃ B : ByteArray, B = ⟨b.toArray⟩ := ⟨_, rfl⟩
          have HBB := Lib.hid hB
          have hBB : (B.toList == B.toList) = true := by simp
          have HBW : Hid (∀ W, CB w4.drew W → Below w4.heap.size w4 W) := Lib.hid fun W hW => (Below.drew (Below.refl _ w4)).trans hW
          have HC : Hid (∀ W, CB w4.drew W → (convert 22 9 (.slice A m c)).run Tryd.prog W = .ok (.string B) W ∧ (convert 22 9 (.slice Ax m cx)).run Tryd.prog W = .ok (.string B) W) := Lib.hid fun W hW => by
            have h := HBW.out W hW
            rw [hB]
            exact ⟨(HR.out.below (below_then HB4.out HB4.out.size h)).str m c HM.out.symm, (HRX.out.below h).str m cx HM.out.symm⟩
          have HQ : Hid (∀ W, CB w4.drew W → Rd W A10 b3) := Lib.hid fun W hW => HRQ4.out.below (HBW.out W hW)
          have HDS : Hid (CodeMath.decodeS (⟨#[66, 97, 115, 101, 54, 52]⟩ : ByteArray).data.toList b3 = b) := Lib.hid (by
            unfold CodeMath.decodeS
            rw [if_pos (by decide), HDEC.out])
          clear hB
          go_wp2_with fail
          refine Stu.wp_region_stu _ (Stu.mkT [(11, crvS m b), (12, cvaS (.string B))]) (fun _ => True) [] CB.refl (fun _ _ _ => CB.trans) (fun _ _ h => h) (fun _ _ _ _ => trivial) trivial (Stu.mkT_ks _ (by show List.Nodup [11, 12]; decide) _ rfl) (by kernel_rfl) (by kernel_rfl) (by kernel_rfl) ?_
          repeat (first
            | (refine Stu.wpR_plain ?_ (by rfl) (by rfl) (fun K hK => ?_); (focus (first | (simp only [Region.wanted]; done) | (go_simp; done))); apply Exists.intro; refine ⟨fun W hW => ?_, ?_⟩; (go_simp; (try simp only [Stu.plainUpon_value, true_and]); rfl); go_simp; refine hK _ ?_; clear hK K)
            | (refine Stu.wpR_plain ?_ (by rfl) (by rfl) (fun K hK => ?_); (focus (first | (simp only [Region.wanted]; done) | (go_simp; done))); apply Exists.intro; refine ⟨fun W hW => ?_, ?_⟩; (have hcw := HC.out W hW; go_simp; (try simp only [Stu.plainUpon_value, true_and]); rfl); go_simp; refine hK _ ?_; clear hK K)
            | (refine Stu.wpR_spg (by rfl) (by rfl) ?_ ?_ (fun W hW hF => ?_) (fun K v hv hK => ?_); (focus (first | (simp only [Region.wanted]; done) | (go_simp; done))); (focus (exact ⟨_, none, _, rfl, Nat.le_refl _⟩)); (go_simp; simp only [Stu.relUpon_enter]; exact decode_rel (by decide) (HQ.out W hW) L3.out hc10 hcm (by omega) HDS.out HM.out.symm _); (obtain ⟨A11, c11, rfl, hc11⟩ := hv); go_simp; refine hK _ ?_; clear hK K)
            | (refine Stu.wpR_spg (by rfl) (by rfl) ?_ ?_ (fun W hW hF => ?_) (fun K v hv hK => ?_); (focus (first | (simp only [Region.wanted]; done) | (go_simp; done))); (focus (exact ⟨_, rfl⟩)); (exact crv_str rfl rfl (hF 11 rfl) HBB.out _); (cases hv); go_simp; refine hK _ ?_; clear hK K))
          refine Stu.wpR_nil (fun W hW hU hF => ?_)
          have HB5 := Lib.hid (below_then HB4.out HB4.out.size (HBW.out W hW))
          clear hF hW hU HC HBW HQ
          go_wp2
          go_ret
          exact ⟨rfl, HB5.out⟩
        · rw [HDEC.out] at hd; cases hd
end Go.Proofs.YtgaccogekmaijaaDoor
