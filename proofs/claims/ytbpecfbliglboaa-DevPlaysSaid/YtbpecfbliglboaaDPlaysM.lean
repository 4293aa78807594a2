/- DevPlays: the walk of the law. -/
import Derived.Test.YtbpecfbliglboaaDPm
import Derived.Deep.RegionLaw
import Derived.Deep.CutRange
namespace Go.Proofs.Ytbpecfbliglboaa
open Go.RowKit Go.Maps
set_option linter.unusedVariables false
set_option linter.unusedSimpArgs false
attribute [local irreducible] wpR relOp
theorem results_tmp1 {fn : Func} {u : Tmp} (h : fn.results = #[.tmp u]) (tmps : Array Value) (P : Program) (w : World) : (results fn tmps).run P w = .ok (tmps.getD u undef) w := by
  simp only [results, h]
  simp
set_option maxRecDepth 1000000 in
set_option maxHeartbeats 4000000 in
theorem DevPlays_ok (A : Option Addr) (c : Nat) (acts : List ActD) (n : Nat) (w : World) (hA : Row KAct 5 w A acts) (hc : acts.length ≤ c) (hm : acts.length ≤ 60) (hn1 : 1 ≤ n) (hn2 : n ≤ 20) :
    Calls Try.prog 7 #[.int .i64 n, .slice A acts.length c] w fun e w' => e = .returned (.bool true) ∧ Below w.heap.size w w' := by
  obtain ⟨m, hmm⟩ : ∃ m, m = acts.length := ⟨_, rfl⟩
  rw [← hmm] at hc hm ⊢
  have HM := Lib.hid hmm
  have HA := Lib.hid hA
  clear hmm hA
  have hmi : ¬ (60 : Int) < m := by omega
  have hni : ¬ (20 : Int) < n := by omega
  have hni2 : ¬ (n : Int) < 1 := by omega
  have hni3 : ¬ (8192 : Int) < n := by omega
  go_enter Try.func7, Try.ntmps7
  go_wp2_with fail
  refine (awake4_any _).mono ?_
  rintro e w1 ⟨rfl, hb1⟩
  have HB1 := Lib.hid hb1
  clear hb1
  go_wp2_with fail
  refine (ds_new w1 n hn1 (by omega)).mono ?_
  rintro e w2 ⟨g, rfl, hd2, hb2⟩
  have HD2 := Lib.hid hd2
  have hcon := Lib.hid (p_new w1 w2 n hn1 (by omega) hb2)
  clear hd2 hb2
  go_wp2_with fail
  refine hcon.out.mono ?_
  rintro e w3 ⟨rfl, h3⟩
  obtain ⟨vs, hp3⟩ := h3 _ _ HD2.out
  obtain ⟨r, hr⟩ : ∃ r, r = w2.heap.size := ⟨_, rfl⟩
  obtain ⟨B, hBB⟩ : ∃ B, B = w1.heap.size := ⟨_, rfl⟩
  rw [← hr] at hp3 ⊢
  rw [← hBB] at hp3
  have hA1 := acts_below HA.out HB1.out
  have HP := Lib.hid hp3; have HBB := Lib.hid hBB.symm; have HA1 := Lib.hid hA1
  have hB : w1.heap.size ≤ B := by omega
  clear hp3 h3 hcon HD2 hr hBB hA1 HA
  go_wp2_with fail
  cases A with
  | none =>
    have hm0 : m = 0 := by
      have hmm := HM.out
      by_cases h : 0 < acts.length
      · obtain ⟨a, h1, _⟩ := HA1.out h
        cases h1
      · omega
    subst hm0
    rename World => wA0
    go_loopw [8] (fun i wr => i = .int .i64 0 ∧ P2 w1 wr B g r vs (2 * 0) (DevMath.Dev.new n) (DevMath.Dev.new n)) (fun i _ => 0)
    case atStart => exact ⟨rfl, HP.out⟩
    case round =>
      obtain ⟨rfl, hst⟩ := hrel
      obtain ⟨k, hk0⟩ : ∃ k, k = 0 := ⟨_, rfl⟩
      obtain ⟨d, hd⟩ : ∃ d, d = DevMath.Dev.new n := ⟨_, rfl⟩
      rw [← hd] at hst
      have HS : Hid (P2 w1 wr B g r vs (2 * k) d d) := Lib.hid (by rw [hk0]; exact hst)
      have hk60 : k ≤ 60 := by omega
      clear hst hd hk0 HP
      have hcon := Lib.hid (p_on HS.out)
      go_wp2_with fail
      refine hcon.out.mono ?_
      rintro e wa ⟨rfl, hpa, -⟩
      have hcon2 := Lib.hid (q_on hpa)
      clear hpa hcon
      go_wp2_with fail
      refine hcon2.out.mono ?_
      rintro e wb ⟨rfl, hpb, -⟩
      obtain ⟨dd, hdd⟩ : ∃ dd, dd = ({ d with off := false } : DevMath.Dev) := ⟨_, rfl⟩
      rw [← hdd] at hpb
      have HPb := Lib.hid hpb
      clear hpb hdd hcon2 HS
      go_wp2_with fail
      rename World => wB
      go_loopw [15] (fun i wr => ∃ p : Nat, p ≤ n ∧ i = .int .i64 p ∧ P2 w1 wr B g r vs (2 * k + 1 + 1) dd dd) (fun i _ => n - (intOf i).toNat)
      case atStart => exact ⟨0, by omega, rfl, HPb.out⟩
      case round =>
        rename World => wL
        obtain ⟨p, hp, rfl, hpp⟩ := hrel
        clear HPb
        by_cases hlt2 : p < n
        · have hltI : (p : Int) < n := by omega
          have hwp : IntKind.i64.wrap ((p : Int) + 1) = ((p + 1 : Nat) : Int) := by rw [IntKind.wrap_i64]; omega
          have hwf : (Lit.int .i64 (p : Int)).wf = true := by simp [Lit.wf, IntKind.min, IntKind.max, IntKind.signed, IntKind.bits]; omega
          have hcon := Lib.hid (p_read hpp (by omega) p hwf)
          clear hpp hwf
          go_wp2_with fail
          refine hcon.out.mono ?_
          rintro e w7 ⟨v1, rfl, hs1, hp2, hb2⟩
          have hcon2 := Lib.hid (q_read hp2 (by omega) p)
          obtain ⟨A1, c1, rfl, hc1, hr1⟩ := hs1.rd
          have HS1 := Lib.hid hs1
          obtain ⟨n1, hn1⟩ : ∃ n1, n1 = ((dd.read p).1.getD []).length := ⟨_, rfl⟩
          rw [← hn1] at HS1 hc1 ⊢
          have HN1 := Lib.hid hn1
          clear hb2 hp2 hs1 hr1 hn1 hcon
          go_wp2_with fail
          refine hcon2.out.mono ?_
          rintro e w8 ⟨v2, rfl, hs2, hp3, hb3⟩
          obtain ⟨A2, c2, rfl, hc2, hr2⟩ := hs2.rd
          have hs1 := HS1.out.below hb3
          rw [← HN1.out] at hs2 hc2 ⊢
          have k1 := hs1.str
          have k2 := hs2.str
          have HPd := Lib.hid hp3
          clear hcon2 hs1 hs2 hr2 hb3 HS1 HN1 hp3
          generalize (dd.read p).2 = e2 at *
          generalize (dd.read p).1.getD [] = l at *
          go_wp2
          go_roundw
          case rel => exact ⟨p + 1, by omega, by go_num, HPd.out⟩
          case measure => simp [intOf]; omega
        · have hltI : ¬ (p : Int) < n := by omega
          have HBe := Lib.hid (below_then HB1.out HB1.out.size (by rw [HBB.out]; exact hpp.a.bel))
          clear hpp
          go_wp2
          go_ret
          exact ⟨rfl, HBe.out⟩
  | some A =>
    have HAA := Lib.hid HA1.out
    refine wp_loop (DI w1 A n m c B g r vs) (dpMu m) ?_ ?_
    · refine ⟨rfl, rfl, 0, _, ?_, by omega, rfl, HP.out⟩
      unfold dpN
      simp only [List.forall_mem_cons, List.not_mem_nil, false_implies, implies_true, and_true]
      exact ⟨rfl, rfl, rfl, rfl, rfl⟩
    · intro a' w' hI
      refine dp_round w1 A n m c B g r vs acts HAA.out HM.out hm hc hB _ ?_ ?_ a' w' hI
      · intro a1 wz h4 hd hb
        (try simp only [Exit.inBlock, Exit.then])
        refine bodyPost_ret_by (by rw [results_tmp1 rfl, h4]) hd ?_
        exact ⟨rfl, below_then HB1.out HB1.out.size hb⟩
      · intro a1 W hI1
        rename ∀ (a : Act) (w : World), _ → _ => hKK
        obtain ⟨hd, hsz, k, d, hnm, hkm, hns, hst⟩ := hI1
        obtain ⟨tm, df⟩ := a1
        simp only at hd hsz hnm
        subst hd
        have he := frame_eq (dpN n m c g r A k) tm 240 hsz hnm
        generalize (fun i => tm.getD i undef) = f at he
        rw [frame_lit] at he
        subst he
        have HS := Lib.hid hst
        have hk60 : k ≤ 60 := by omega
        clear hsz hnm hst hI HP HAA HA1 hns
        (try simp only [Exit.inBlock, Exit.then])
        refine hKK _ _ ?_
        have hcon := Lib.hid (p_on HS.out)
        go_wp2_with fail
        refine hcon.out.mono ?_
        rintro e wa ⟨rfl, hpa, -⟩
        have hcon2 := Lib.hid (q_on hpa)
        clear hpa hcon
        go_wp2_with fail
        refine hcon2.out.mono ?_
        rintro e wb ⟨rfl, hpb, -⟩
        obtain ⟨dd, hdd⟩ : ∃ dd, dd = ({ d with off := false } : DevMath.Dev) := ⟨_, rfl⟩
        rw [← hdd] at hpb
        have HPb := Lib.hid hpb
        clear hpb hdd hcon2 HS
        go_wp2_with fail
        rename World => wB
        go_loopw [15] (fun i wr => ∃ p : Nat, p ≤ n ∧ i = .int .i64 p ∧ P2 w1 wr B g r vs (2 * k + 1 + 1) dd dd) (fun i _ => n - (intOf i).toNat)
        case atStart => exact ⟨0, by omega, rfl, HPb.out⟩
        case round =>
          rename World => wL
          obtain ⟨p, hp, rfl, hpp⟩ := hrel
          clear HPb
          by_cases hlt2 : p < n
          · have hltI : (p : Int) < n := by omega
            have hwp : IntKind.i64.wrap ((p : Int) + 1) = ((p + 1 : Nat) : Int) := by rw [IntKind.wrap_i64]; omega
            have hwf : (Lit.int .i64 (p : Int)).wf = true := by simp [Lit.wf, IntKind.min, IntKind.max, IntKind.signed, IntKind.bits]; omega
            have hcon := Lib.hid (p_read hpp (by omega) p hwf)
            clear hpp hwf
            go_wp2_with fail
            refine hcon.out.mono ?_
            rintro e w7 ⟨v1, rfl, hs1, hp2, hb2⟩
            have hcon2 := Lib.hid (q_read hp2 (by omega) p)
            obtain ⟨A1, c1, rfl, hc1, hr1⟩ := hs1.rd
            have HS1 := Lib.hid hs1
            obtain ⟨n1, hn1⟩ : ∃ n1, n1 = ((dd.read p).1.getD []).length := ⟨_, rfl⟩
            rw [← hn1] at HS1 hc1 ⊢
            have HN1 := Lib.hid hn1
            clear hb2 hp2 hs1 hr1 hn1 hcon
            go_wp2_with fail
            refine hcon2.out.mono ?_
            rintro e w8 ⟨v2, rfl, hs2, hp3, hb3⟩
            obtain ⟨A2, c2, rfl, hc2, hr2⟩ := hs2.rd
            have hs1 := HS1.out.below hb3
            rw [← HN1.out] at hs2 hc2 ⊢
            have k1 := hs1.str
            have k2 := hs2.str
            have HPd := Lib.hid hp3
            clear hcon2 hs1 hs2 hr2 hb3 HS1 HN1 hp3
            generalize (dd.read p).2 = e2 at *
            generalize (dd.read p).1.getD [] = l at *
            go_wp2
            go_roundw
            case rel => exact ⟨p + 1, by omega, by go_num, HPd.out⟩
            case measure => simp [intOf]; omega
          · have hltI : ¬ (p : Int) < n := by omega
            have HBe := Lib.hid (below_then HB1.out HB1.out.size (by rw [HBB.out]; exact hpp.a.bel))
            clear hpp
            go_wp2
            go_ret
            exact ⟨rfl, HBe.out⟩
set_option maxRecDepth 1000000 in
theorem DevPlays_walk (n : Int) (A : Option Addr) (c : Nat) (acts : List ActD) (w : World) (wf : (Lit.int .i64 n).wf = true) (hr : Row KAct 5 w A acts) (hc : acts.length ≤ c) (hl : acts.length * 56 ≤ 140737488351232) :
    Calls Try.prog 7 #[.int .i64 n, .slice A acts.length c] w fun e w' => e = .returned (.bool true) ∧ Below w.heap.size w w' := by
  by_cases hbad : n < 1 ∨ 8192 < n
  · clear hr wf
    generalize acts.length = m at *
    go_enter Try.func7, Try.ntmps7
    go_wp2_with fail
    refine (awake4_any _).mono ?_
    rintro e w1 ⟨rfl, hb1⟩
    have HB1 := Lib.hid hb1
    clear hb1
    go_wp2_with fail
    refine (new_bad w1 n hbad).mono ?_
    rintro e w2 ⟨rfl, rfl⟩
    by_cases h1 : n < 1
    · clear hbad
      go_wp2
      go_ret
      exact ⟨rfl, HB1.out⟩
    · have h2 : 8192 < n := by omega
      clear hbad
      go_wp2
      go_ret
      exact ⟨rfl, HB1.out⟩
  · obtain ⟨q, rfl⟩ := Int.eq_ofNat_of_zero_le (show 0 ≤ n by omega)
    have hq1 : 1 ≤ q := by omega
    have hq2 : q ≤ 8192 := by omega
    by_cases hok : acts.length ≤ 60 ∧ q ≤ 20
    · exact DevPlays_ok A c acts q w hr hc hok.1 hq1 hok.2
    · clear hr wf hbad
      generalize acts.length = m at *
      have hni2 : ¬ (q : Int) < 1 := by omega
      have hni3 : ¬ (8192 : Int) < q := by omega
      go_enter Try.func7, Try.ntmps7
      go_wp2_with fail
      refine (awake4_any _).mono ?_
      rintro e w1 ⟨rfl, hb1⟩
      have HB1 := Lib.hid hb1
      clear hb1
      go_wp2_with fail
      refine (ds_new w1 q hq1 hq2).mono ?_
      rintro e w2 ⟨g, rfl, -, hb2⟩
      have HB2 := Lib.hid (below_then HB1.out HB1.out.size hb2)
      clear hb2
      by_cases h60 : m ≤ 60
      · have h1 : ¬ (60 : Int) < m := by omega
        have h2 : (20 : Int) < q := by omega
        clear hok
        go_wp2
        go_ret
        exact ⟨rfl, HB2.out⟩
      · have h1 : (60 : Int) < m := by omega
        clear hok
        go_wp2
        go_ret
        exact ⟨rfl, HB2.out⟩
end Go.Proofs.Ytbpecfbliglboaa
