/- The reference reads letters: the walk. -/
import Derived.Test.YtgaccogekmaijaaDoorCoRi
namespace Go.Proofs.YtgaccogekmaijaaDoor
open Go.RowKit Go.Maps
set_option linter.unusedVariables false
set_option linter.unusedSimpArgs false
attribute [local irreducible] wpR relOp Stu.wpR Stu.relOp
set_option maxRecDepth 20000 in
set_option maxHeartbeats 80000000 in
theorem rdec_any (w : World) (A : Option Addr) (m c : Nat) (b : List UInt8) (hr : Rd w A b) (hm : b.length = m) (hc : m ≤ c) (hl : m ≤ 1000000) :
    Calls Tryd.prog 14 #[.slice A m c] w (Dec64 w b) := by
  have HM := Lib.hid hm.symm; have HR := Lib.hid hr
  clear hm hr
  go_enter Tryd.func14, Tryd.ntmps14
  go_wp2_with fail
  go_loopw [4, 5] (fun vs i wr => ∃ p : Nat, p ≤ m ∧ i = .int .i64 p ∧ Ob wr w.heap.size 5 vs ((b.take p).filter fun c => !CodeMath.blank c) ∧ ((b.take p).filter (fun c => !CodeMath.blank c) = [] → vs = .slice none 0 0) ∧ Below w.heap.size w wr) (fun _ i _ => m - (intOf i).toNat)
  case atStart => exact ⟨0, by omega, rfl, Ob.nil _ _ _, fun _ => rfl, Below.refl _ _⟩
  case round =>
    rename World => wL
    obtain ⟨p, hp, rfl, hob, hz, hb⟩ := hrel
    obtain ⟨A0, c00, hv0, hc00, _⟩ := hob.rd
    have hsl : ((b.take p).filter fun c => !CodeMath.blank c).length ≤ p := by
      have h1 := List.length_filter_le (fun c => !CodeMath.blank c) (b.take p)
      rw [List.length_take] at h1
      omega
    by_cases hlt : p < m
    · have hlti : (p : Int) < m := by omega
      have hwp : IntKind.i64.wrap ((p : Int) + 1) = ((p + 1 : Nat) : Int) := by rw [IntKind.wrap_i64]; omega
      have hpb : p < b.length := by rw [← HM.out]; exact hlt
      obtain ⟨a, rfl, x0⟩ := (HR.out.below hb).at_ p hpb
      have hsu : (b.take (p + 1)).filter (fun c => !CodeMath.blank c) = (b.take p).filter (fun c => !CodeMath.blank c) ++ if CodeMath.blank b[p] then [] else [b[p]] := by
        rw [List.take_add_one, List.getElem?_eq_getElem hpb, List.filter_append]
        cases e : CodeMath.blank b[p] <;> simp [e]
      have hbk : CodeMath.blank b[p] = (b[p] == 9 || b[p] == 10 || b[p] == 13 || b[p] == 32) := rfl
      generalize b[p] = y at *
      generalize (b.take p).filter (fun c => !CodeMath.blank c) = pre at *
      obtain ⟨np, hnp⟩ : ∃ np, np = pre.length := ⟨_, rfl⟩
      rw [← hnp] at hv0 hc00 hsl
      subst hv0
      have HSU := Lib.hid hsu; have HO := Lib.hid hob; have HZ := Lib.hid hz; have HB := Lib.hid hb; have HNP := Lib.hid hnp
      have hy := y.toNat_lt
      clear hsu hob hz hb hnp hpb
      by_cases y9 : y = 9
      · have k9 : ((y.toNat : Int) != 9) = false := by rw [y9]; rfl
        have HSU2 : Hid ((b.take (p + 1)).filter (fun c => !CodeMath.blank c) = pre) := Lib.hid (by rw [HSU.out, y9]; simp [CodeMath.blank])
        clear y9 hy
        go_wp2
        go_roundw
        case rel => exact ⟨p + 1, by omega, by go_num, by rw [HSU2.out]; exact HO.out, fun e => HZ.out (by rw [← HSU2.out]; exact e), HB.out⟩
        case measure => simp [intOf]; omega
      have k9 : ((y.toNat : Int) != 9) = true := u8_bne 9 rfl y9
      by_cases y10 : y = 10
      · have k10 : ((y.toNat : Int) != 10) = false := by rw [y10]; rfl
        clear y9
        have HSU2 : Hid ((b.take (p + 1)).filter (fun c => !CodeMath.blank c) = pre) := Lib.hid (by rw [HSU.out, y10]; simp [CodeMath.blank])
        clear y10 hy
        go_wp2
        go_roundw
        case rel => exact ⟨p + 1, by omega, by go_num, by rw [HSU2.out]; exact HO.out, fun e => HZ.out (by rw [← HSU2.out]; exact e), HB.out⟩
        case measure => simp [intOf]; omega
      have k10 : ((y.toNat : Int) != 10) = true := u8_bne 10 rfl y10
      by_cases y13 : y = 13
      · have k13 : ((y.toNat : Int) != 13) = false := by rw [y13]; rfl
        clear y9 y10
        have HSU2 : Hid ((b.take (p + 1)).filter (fun c => !CodeMath.blank c) = pre) := Lib.hid (by rw [HSU.out, y13]; simp [CodeMath.blank])
        clear y13 hy
        go_wp2
        go_roundw
        case rel => exact ⟨p + 1, by omega, by go_num, by rw [HSU2.out]; exact HO.out, fun e => HZ.out (by rw [← HSU2.out]; exact e), HB.out⟩
        case measure => simp [intOf]; omega
      have k13 : ((y.toNat : Int) != 13) = true := u8_bne 13 rfl y13
      by_cases y32 : y = 32
      · have k32 : ((y.toNat : Int) != 32) = false := by rw [y32]; rfl
        clear y9 y10 y13
        have HSU2 : Hid ((b.take (p + 1)).filter (fun c => !CodeMath.blank c) = pre) := Lib.hid (by rw [HSU.out, y32]; simp [CodeMath.blank])
        clear y32 hy
        go_wp2
        go_roundw
        case rel => exact ⟨p + 1, by omega, by go_num, by rw [HSU2.out]; exact HO.out, fun e => HZ.out (by rw [← HSU2.out]; exact e), HB.out⟩
        case measure => simp [intOf]; omega
      have k32 : ((y.toNat : Int) != 32) = true := u8_bne 32 rfl y32
      have HSU2 : Hid ((b.take (p + 1)).filter (fun c => !CodeMath.blank c) = pre ++ [y]) := Lib.hid (by rw [HSU.out, hbk]; simp [y9, y10, y13, y32])
      obtain ⟨A3, c3, W3, hrun3, ho3, hb3⟩ := app1_let HO.out HZ.out HB.out.size HNP.out.symm (by omega) y
      obtain ⟨W1, hW1⟩ : ∃ W1, W1 = wL.alloc (.cells #[.int .u8 (y.toNat : Int)] 5) := ⟨_, rfl⟩
      rw [← hW1] at hrun3
      have HRUN3 := Lib.hid hrun3; have HW1 := Lib.hid hW1; have HO3 := Lib.hid ho3
      have HB3 : Hid (Below w.heap.size w W3) := Lib.hid (HB.out.trans hb3)
      clear hrun3 hW1 ho3 hb3 hbk y9 y10 y13 y32
      go_wp2_with (at_builtin; rw [← HW1.out]; refine Lib.wpList_append_run _ rfl _ _ _ _ rfl _ _ rfl rfl _ _ HRUN3.out ?_)
      go_roundw
      case rel => exact ⟨p + 1, by omega, by go_num, by rw [HSU2.out]; exact HO3.out, fun e => by rw [HSU2.out] at e; simp at e, HB3.out⟩
      case measure => simp [intOf]; omega
    · have hlti : ¬ (p : Int) < m := by omega
      have hpm : p = m := by omega
      have htk : b.take p = b := by rw [hpm, HM.out, List.take_length]
      rw [htk] at hob hsl hz hv0 hc00
      clear htk
      have hdec := CodeMath.dec_decS b
      generalize b.filter (fun c => !CodeMath.blank c) = s at *
      obtain ⟨ns, hns⟩ : ∃ ns, ns = s.length := ⟨_, rfl⟩
      rw [← hns] at hv0 hc00 hsl hdec
      subst hv0
      have HNS := Lib.hid hns; have HDEC := Lib.hid hdec
      obtain ⟨As, cs, es, hcs, hrs⟩ := hob.rd
      rw [← hns] at es hcs
      injection es with es1 es2 es3
      subst es1; subst es3
      have HRS := Lib.hid hrs; have HB := Lib.hid hb
      clear hob hz hns hdec hrs hb HM HR hpm
      by_cases h4 : ns % 4 = 0
      · have h4i : (ns : Int) % 4 = 0 := by omega
        have h4t : Int.tmod (ns : Int) 4 = 0 := by rw [Int.tmod_eq_emod_of_nonneg (by omega)]; exact h4i
        have HD : Hid (CodeMath.dec b = CodeMath.decS s) := Lib.hid (by rw [HDEC.out, if_neg (by omega)])
        clear HDEC
        go_wp2_with fail
        refine (letters_fn wL).mono ?_
        rintro e wL ⟨rfl, rfl⟩
        go_wp2_with fail
        go_loopw [6, 8, 9, 10, 11, 12, 13, 14] (fun vo vi _ _ _ _ _ _ wr => ∃ (out : List UInt8) (i : Nat), vi = .int .i64 i ∧ i ≤ ns ∧ i % 4 = 0 ∧ CodeMath.decS s = (CodeMath.decS (s.drop i)).map (out ++ ·) ∧ Ob wr wL.heap.size 5 vo out ∧ (out = [] → vo = .slice none 0 0) ∧ Below wL.heap.size wL wr ∧ out.length ≤ i) (fun _ vi _ _ _ _ _ _ _ => ns - (intOf vi).toNat)
        case atStart => exact ⟨[], 0, rfl, Nat.zero_le _, rfl, by simp, Ob.nil _ _ _, fun _ => rfl, Below.refl _ _, Nat.le_refl _⟩
        case round =>
          rename World => w0
          obtain ⟨out, i, rfl, hin, hi4, hds, hob, hz, hb, hlen⟩ := hrel
          obtain ⟨no, hno⟩ : ∃ no, out.length = no := ⟨_, rfl⟩
          obtain ⟨Ao, co, rfl, hco⟩ := hob.shpn hno
          rw [hno] at hlen
          have HNO := Lib.hid hno; have HDS := Lib.hid hds; have HO := Lib.hid hob; have HZ := Lib.hid hz; have HBM := Lib.hid hb
          clear hno hds hob hz hb
          have hwi4 : IntKind.i64.wrap ((i : Int) + 4) = (i : Int) + 4 := by rw [IntKind.wrap_i64]; omega
          by_cases hlt2 : i < ns
          · have hlt2i : (i : Int) < ns := by omega
            have hi4n : i + 4 ≤ ns := by omega
            obtain ⟨q, hq⟩ : ∃ q, q = (s.drop i).take 4 := ⟨_, rfl⟩
            have hql : q.length = 4 := by rw [hq, List.length_take, List.length_drop, ← HNS.out]; omega
            obtain ⟨last, hla⟩ : ∃ last, last = decide ((s.drop i).length = 4) := ⟨_, rfl⟩
            have hst := CodeMath.decS_rgrp (s.drop i) (by rw [List.length_drop, ← HNS.out]; omega)
            rw [← hq, ← hla, List.drop_drop] at hst
            have hlb : ((i : Int) + 4 == (ns : Int)) = last := by
              rw [hla, Bool.eq_iff_iff, beq_iff_eq, decide_eq_true_eq, List.length_drop, ← HNS.out]
              omega
            have hqg : ∀ j, (h : j < 4) → q.getD j 0 = s[i + j]'(by rw [← HNS.out]; omega) := fun j h => by
              rw [hq, List.getD_eq_getElem?_getD, List.getElem?_take_of_lt h, List.getElem?_drop, List.getElem?_eq_getElem (by rw [← HNS.out]; omega)]
              rfl
            have HST := Lib.hid hst; have HQL := Lib.hid hql; have HQG := Lib.hid hqg
            have HFAIL : Hid (CodeMath.rst q last 4 = none → CodeMath.dec b = none) := Lib.hid (fun h => by
              rw [HD.out, HDS.out, HST.out]
              simp only [CodeMath.rgrp, h]
              rfl)
            clear hst hql hqg hq hla
            obtain ⟨a, rfl, _⟩ := HRS.out.2 (by rw [← HNS.out]; omega)
            go_wp2_with fail
            go_loopw [9, 10, 11, 12, 13] (fun v9 v10 v11 _ _ wz => ∃ j v p : Nat, j ≤ 4 ∧ v11 = .int .i64 j ∧ CodeMath.rst q last j = some (v, p) ∧ v9 = .int .u32 v ∧ v10 = .int .i64 p ∧ Below w0.heap.size w0 wz) (fun _ _ v11 _ _ _ => 4 - (intOf v11).toNat)
            case atStart => exact ⟨0, 0, 0, by omega, rfl, rfl, rfl, rfl, Below.refl _ _⟩
            case round =>
              rename World => wj
              obtain ⟨j, V, p, hj, rfl, hrst, rfl, rfl, hbj⟩ := hrel
              obtain ⟨hV, hp2⟩ := CodeMath.rst_bnd q last j V p hrst
              have HRST := Lib.hid hrst; have HBJ := Lib.hid hbj
              clear hrst hbj
              by_cases hj4 : j < 4
              · have hj4i : (j : Int) < 4 := by omega
                have hwj : IntKind.i64.wrap ((j : Int) + 1) = ((j + 1 : Nat) : Int) := by rw [IntKind.wrap_i64]; omega
                obtain ⟨z0, hz0⟩ : ∃ z0, z0 = i + j := ⟨_, rfl⟩
                have hij : (i : Int) + (j : Int) = (z0 : Int) := by omega
                have hwz0 : IntKind.i64.wrap (z0 : Int) = (z0 : Int) := by rw [IntKind.wrap_i64]; omega
                have hz0n : z0 < ns := by omega
                have hz0i : (z0 : Int) < ns := by omega
                obtain ⟨y, hy⟩ : ∃ y, y = q.getD j 0 := ⟨_, rfl⟩
                have hcell : ∀ W, Below wL.heap.size wL W → W.cell? (a.add z0) = some (.int .u8 (y.toNat : Int)) := fun W hW => by
                  obtain ⟨_, ea, h⟩ := (HRS.out.below hW).at_ z0 (by rw [← HNS.out]; exact hz0n)
                  obtain rfl := Option.some.inj ea
                  rw [h, hy, HQG.out j hj4]
                  simp only [hz0]
                have HCELL := Lib.hid hcell; have HY := Lib.hid hy
                have hy8 := y.toNat_lt
                have HZ0 := Lib.hid hz0
                clear hcell hy hz0
                have hstep := CodeMath.rst_step q last j V p HRST.out
                rw [← HY.out] at hstep
                have HSTEP := Lib.hid hstep
                clear hstep
                have hV3 : V < 262144 := by
                  have h1 : (64 : Nat) ^ j ≤ 64 ^ 3 := Nat.pow_le_pow_right (by decide) (by omega)
                  have h2 : (64 : Nat) ^ 3 = 262144 := by decide
                  omega
                go_wp2_with fail
                go_loopw [12, 13] (fun v12 v13 wz => ∃ z : Nat, z ≤ 64 ∧ v13 = .int .i64 z ∧ v12 = .int .i64 ((CodeMath.cF y z : Nat) : Int) ∧ Below w0.heap.size w0 wz) (fun _ v13 _ => 64 - (intOf v13).toNat)
                case atStart => exact ⟨0, by omega, rfl, rfl, HBJ.out⟩
                case round =>
                  clear HBJ
                  rename World => wq
                  obtain ⟨z, hz64, rfl, rfl, hbq⟩ := hrel
                  have HBQ := Lib.hid hbq
                  have HBQL : Hid (Below wL.heap.size wL wq) := Lib.hid (below_then HBM.out HBM.out.size hbq)
                  clear hbq
                  by_cases hz : z < 64
                  · have hzi : (z : Int) < 64 := by omega
                    have hwz : IntKind.i64.wrap ((z : Int) + 1) = ((z + 1 : Nat) : Int) := by rw [IntKind.wrap_i64]; omega
                    have pz := fun W => run_letters W z hz
                    have hcs : CodeMath.cF y (z + 1) = if CodeMath.letter z = y then z else CodeMath.cF y z := rfl
                    have HC : Hid (∀ W, CB wq.drew W → W.cell? (a.add z0) = some (.int .u8 (y.toNat : Int))) := Lib.hid fun W hW => HCELL.out W (below_then HBQL.out HBQL.out.size ((Below.drew (Below.refl _ wq)).trans hW))
                    have HBW : Hid (∀ W, CB wq.drew W → Below w0.heap.size w0 W) := Lib.hid fun W hW => below_then HBQ.out HBQ.out.size ((Below.drew (Below.refl _ wq)).trans hW)
                    obtain ⟨lz, hlz⟩ : ∃ lz, lz = CodeMath.letter z := ⟨_, rfl⟩
                    rw [← hlz] at pz hcs
                    have HCS := Lib.hid hcs
                    clear hcs hlz
                    go_wp2_with fail
                    refine Stu.wp_region_stu _ (Stu.mkT []) (fun _ => True) [] CB.refl (fun _ _ _ => CB.trans) (fun _ _ h => h) (fun _ _ _ _ => trivial) trivial (Stu.mkT_ks _ (by show List.Nodup []; decide) _ rfl) (by kernel_rfl) (by kernel_rfl) (by kernel_rfl) ?_
                    repeat (first
                      | (refine Stu.wpR_plain ?_ (by rfl) (by rfl) (fun K hK => ?_); (focus (first | (simp only [Region.wanted]; done) | (go_simp; done))); apply Exists.intro; refine ⟨fun W hW => ?_, ?_⟩; (go_simp; (try simp only [Stu.plainUpon_value, true_and]); rfl); go_simp; refine hK _ ?_; clear hK K)
                      | (refine Stu.wpR_plain ?_ (by rfl) (by rfl) (fun K hK => ?_); (focus (first | (simp only [Region.wanted]; done) | (go_simp; done))); apply Exists.intro; refine ⟨fun W hW => ?_, ?_⟩; (have hcw := HC.out W hW; go_simp; (try simp only [Stu.plainUpon_value, true_and]); rfl); go_simp; refine hK _ ?_; clear hK K))
                    refine Stu.wpR_nil (fun W hW hU hF => ?_)
                    have HBW2 := Lib.hid (HBW.out W hW)
                    clear hF hW hU HC HBW pz
                    by_cases hly : lz = y
                    · have hlyb : ((lz.toNat : Int) == (y.toNat : Int)) = true := by rw [hly]; simp
                      have HCF : Hid (CodeMath.cF y (z + 1) = z) := Lib.hid (by rw [HCS.out, if_pos hly])
                      clear hly
                      go_wp2
                      go_roundw
                      case rel => exact ⟨z + 1, by omega, by go_num, by rw [HCF.out], HBW2.out⟩
                      case measure => simp [intOf]; omega
                    · have hlyb : ((lz.toNat : Int) == (y.toNat : Int)) = false := by
                        rw [beq_eq_false_iff_ne]; intro h; exact hly (UInt8.toNat_inj.1 (by omega))
                      have HCF : Hid (CodeMath.cF y (z + 1) = CodeMath.cF y z) := Lib.hid (by rw [HCS.out, if_neg hly])
                      clear hly
                      go_wp2
                      go_roundw
                      case rel => exact ⟨z + 1, by omega, by go_num, by rw [HCF.out], HBW2.out⟩
                      case measure => simp [intOf]; omega
                  · have hz64' : z = 64 := by omega
                    rw [show CodeMath.cF y z = CodeMath.rc y by rw [hz64']; exact CodeMath.cF_rc y]
                    have HZ64 := Lib.hid hz64'
                    clear hz64'
                    have hrc := CodeMath.rc_le y
                    have x0 := HCELL.out wq HBQL.out
                    have hws : IntKind.u32.wrap ((V : Int) * 64) = (V : Int) * 64 := by rw [IntKind.wrap_u32]; omega
                    have HBF : Hid (Below w.heap.size w wq) := Lib.hid (below_then HB.out HB.out.size HBQL.out)
                    have hp0 : (0 : Int) ≤ p := by omega
                    by_cases hy61 : y = 61
                    · have k61 : ((y.toNat : Int) == 61) = true := u8_eq 61 rfl hy61
                      have hrc64 : CodeMath.rc y = 64 := by rw [hy61]; exact CodeMath.rc_61
                      rw [hrc64]
                      by_cases hla : last = true ∧ 2 ≤ j
                      · have hlat : ((i : Int) + 4 == (ns : Int)) = true := by rw [hlb, hla.1]
                        have hj2i : (2 : Int) ≤ j := by omega
                        have HRS2 : Hid (CodeMath.rst q last (j + 1) = some (V * 64, p + 1)) := Lib.hid (by rw [HSTEP.out, if_pos ⟨hy61, hla⟩])
                        have hwp1 : IntKind.i64.wrap ((p : Int) + 1) = ((p + 1 : Nat) : Int) := by rw [IntKind.wrap_i64]; omega
                        have hor : bits .or .u32 ((V : Int) * 64) 0 = ((V * 64 : Nat) : Int) := by
                          have := or_sixu V 0 hV3 (by decide)
                          simpa using this
                        clear hy61 hrc64 hla hrc hlb
                        go_wp2
                        go_roundw
                        case rel => exact ⟨j + 1, V * 64, p + 1, by omega, by go_num, HRS2.out, by first | rfl | go_num, by go_num, HBQ.out⟩
                        case measure => simp [intOf]; omega
                      · cases last with
                        | true =>
                          have hj2i : ¬ (2 : Int) ≤ j := fun h => hla ⟨rfl, by omega⟩
                          have HRN : Hid (CodeMath.dec b = none) := Lib.hid (HFAIL.out (CodeMath.rst_none q _ (j + 1) (by rw [HSTEP.out]; rw [if_neg (fun h => hla ⟨h.2.1, h.2.2⟩), if_pos (.inl hrc64)]) 4 (by omega)))
                          clear hla hy61 hrc64 hrc
                          go_wp2
                          go_ret2
                          exact ⟨HBF.out, .inr ⟨HRN.out, rfl⟩⟩
                        | false =>
                          have HRN : Hid (CodeMath.dec b = none) := Lib.hid (HFAIL.out (CodeMath.rst_none q _ (j + 1) (by rw [HSTEP.out]; rw [if_neg (fun h => hla ⟨h.2.1, h.2.2⟩), if_pos (.inl hrc64)]) 4 (by omega)))
                          clear hla hy61 hrc64 hrc
                          go_wp2
                          go_ret2
                          exact ⟨HBF.out, .inr ⟨HRN.out, rfl⟩⟩
                    · have k61 : ((y.toNat : Int) == 61) = false := u8_ne 61 rfl hy61
                      by_cases hrc64 : CodeMath.rc y = 64
                      · rw [hrc64]
                        have HRN : Hid (CodeMath.dec b = none) := Lib.hid (HFAIL.out (CodeMath.rst_none q _ (j + 1) (by rw [HSTEP.out]; rw [if_neg (fun h => hy61 h.1), if_pos (.inl hrc64)]) 4 (by omega)))
                        clear hy61 hrc64 hrc
                        go_wp2
                        go_ret2
                        exact ⟨HBF.out, .inr ⟨HRN.out, rfl⟩⟩
                      · by_cases hp00 : 0 < p
                        · have hp00i : (0 : Int) < p := by omega
                          have hrcb : (((CodeMath.rc y : Nat) : Int) == 64) = false := by rw [beq_eq_false_iff_ne]; omega
                          have HRN : Hid (CodeMath.dec b = none) := Lib.hid (HFAIL.out (CodeMath.rst_none q _ (j + 1) (by rw [HSTEP.out]; rw [if_neg (fun h => hy61 h.1), if_pos (.inr hp00)]) 4 (by omega)))
                          clear hy61 hrc64 hrc
                          go_wp2
                          go_ret2
                          exact ⟨HBF.out, .inr ⟨HRN.out, rfl⟩⟩
                        · have hp00i : ¬ (0 : Int) < p := by omega
                          have hrcb : (((CodeMath.rc y : Nat) : Int) == 64) = false := by rw [beq_eq_false_iff_ne]; omega
                          have HRS2 : Hid (CodeMath.rst q last (j + 1) = some (V * 64 + CodeMath.rc y, p)) := Lib.hid (by rw [HSTEP.out, if_neg (fun h => hy61 h.1), if_neg (by omega)])
                          have hrc63 : CodeMath.rc y < 64 := by omega
                          generalize CodeMath.rc y = R at *
                          have hor := or_sixu V R hV3 hrc63
                          have hwR : IntKind.u32.wrap (R : Int) = (R : Int) := by rw [IntKind.wrap_u32]; omega
                          clear hy61 hrc64 hrc hlb
                          go_wp2
                          go_roundw
                          case rel => exact ⟨j + 1, V * 64 + R, p, by omega, by go_num, HRS2.out, by first | rfl | go_num, by go_num, HBQ.out⟩
                          case measure => simp [intOf]; omega
              · have hj44 : j = 4 := by omega
                have hrg : CodeMath.rgrp q last = if (p = 1 ∧ V % 256 ≠ 0) ∨ (p = 2 ∧ V % 65536 ≠ 0) then none else some ((CodeMath.b3 V).take (3 - p)) := by
                  have h := HRST.out
                  rw [hj44] at h
                  simp only [CodeMath.rgrp, h]
                have HRG := Lib.hid hrg
                have hV4 : V < 16777216 := by
                  rw [hj44] at hV
                  have h2 : (64 : Nat) ^ 4 = 16777216 := by decide
                  omega
                have hj4i : ¬ (j : Int) < 4 := by omega
                have hp22 : p ≤ 2 := by omega
                have HBL : Hid (Below wL.heap.size wL wj) := Lib.hid (below_then HBM.out HBM.out.size HBJ.out)
                have HBF : Hid (Below w.heap.size w wj) := Lib.hid (below_then HB.out HB.out.size HBL.out)
                have HOJ : Hid (Ob wj wL.heap.size 5 (.slice Ao no co) out) := Lib.hid (HO.out.below HBJ.out)
                have m1 := and255u (V : Int)
                have m2 := and65535u (V : Int)
                have hw3p : IntKind.i64.wrap (3 - (p : Int)) = 3 - (p : Int) := by rw [IntKind.wrap_i64]; omega
                have HJ4 := Lib.hid hj44
                clear hrg hV hj44 HBJ hlb HRST
                by_cases p1 : p = 1
                · have kp1 : ((p : Int) == 1) = true := by rw [p1]; rfl
                  have kp2 : ((p : Int) == 2) = false := by rw [p1]; rfl
                  by_cases v1 : V % 256 = 0
                  · have kv1 : ((V : Int) % 256 != 0) = false := by rw [bne_eq_false_iff_eq]; omega
                    have HN : Hid (¬ ((p = 1 ∧ V % 256 ≠ 0) ∨ (p = 2 ∧ V % 65536 ≠ 0))) := Lib.hid (by omega)
                    clear p1 v1
                    have HX : Hid (CodeMath.decS s = (CodeMath.decS (s.drop (i + 4))).map ((out ++ (CodeMath.b3 V).take (3 - p)) ++ ·)) := Lib.hid (by
                      rw [HDS.out, HST.out, HRG.out, if_neg (HN.out)]
                      simp only [Option.map_map]
                      congr 1
                      funext x
                      simp)
                    clear HRG
                    go_wp2_with fail
                    go_loopw [6, 14] (fun vo v14 wz => ∃ k2 : Nat, k2 ≤ 3 - p ∧ v14 = .int .i64 k2 ∧ Ob wz wL.heap.size 5 vo (out ++ (CodeMath.b3 V).take k2) ∧ (out ++ (CodeMath.b3 V).take k2 = [] → vo = .slice none 0 0) ∧ Below wL.heap.size wL wz) (fun _ v14 _ => 3 - (intOf v14).toNat)
                    case atStart => exact ⟨0, by omega, rfl, by simpa using HOJ.out, fun e => HZ.out (by simpa using e), HBL.out⟩
                    case round =>
                      clear HOJ HBL
                      rename World => wk
                      obtain ⟨k2, hk2, rfl, hobk, hzk, hbk⟩ := hrel
                      obtain ⟨out2, he2⟩ : ∃ out2, out2 = out ++ (CodeMath.b3 V).take k2 := ⟨_, rfl⟩
                      rw [← he2] at hobk hzk
                      obtain ⟨no2, hno2⟩ : ∃ no2, out2.length = no2 := ⟨_, rfl⟩
                      obtain ⟨A2, c2, rfl, hc2⟩ := hobk.shpn hno2
                      have hb3l : ((CodeMath.b3 V).take k2).length = k2 := by
                        rw [List.length_take, show (CodeMath.b3 V).length = 3 from rfl]; omega
                      have hno29 : no2 = no + k2 := by rw [← hno2, he2, List.length_append, hb3l, HNO.out]
                      have HE2 := Lib.hid he2; have HOK := Lib.hid hobk; have HZK := Lib.hid hzk; have HBK := Lib.hid hbk; have HLK := Lib.hid hno2
                      have HN2 := Lib.hid hno29
                      have hno2b : no2 ≤ 4000000 := by omega
                      clear he2 hobk hzk hbk hno2 hb3l hno29
                      by_cases hk23 : k2 < 3 - p
                      · have hk23i : (k2 : Int) < 3 - (p : Int) := by omega
                        have hk3 : k2 = 0 ∨ k2 = 1 ∨ k2 = 2 := by omega
                        rcases hk3 with rfl | rfl | rfl
                        ·
                          obtain ⟨A3, c3, W3, hrun3, ho3, hb3⟩ := app1_let HOK.out HZK.out HBK.out.size HLK.out (by omega) (UInt8.ofNat (V / 65536))
                          obtain ⟨W1, hW1⟩ : ∃ W1, W1 = wk.alloc (.cells #[.int .u8 ((UInt8.ofNat (V / 65536)).toNat : Int)] 5) := ⟨_, rfl⟩
                          rw [← hW1] at hrun3
                          have hu8 : IntKind.u8.wrap ((V : Int) / 65536) = ((UInt8.ofNat (V / 65536)).toNat : Int) := by rw [← u8_of]; first | done | rfl | (congr 1; omega)
                          have HRUN3 := Lib.hid hrun3; have HW1 := Lib.hid hW1; have HO3 := Lib.hid ho3
                          have HB3 : Hid (Below wL.heap.size wL W3) := Lib.hid (HBK.out.trans hb3)
                          have HE3 : Hid (out2 ++ [UInt8.ofNat (V / 65536)] = out ++ (CodeMath.b3 V).take (1)) := Lib.hid (by rw [HE2.out]; simp [CodeMath.b3])
                          clear hrun3 hW1 ho3 hb3
                          generalize (UInt8.ofNat (V / 65536)) = ux at *
                          go_wp2_with (at_builtin; rw [← HW1.out]; refine Lib.wpList_append_run _ rfl _ _ _ _ rfl _ _ rfl rfl _ _ HRUN3.out ?_)
                          go_roundw
                          case rel => exact ⟨1, by omega, by go_num, by rw [← HE3.out]; exact HO3.out, fun e => (by rw [← HE3.out] at e; simp at e), HB3.out⟩
                          case measure => ((simp [intOf]); (try omega))
                        ·
                          obtain ⟨A3, c3, W3, hrun3, ho3, hb3⟩ := app1_let HOK.out HZK.out HBK.out.size HLK.out (by omega) (UInt8.ofNat (V / 256))
                          obtain ⟨W1, hW1⟩ : ∃ W1, W1 = wk.alloc (.cells #[.int .u8 ((UInt8.ofNat (V / 256)).toNat : Int)] 5) := ⟨_, rfl⟩
                          rw [← hW1] at hrun3
                          have hu8 : IntKind.u8.wrap ((V : Int) / 256) = ((UInt8.ofNat (V / 256)).toNat : Int) := by rw [← u8_of]; first | done | rfl | (congr 1; omega)
                          have HRUN3 := Lib.hid hrun3; have HW1 := Lib.hid hW1; have HO3 := Lib.hid ho3
                          have HB3 : Hid (Below wL.heap.size wL W3) := Lib.hid (HBK.out.trans hb3)
                          have HE3 : Hid (out2 ++ [UInt8.ofNat (V / 256)] = out ++ (CodeMath.b3 V).take (2)) := Lib.hid (by rw [HE2.out]; simp [CodeMath.b3])
                          clear hrun3 hW1 ho3 hb3
                          generalize (UInt8.ofNat (V / 256)) = ux at *
                          go_wp2_with (at_builtin; rw [← HW1.out]; refine Lib.wpList_append_run _ rfl _ _ _ _ rfl _ _ rfl rfl _ _ HRUN3.out ?_)
                          go_roundw
                          case rel => exact ⟨2, by omega, by go_num, by rw [← HE3.out]; exact HO3.out, fun e => (by rw [← HE3.out] at e; simp at e), HB3.out⟩
                          case measure => ((simp [intOf]); (try omega))
                        ·
                          obtain ⟨A3, c3, W3, hrun3, ho3, hb3⟩ := app1_let HOK.out HZK.out HBK.out.size HLK.out (by omega) (UInt8.ofNat (V))
                          obtain ⟨W1, hW1⟩ : ∃ W1, W1 = wk.alloc (.cells #[.int .u8 ((UInt8.ofNat (V)).toNat : Int)] 5) := ⟨_, rfl⟩
                          rw [← hW1] at hrun3
                          have hu8 : IntKind.u8.wrap ((V : Int)) = ((UInt8.ofNat (V)).toNat : Int) := by rw [← u8_of]; first | done | rfl | (congr 1; omega)
                          have HRUN3 := Lib.hid hrun3; have HW1 := Lib.hid hW1; have HO3 := Lib.hid ho3
                          have HB3 : Hid (Below wL.heap.size wL W3) := Lib.hid (HBK.out.trans hb3)
                          have HE3 : Hid (out2 ++ [UInt8.ofNat (V)] = out ++ (CodeMath.b3 V).take (3)) := Lib.hid (by rw [HE2.out]; simp [CodeMath.b3])
                          clear hrun3 hW1 ho3 hb3
                          generalize (UInt8.ofNat (V)) = ux at *
                          go_wp2_with (at_builtin; rw [← HW1.out]; refine Lib.wpList_append_run _ rfl _ _ _ _ rfl _ _ rfl rfl _ _ HRUN3.out ?_)
                          go_roundw
                          case rel => exact ⟨3, by omega, by go_num, by rw [← HE3.out]; exact HO3.out, fun e => (by rw [← HE3.out] at e; simp at e), HB3.out⟩
                          case measure => ((simp [intOf]); (try omega))
                      · have hk23i : ¬ (k2 : Int) < 3 - (p : Int) := by omega
                        have hk2e : k2 = 3 - p := by omega
                        have HE4 : Hid (out2 = out ++ (CodeMath.b3 V).take (3 - p)) := Lib.hid (by rw [HE2.out, hk2e])
                        clear hk2e
                        go_wp2
                        go_roundw
                        case rel => exact ⟨out2, i + 4, by go_num, by omega, by omega, by rw [HE4.out]; exact HX.out, HOK.out, HZK.out, HBK.out, by rw [HLK.out, HN2.out]; omega⟩
                        case measure => simp [intOf]; omega
                  · have kv1 : ((V : Int) % 256 != 0) = true := by rw [bne_iff_ne]; omega
                    have HP : Hid ((p = 1 ∧ V % 256 ≠ 0) ∨ (p = 2 ∧ V % 65536 ≠ 0)) := Lib.hid (by omega)
                    clear p1 v1
                    have HRN : Hid (CodeMath.dec b = none) := Lib.hid (by rw [HD.out, HDS.out, HST.out, HRG.out, if_pos (HP.out)]; rfl)
                    clear HRG
                    go_wp2
                    go_ret2
                    exact ⟨HBF.out, .inr ⟨HRN.out, rfl⟩⟩
                · have kp1 : ((p : Int) == 1) = false := by rw [beq_eq_false_iff_ne]; omega
                  by_cases p2 : p = 2
                  · have kp2 : ((p : Int) == 2) = true := by rw [p2]; rfl
                    by_cases v1 : V % 65536 = 0
                    · have kv1 : ((V : Int) % 65536 != 0) = false := by rw [bne_eq_false_iff_eq]; omega
                      have HN : Hid (¬ ((p = 1 ∧ V % 256 ≠ 0) ∨ (p = 2 ∧ V % 65536 ≠ 0))) := Lib.hid (by omega)
                      clear p1 p2 v1
                      have HX : Hid (CodeMath.decS s = (CodeMath.decS (s.drop (i + 4))).map ((out ++ (CodeMath.b3 V).take (3 - p)) ++ ·)) := Lib.hid (by
                        rw [HDS.out, HST.out, HRG.out, if_neg (HN.out)]
                        simp only [Option.map_map]
                        congr 1
                        funext x
                        simp)
                      clear HRG
                      go_wp2_with fail
                      go_loopw [6, 14] (fun vo v14 wz => ∃ k2 : Nat, k2 ≤ 3 - p ∧ v14 = .int .i64 k2 ∧ Ob wz wL.heap.size 5 vo (out ++ (CodeMath.b3 V).take k2) ∧ (out ++ (CodeMath.b3 V).take k2 = [] → vo = .slice none 0 0) ∧ Below wL.heap.size wL wz) (fun _ v14 _ => 3 - (intOf v14).toNat)
                      case atStart => exact ⟨0, by omega, rfl, by simpa using HOJ.out, fun e => HZ.out (by simpa using e), HBL.out⟩
                      case round =>
                        clear HOJ HBL
                        rename World => wk
                        obtain ⟨k2, hk2, rfl, hobk, hzk, hbk⟩ := hrel
                        obtain ⟨out2, he2⟩ : ∃ out2, out2 = out ++ (CodeMath.b3 V).take k2 := ⟨_, rfl⟩
                        rw [← he2] at hobk hzk
                        obtain ⟨no2, hno2⟩ : ∃ no2, out2.length = no2 := ⟨_, rfl⟩
                        obtain ⟨A2, c2, rfl, hc2⟩ := hobk.shpn hno2
                        have hb3l : ((CodeMath.b3 V).take k2).length = k2 := by
                          rw [List.length_take, show (CodeMath.b3 V).length = 3 from rfl]; omega
                        have hno29 : no2 = no + k2 := by rw [← hno2, he2, List.length_append, hb3l, HNO.out]
                        have HE2 := Lib.hid he2; have HOK := Lib.hid hobk; have HZK := Lib.hid hzk; have HBK := Lib.hid hbk; have HLK := Lib.hid hno2
                        have HN2 := Lib.hid hno29
                        have hno2b : no2 ≤ 4000000 := by omega
                        clear he2 hobk hzk hbk hno2 hb3l hno29
                        by_cases hk23 : k2 < 3 - p
                        · have hk23i : (k2 : Int) < 3 - (p : Int) := by omega
                          have hk3 : k2 = 0 ∨ k2 = 1 ∨ k2 = 2 := by omega
                          rcases hk3 with rfl | rfl | rfl
                          ·
                            obtain ⟨A3, c3, W3, hrun3, ho3, hb3⟩ := app1_let HOK.out HZK.out HBK.out.size HLK.out (by omega) (UInt8.ofNat (V / 65536))
                            obtain ⟨W1, hW1⟩ : ∃ W1, W1 = wk.alloc (.cells #[.int .u8 ((UInt8.ofNat (V / 65536)).toNat : Int)] 5) := ⟨_, rfl⟩
                            rw [← hW1] at hrun3
                            have hu8 : IntKind.u8.wrap ((V : Int) / 65536) = ((UInt8.ofNat (V / 65536)).toNat : Int) := by rw [← u8_of]; first | done | rfl | (congr 1; omega)
                            have HRUN3 := Lib.hid hrun3; have HW1 := Lib.hid hW1; have HO3 := Lib.hid ho3
                            have HB3 : Hid (Below wL.heap.size wL W3) := Lib.hid (HBK.out.trans hb3)
                            have HE3 : Hid (out2 ++ [UInt8.ofNat (V / 65536)] = out ++ (CodeMath.b3 V).take (1)) := Lib.hid (by rw [HE2.out]; simp [CodeMath.b3])
                            clear hrun3 hW1 ho3 hb3
                            generalize (UInt8.ofNat (V / 65536)) = ux at *
                            go_wp2_with (at_builtin; rw [← HW1.out]; refine Lib.wpList_append_run _ rfl _ _ _ _ rfl _ _ rfl rfl _ _ HRUN3.out ?_)
                            go_roundw
                            case rel => exact ⟨1, by omega, by go_num, by rw [← HE3.out]; exact HO3.out, fun e => (by rw [← HE3.out] at e; simp at e), HB3.out⟩
                            case measure => ((simp [intOf]); (try omega))
                          ·
                            obtain ⟨A3, c3, W3, hrun3, ho3, hb3⟩ := app1_let HOK.out HZK.out HBK.out.size HLK.out (by omega) (UInt8.ofNat (V / 256))
                            obtain ⟨W1, hW1⟩ : ∃ W1, W1 = wk.alloc (.cells #[.int .u8 ((UInt8.ofNat (V / 256)).toNat : Int)] 5) := ⟨_, rfl⟩
                            rw [← hW1] at hrun3
                            have hu8 : IntKind.u8.wrap ((V : Int) / 256) = ((UInt8.ofNat (V / 256)).toNat : Int) := by rw [← u8_of]; first | done | rfl | (congr 1; omega)
                            have HRUN3 := Lib.hid hrun3; have HW1 := Lib.hid hW1; have HO3 := Lib.hid ho3
                            have HB3 : Hid (Below wL.heap.size wL W3) := Lib.hid (HBK.out.trans hb3)
                            have HE3 : Hid (out2 ++ [UInt8.ofNat (V / 256)] = out ++ (CodeMath.b3 V).take (2)) := Lib.hid (by rw [HE2.out]; simp [CodeMath.b3])
                            clear hrun3 hW1 ho3 hb3
                            generalize (UInt8.ofNat (V / 256)) = ux at *
                            go_wp2_with (at_builtin; rw [← HW1.out]; refine Lib.wpList_append_run _ rfl _ _ _ _ rfl _ _ rfl rfl _ _ HRUN3.out ?_)
                            go_roundw
                            case rel => exact ⟨2, by omega, by go_num, by rw [← HE3.out]; exact HO3.out, fun e => (by rw [← HE3.out] at e; simp at e), HB3.out⟩
                            case measure => ((simp [intOf]); (try omega))
                          ·
                            obtain ⟨A3, c3, W3, hrun3, ho3, hb3⟩ := app1_let HOK.out HZK.out HBK.out.size HLK.out (by omega) (UInt8.ofNat (V))
                            obtain ⟨W1, hW1⟩ : ∃ W1, W1 = wk.alloc (.cells #[.int .u8 ((UInt8.ofNat (V)).toNat : Int)] 5) := ⟨_, rfl⟩
                            rw [← hW1] at hrun3
                            have hu8 : IntKind.u8.wrap ((V : Int)) = ((UInt8.ofNat (V)).toNat : Int) := by rw [← u8_of]; first | done | rfl | (congr 1; omega)
                            have HRUN3 := Lib.hid hrun3; have HW1 := Lib.hid hW1; have HO3 := Lib.hid ho3
                            have HB3 : Hid (Below wL.heap.size wL W3) := Lib.hid (HBK.out.trans hb3)
                            have HE3 : Hid (out2 ++ [UInt8.ofNat (V)] = out ++ (CodeMath.b3 V).take (3)) := Lib.hid (by rw [HE2.out]; simp [CodeMath.b3])
                            clear hrun3 hW1 ho3 hb3
                            generalize (UInt8.ofNat (V)) = ux at *
                            go_wp2_with (at_builtin; rw [← HW1.out]; refine Lib.wpList_append_run _ rfl _ _ _ _ rfl _ _ rfl rfl _ _ HRUN3.out ?_)
                            go_roundw
                            case rel => exact ⟨3, by omega, by go_num, by rw [← HE3.out]; exact HO3.out, fun e => (by rw [← HE3.out] at e; simp at e), HB3.out⟩
                            case measure => ((simp [intOf]); (try omega))
                        · have hk23i : ¬ (k2 : Int) < 3 - (p : Int) := by omega
                          have hk2e : k2 = 3 - p := by omega
                          have HE4 : Hid (out2 = out ++ (CodeMath.b3 V).take (3 - p)) := Lib.hid (by rw [HE2.out, hk2e])
                          clear hk2e
                          go_wp2
                          go_roundw
                          case rel => exact ⟨out2, i + 4, by go_num, by omega, by omega, by rw [HE4.out]; exact HX.out, HOK.out, HZK.out, HBK.out, by rw [HLK.out, HN2.out]; omega⟩
                          case measure => simp [intOf]; omega
                    · have kv1 : ((V : Int) % 65536 != 0) = true := by rw [bne_iff_ne]; omega
                      have HP : Hid ((p = 1 ∧ V % 256 ≠ 0) ∨ (p = 2 ∧ V % 65536 ≠ 0)) := Lib.hid (by omega)
                      clear p1 p2 v1
                      have HRN : Hid (CodeMath.dec b = none) := Lib.hid (by rw [HD.out, HDS.out, HST.out, HRG.out, if_pos (HP.out)]; rfl)
                      clear HRG
                      go_wp2
                      go_ret2
                      exact ⟨HBF.out, .inr ⟨HRN.out, rfl⟩⟩
                  · have kp2 : ((p : Int) == 2) = false := by rw [beq_eq_false_iff_ne]; omega
                    have HN : Hid (¬ ((p = 1 ∧ V % 256 ≠ 0) ∨ (p = 2 ∧ V % 65536 ≠ 0))) := Lib.hid (by omega)
                    clear p1 p2
                    have HX : Hid (CodeMath.decS s = (CodeMath.decS (s.drop (i + 4))).map ((out ++ (CodeMath.b3 V).take (3 - p)) ++ ·)) := Lib.hid (by
                      rw [HDS.out, HST.out, HRG.out, if_neg (HN.out)]
                      simp only [Option.map_map]
                      congr 1
                      funext x
                      simp)
                    clear HRG
                    go_wp2_with fail
                    go_loopw [6, 14] (fun vo v14 wz => ∃ k2 : Nat, k2 ≤ 3 - p ∧ v14 = .int .i64 k2 ∧ Ob wz wL.heap.size 5 vo (out ++ (CodeMath.b3 V).take k2) ∧ (out ++ (CodeMath.b3 V).take k2 = [] → vo = .slice none 0 0) ∧ Below wL.heap.size wL wz) (fun _ v14 _ => 3 - (intOf v14).toNat)
                    case atStart => exact ⟨0, by omega, rfl, by simpa using HOJ.out, fun e => HZ.out (by simpa using e), HBL.out⟩
                    case round =>
                      clear HOJ HBL
                      rename World => wk
                      obtain ⟨k2, hk2, rfl, hobk, hzk, hbk⟩ := hrel
                      obtain ⟨out2, he2⟩ : ∃ out2, out2 = out ++ (CodeMath.b3 V).take k2 := ⟨_, rfl⟩
                      rw [← he2] at hobk hzk
                      obtain ⟨no2, hno2⟩ : ∃ no2, out2.length = no2 := ⟨_, rfl⟩
                      obtain ⟨A2, c2, rfl, hc2⟩ := hobk.shpn hno2
                      have hb3l : ((CodeMath.b3 V).take k2).length = k2 := by
                        rw [List.length_take, show (CodeMath.b3 V).length = 3 from rfl]; omega
                      have hno29 : no2 = no + k2 := by rw [← hno2, he2, List.length_append, hb3l, HNO.out]
                      have HE2 := Lib.hid he2; have HOK := Lib.hid hobk; have HZK := Lib.hid hzk; have HBK := Lib.hid hbk; have HLK := Lib.hid hno2
                      have HN2 := Lib.hid hno29
                      have hno2b : no2 ≤ 4000000 := by omega
                      clear he2 hobk hzk hbk hno2 hb3l hno29
                      by_cases hk23 : k2 < 3 - p
                      · have hk23i : (k2 : Int) < 3 - (p : Int) := by omega
                        have hk3 : k2 = 0 ∨ k2 = 1 ∨ k2 = 2 := by omega
                        rcases hk3 with rfl | rfl | rfl
                        ·
                          obtain ⟨A3, c3, W3, hrun3, ho3, hb3⟩ := app1_let HOK.out HZK.out HBK.out.size HLK.out (by omega) (UInt8.ofNat (V / 65536))
                          obtain ⟨W1, hW1⟩ : ∃ W1, W1 = wk.alloc (.cells #[.int .u8 ((UInt8.ofNat (V / 65536)).toNat : Int)] 5) := ⟨_, rfl⟩
                          rw [← hW1] at hrun3
                          have hu8 : IntKind.u8.wrap ((V : Int) / 65536) = ((UInt8.ofNat (V / 65536)).toNat : Int) := by rw [← u8_of]; first | done | rfl | (congr 1; omega)
                          have HRUN3 := Lib.hid hrun3; have HW1 := Lib.hid hW1; have HO3 := Lib.hid ho3
                          have HB3 : Hid (Below wL.heap.size wL W3) := Lib.hid (HBK.out.trans hb3)
                          have HE3 : Hid (out2 ++ [UInt8.ofNat (V / 65536)] = out ++ (CodeMath.b3 V).take (1)) := Lib.hid (by rw [HE2.out]; simp [CodeMath.b3])
                          clear hrun3 hW1 ho3 hb3
                          generalize (UInt8.ofNat (V / 65536)) = ux at *
                          go_wp2_with (at_builtin; rw [← HW1.out]; refine Lib.wpList_append_run _ rfl _ _ _ _ rfl _ _ rfl rfl _ _ HRUN3.out ?_)
                          go_roundw
                          case rel => exact ⟨1, by omega, by go_num, by rw [← HE3.out]; exact HO3.out, fun e => (by rw [← HE3.out] at e; simp at e), HB3.out⟩
                          case measure => ((simp [intOf]); (try omega))
                        ·
                          obtain ⟨A3, c3, W3, hrun3, ho3, hb3⟩ := app1_let HOK.out HZK.out HBK.out.size HLK.out (by omega) (UInt8.ofNat (V / 256))
                          obtain ⟨W1, hW1⟩ : ∃ W1, W1 = wk.alloc (.cells #[.int .u8 ((UInt8.ofNat (V / 256)).toNat : Int)] 5) := ⟨_, rfl⟩
                          rw [← hW1] at hrun3
                          have hu8 : IntKind.u8.wrap ((V : Int) / 256) = ((UInt8.ofNat (V / 256)).toNat : Int) := by rw [← u8_of]; first | done | rfl | (congr 1; omega)
                          have HRUN3 := Lib.hid hrun3; have HW1 := Lib.hid hW1; have HO3 := Lib.hid ho3
                          have HB3 : Hid (Below wL.heap.size wL W3) := Lib.hid (HBK.out.trans hb3)
                          have HE3 : Hid (out2 ++ [UInt8.ofNat (V / 256)] = out ++ (CodeMath.b3 V).take (2)) := Lib.hid (by rw [HE2.out]; simp [CodeMath.b3])
                          clear hrun3 hW1 ho3 hb3
                          generalize (UInt8.ofNat (V / 256)) = ux at *
                          go_wp2_with (at_builtin; rw [← HW1.out]; refine Lib.wpList_append_run _ rfl _ _ _ _ rfl _ _ rfl rfl _ _ HRUN3.out ?_)
                          go_roundw
                          case rel => exact ⟨2, by omega, by go_num, by rw [← HE3.out]; exact HO3.out, fun e => (by rw [← HE3.out] at e; simp at e), HB3.out⟩
                          case measure => ((simp [intOf]); (try omega))
                        ·
                          obtain ⟨A3, c3, W3, hrun3, ho3, hb3⟩ := app1_let HOK.out HZK.out HBK.out.size HLK.out (by omega) (UInt8.ofNat (V))
                          obtain ⟨W1, hW1⟩ : ∃ W1, W1 = wk.alloc (.cells #[.int .u8 ((UInt8.ofNat (V)).toNat : Int)] 5) := ⟨_, rfl⟩
                          rw [← hW1] at hrun3
                          have hu8 : IntKind.u8.wrap ((V : Int)) = ((UInt8.ofNat (V)).toNat : Int) := by rw [← u8_of]; first | done | rfl | (congr 1; omega)
                          have HRUN3 := Lib.hid hrun3; have HW1 := Lib.hid hW1; have HO3 := Lib.hid ho3
                          have HB3 : Hid (Below wL.heap.size wL W3) := Lib.hid (HBK.out.trans hb3)
                          have HE3 : Hid (out2 ++ [UInt8.ofNat (V)] = out ++ (CodeMath.b3 V).take (3)) := Lib.hid (by rw [HE2.out]; simp [CodeMath.b3])
                          clear hrun3 hW1 ho3 hb3
                          generalize (UInt8.ofNat (V)) = ux at *
                          go_wp2_with (at_builtin; rw [← HW1.out]; refine Lib.wpList_append_run _ rfl _ _ _ _ rfl _ _ rfl rfl _ _ HRUN3.out ?_)
                          go_roundw
                          case rel => exact ⟨3, by omega, by go_num, by rw [← HE3.out]; exact HO3.out, fun e => (by rw [← HE3.out] at e; simp at e), HB3.out⟩
                          case measure => ((simp [intOf]); (try omega))
                      · have hk23i : ¬ (k2 : Int) < 3 - (p : Int) := by omega
                        have hk2e : k2 = 3 - p := by omega
                        have HE4 : Hid (out2 = out ++ (CodeMath.b3 V).take (3 - p)) := Lib.hid (by rw [HE2.out, hk2e])
                        clear hk2e
                        go_wp2
                        go_roundw
                        case rel => exact ⟨out2, i + 4, by go_num, by omega, by omega, by rw [HE4.out]; exact HX.out, HOK.out, HZK.out, HBK.out, by rw [HLK.out, HN2.out]; omega⟩
                        case measure => simp [intOf]; omega
          · have hlt2i : ¬ (i : Int) < ns := by omega
            have hnil : s.drop i = [] := List.drop_eq_nil_of_le (by rw [← HNS.out]; omega)
            have HRES : Hid (CodeMath.dec b = some out) := Lib.hid (by rw [HD.out, HDS.out, hnil, CodeMath.decS_nil]; simp)
            have HBF : Hid (Below w.heap.size w w0) := Lib.hid (below_then HB.out HB.out.size HBM.out)
            have HOF : Hid (Ob w0 w.heap.size 5 (.slice Ao no co) out) := Lib.hid (by
              obtain ⟨e1, e2⟩ := HO.out
              exact ⟨e1, e2.imp_right fun ⟨g, cap, cur, q1, q2, q3⟩ => ⟨g, cap, cur, q1, Nat.le_trans HB.out.size q2, q3⟩⟩)
            clear hnil
            go_wp2
            go_ret2
            exact ⟨HBF.out, .inl ⟨out, _, HRES.out, rfl, HOF.out⟩⟩
      · have h4i : ¬ (ns : Int) % 4 = 0 := by omega
        have h4t : ¬ Int.tmod (ns : Int) 4 = 0 := by rw [Int.tmod_eq_emod_of_nonneg (by omega)]; exact h4i
        have h4b : (Int.tmod (ns : Int) 4 != 0) = true := by rw [bne_iff_ne]; exact h4t
        have HD : Hid (CodeMath.dec b = none) := Lib.hid (by rw [HDEC.out, if_pos h4])
        clear HDEC
        go_wp2
        go_ret2
        exact ⟨HB.out, .inr ⟨HD.out, rfl⟩⟩
end Go.Proofs.YtgaccogekmaijaaDoor
