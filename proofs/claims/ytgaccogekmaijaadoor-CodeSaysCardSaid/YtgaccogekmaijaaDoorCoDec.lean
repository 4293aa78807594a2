/- Base 64 read. -/
import Derived.Test.YtgaccogekmaijaaDoorCoLib
namespace CodeMath
def decS (s : List UInt8) : Option (List UInt8) := decF (s.length + 1) s
theorem decS_nil : decS [] = some [] := by simp [decS, decF]
theorem decF_succ (f : Nat) (s : List UInt8) : decF (f + 1) s = if s = [] then some [] else
    if (kOf (s.take 4) < 3 ∧ 4 < s.length) ∨ grp ((b3 (quad (s.take 4))).take (kOf (s.take 4))) ≠ s.take 4 then none
    else (decF f (s.drop 4)).map ((b3 (quad (s.take 4))).take (kOf (s.take 4)) ++ ·) := rfl
theorem decS_step (s : List UInt8) (h : s ≠ []) : decS s = if (kOf (s.take 4) < 3 ∧ 4 < s.length) ∨ grp ((b3 (quad (s.take 4))).take (kOf (s.take 4))) ≠ s.take 4 then none else (decS (s.drop 4)).map ((b3 (quad (s.take 4))).take (kOf (s.take 4)) ++ ·) := by
  have h0 : 0 < s.length := List.length_pos_iff.2 h
  unfold decS
  rw [decF_succ, if_neg h, decF_mono s.length ((s.drop 4).length + 1) (s.drop 4) (by rw [List.length_drop]; omega) (by omega)]
theorem dec_decS (b : List UInt8) : dec b = if (b.filter fun c => !blank c).length % 4 ≠ 0 then none else decS (b.filter fun c => !blank c) := by
  unfold dec decS
  have := List.length_filter_le (fun c => !blank c) b
  rw [decF_mono (b.length + 1) ((b.filter fun c => !blank c).length + 1) _ (by omega) (by omega)]
def qv (q : List UInt8) : Nat → Nat
  | 0 => 0
  | j + 1 => qv q j * 64 + val0 (q.getD j 0)
def kp (q : List UInt8) (j : Nat) : Nat := ((q.take j).filter fun c => !(c == 61)).length
theorem qv4 (q : List UInt8) : qv q 4 = quad q := by simp [qv, quad]
theorem kp4 (q : List UInt8) (h : q.length = 4) : kp q 4 = nPad q := by unfold kp nPad; rw [List.take_of_length_le (by omega)]
theorem valOf_lt (c : UInt8) : val0 c < 64 := by
  unfold val0 valOf
  cases e : (List.range 64).find? fun n => letter n == c with
  | none => decide
  | some n =>
    have := List.mem_of_find?_eq_some e
    rw [List.mem_range] at this
    exact this
theorem qv_lt (q : List UInt8) : ∀ j, qv q j < 64 ^ j
  | 0 => by simp [qv]
  | j + 1 => by
    have h1 := qv_lt q j
    have h2 := valOf_lt (q.getD j 0)
    simp only [qv, Nat.pow_succ]
    omega
end CodeMath
namespace Go.Proofs.YtgaccogekmaijaaDoor
open Go.RowKit Go.Maps
set_option linter.unusedVariables false
set_option linter.unusedSimpArgs false
attribute [local irreducible] wpR relOp Stu.wpR Stu.relOp
theorem or_six (n m : Nat) (h : n < 16777216) (hm : m < 64) : bits .or .i64 ((n : Int) * 64) (m : Int) = ((n * 64 + m : Nat) : Int) := by
  rw [bits_join .i64 63 (by decide) (fun n h0 h1 => by rw [IntKind.wrap_i64]; omega) 6 _ _ (by omega) (by omega) (by omega) (by omega) (by omega) (by omega)]
  simp
theorem b3_bv (Q : Nat) (h : Q < 16777216) : bv (CodeMath.b3 Q) = #[.int .u8 ((Q : Int) / 65536), .int .u8 ((Q : Int) / 256 % 256), .int .u8 ((Q : Int) % 256)] := by
  have e : ∀ n : Nat, ((UInt8.ofNat n).toNat : Int) = (n : Int) % 256 := fun n => by
    rw [UInt8.toNat_ofNat']
    omega
  show #[Value.int .u8 ((UInt8.ofNat (Q / 65536)).toNat : Int), Value.int .u8 ((UInt8.ofNat (Q / 256)).toNat : Int), Value.int .u8 ((UInt8.ofNat Q).toNat : Int)] = _
  rw [e, e, e]
  have e1 : ((Q / 65536 : Nat) : Int) % 256 = (Q : Int) / 65536 := by omega
  have e2 : ((Q / 256 : Nat) : Int) % 256 = (Q : Int) / 256 % 256 := by omega
  rw [e1, e2]
theorem Sl.rd' {w : World} {A : Option Addr} {n c : Nat} {l : List UInt8} (h : Sl w (.slice A n c) l) : Rd w A l := by
  obtain ⟨A', c', e, _, h2⟩ := h.rd
  injection e with e1
  subst e1
  exact h2
def Dec64 (w : World) (b : List UInt8) (e : Ending) (w' : World) : Prop := Below w.heap.size w w' ∧
  ((∃ l v, CodeMath.dec b = some l ∧ e = .returned (.tuple #[v, .int .i64 0]) ∧ Ob w' w.heap.size 5 v l) ∨
   (CodeMath.dec b = none ∧ e = .returned (.tuple #[.slice none 0 0, .int .i64 3])))
set_option maxRecDepth 20000 in
set_option maxHeartbeats 20000000 in
theorem dec64_any (w : World) (A : Option Addr) (c : Nat) (b : List UInt8) (hr : Rd w A b) (hc : b.length ≤ c) (hl : b.length ≤ 1000000) :
    Calls Tryd.prog 10 #[.slice A b.length c] w (Dec64 w b) := by
  obtain ⟨m, hm⟩ : ∃ m, m = b.length := ⟨_, rfl⟩
  rw [← hm] at hc hl ⊢
  have HM := Lib.hid hm; have HR := Lib.hid hr
  clear hm hr
  go_enter Tryd.func10, Tryd.ntmps10
  go_wp2_with fail
  go_loopw [4, 6, 16] (fun vs _ i wr => ∃ p : Nat, p ≤ m ∧ i = .int .i64 p ∧ Ob wr w.heap.size 5 vs ((b.take p).filter fun c => !CodeMath.blank c) ∧ ((b.take p).filter (fun c => !CodeMath.blank c) = [] → vs = .slice none 0 0) ∧ Below w.heap.size w wr) (fun _ _ i _ => m - (intOf i).toNat)
  case atStart => exact ⟨0, by omega, rfl, Ob.nil _ _ _, fun _ => rfl, Below.refl _ _⟩
  case round =>
    rename World => wL
    obtain ⟨p, hp, rfl, hob, hz, hb⟩ := hrel
    obtain ⟨A0, c00, hv0, hc00, _⟩ := hob.rd
    have hsl : ((b.take p).filter fun c => !CodeMath.blank c).length ≤ p := by
      have h1 := List.length_filter_le (fun c => !CodeMath.blank c) (b.take p)
      rw [List.length_take] at h1
      omega
    by_cases hlt : p < m
    · have hlti : (p : Int) < m := by omega
      have hwp : IntKind.i64.wrap ((p : Int) + 1) = ((p + 1 : Nat) : Int) := by rw [IntKind.wrap_i64]; omega
      have hpb : p < b.length := by rw [← HM.out]; exact hlt
      obtain ⟨a, rfl, x0⟩ := (HR.out.below hb).at_ p hpb
      have hsu : (b.take (p + 1)).filter (fun c => !CodeMath.blank c) = (b.take p).filter (fun c => !CodeMath.blank c) ++ if CodeMath.blank b[p] then [] else [b[p]] := by
        rw [List.take_add_one, List.getElem?_eq_getElem hpb, List.filter_append]
        cases e : CodeMath.blank b[p] <;> simp [e]
      have hbk : CodeMath.blank b[p] = (b[p] == 9 || b[p] == 10 || b[p] == 13 || b[p] == 32) := rfl
      generalize b[p] = y at *
      generalize (b.take p).filter (fun c => !CodeMath.blank c) = pre at *
      obtain ⟨np, hnp⟩ : ∃ np, np = pre.length := ⟨_, rfl⟩
      rw [← hnp] at hv0 hc00 hsl
      subst hv0
      have HSU := Lib.hid hsu; have HO := Lib.hid hob; have HZ := Lib.hid hz; have HB := Lib.hid hb; have HNP := Lib.hid hnp
      have hy := y.toNat_lt
      have ht : ∀ n : UInt8, ((y.toNat : Int) = (n.toNat : Int)) ↔ y = n := fun n => by
        constructor
        · intro h; exact UInt8.toNat_inj.1 (by omega)
        · intro h; rw [h]
      clear hsu hob hz hb hnp hpb
      by_cases y9 : y = 9
      · subst y9
        have HSU2 : Hid ((b.take (p + 1)).filter (fun c => !CodeMath.blank c) = pre) := Lib.hid (by rw [HSU.out]; simp [CodeMath.blank])
        replace x0 : wL.cell? (a.add p) = some (.int .u8 9) := x0
        clear HSU hbk ht hy
        go_wp2
        go_roundw
        case rel => exact ⟨p + 1, by omega, by go_num, by rw [HSU2.out]; exact HO.out, by rw [HSU2.out]; exact HZ.out, HB.out⟩
        case measure => simp [intOf]; omega
      by_cases y10 : y = 10
      · subst y10
        have HSU2 : Hid ((b.take (p + 1)).filter (fun c => !CodeMath.blank c) = pre) := Lib.hid (by rw [HSU.out]; simp [CodeMath.blank])
        replace x0 : wL.cell? (a.add p) = some (.int .u8 10) := x0
        clear HSU hbk ht hy
        go_wp2
        go_roundw
        case rel => exact ⟨p + 1, by omega, by go_num, by rw [HSU2.out]; exact HO.out, by rw [HSU2.out]; exact HZ.out, HB.out⟩
        case measure => simp [intOf]; omega
      by_cases y13 : y = 13
      · subst y13
        have HSU2 : Hid ((b.take (p + 1)).filter (fun c => !CodeMath.blank c) = pre) := Lib.hid (by rw [HSU.out]; simp [CodeMath.blank])
        replace x0 : wL.cell? (a.add p) = some (.int .u8 13) := x0
        clear HSU hbk ht hy
        go_wp2
        go_roundw
        case rel => exact ⟨p + 1, by omega, by go_num, by rw [HSU2.out]; exact HO.out, by rw [HSU2.out]; exact HZ.out, HB.out⟩
        case measure => simp [intOf]; omega
      by_cases y32 : y = 32
      · subst y32
        have HSU2 : Hid ((b.take (p + 1)).filter (fun c => !CodeMath.blank c) = pre) := Lib.hid (by rw [HSU.out]; simp [CodeMath.blank])
        replace x0 : wL.cell? (a.add p) = some (.int .u8 32) := x0
        clear HSU hbk ht hy
        go_wp2
        go_roundw
        case rel => exact ⟨p + 1, by omega, by go_num, by rw [HSU2.out]; exact HO.out, by rw [HSU2.out]; exact HZ.out, HB.out⟩
        case measure => simp [intOf]; omega
      have i9 : ¬ (y.toNat : Int) = 9 := fun h => y9 ((ht 9).1 h)
      have i10 : ¬ (y.toNat : Int) = 10 := fun h => y10 ((ht 10).1 h)
      have i13 : ¬ (y.toNat : Int) = 13 := fun h => y13 ((ht 13).1 h)
      have i32 : ¬ (y.toNat : Int) = 32 := fun h => y32 ((ht 32).1 h)
      have j9 : ((y.toNat : Int) == 9) = false := by rw [beq_eq_false_iff_ne]; exact i9
      have k9 : ((y.toNat : Int) != 9) = true := by rw [bne_iff_ne]; exact i9
      have j10 : ((y.toNat : Int) == 10) = false := by rw [beq_eq_false_iff_ne]; exact i10
      have k10 : ((y.toNat : Int) != 10) = true := by rw [bne_iff_ne]; exact i10
      have j13 : ((y.toNat : Int) == 13) = false := by rw [beq_eq_false_iff_ne]; exact i13
      have k13 : ((y.toNat : Int) != 13) = true := by rw [bne_iff_ne]; exact i13
      have j32 : ((y.toNat : Int) == 32) = false := by rw [beq_eq_false_iff_ne]; exact i32
      have k32 : ((y.toNat : Int) != 32) = true := by rw [bne_iff_ne]; exact i32
      have HSU2 : Hid ((b.take (p + 1)).filter (fun c => !CodeMath.blank c) = pre ++ [y]) := Lib.hid (by rw [HSU.out, hbk]; simp [y9, y10, y13, y32])
      obtain ⟨W1, hW1⟩ : ∃ W1, W1 = wL.alloc (.cells #[.int .u8 (y.toNat : Int)] 5) := ⟨_, rfl⟩
      have hbA : Below wL.heap.size wL W1 := by rw [hW1]; exact (Below.refl _ wL).alloc (Nat.le_refl _) _
      obtain ⟨v2, W2, hrun, ho2, hts⟩ := appb_run (m := 1) (c := 1) (HO.out.below hbA) HZ.out (Rd.of_block (l := [y]) (show W1.heap[wL.heap.size]? = _ by rw [hW1]; exact heap_new wL _ _ rfl) (by simp)) rfl (Nat.le_trans HB.out.size hbA.size) (by rw [← HNP.out]; simp; omega)
      have HO2 := Lib.hid ho2; have HRUN := Lib.hid hrun; have HW1 := Lib.hid hW1
      have HB2 : Hid (Below w.heap.size w W2) := Lib.hid ((below_then HB.out HB.out.size hbA).trans hts.1)
      clear HSU hbk ht hy hW1 hbA hrun ho2 hts y9 y10 y13 y32
      go_wp2_with (at_builtin; rw [← HW1.out]; refine Lib.wpList_append_run _ rfl _ _ _ _ rfl _ _ rfl rfl _ _ HRUN.out ?_)
      go_roundw
      case rel => exact ⟨p + 1, by omega, by go_num, by rw [HSU2.out]; exact HO2.out, fun e => by rw [HSU2.out] at e; simp at e, HB2.out⟩
      case measure => simp [intOf]; omega
    · have hlti : ¬ (p : Int) < m := by omega
      have hpm : p = m := by omega
      have htk : b.take p = b := by rw [hpm, HM.out, List.take_length]
      rw [htk] at hob hsl hz hv0 hc00
      clear htk
      have hdec := CodeMath.dec_decS b
      generalize b.filter (fun c => !CodeMath.blank c) = s at *
      obtain ⟨ns, hns⟩ : ∃ ns, ns = s.length := ⟨_, rfl⟩
      rw [← hns] at hv0 hc00 hsl hdec
      subst hv0
      have HNS := Lib.hid hns; have HDEC := Lib.hid hdec
      have hrs := hob.rd
      obtain ⟨As, cs, es, hcs, hrs⟩ := hrs
      rw [← hns] at es hcs
      injection es with es1 es2 es3
      subst es1; subst es3
      have HRS := Lib.hid hrs; have HB := Lib.hid hb
      clear hob hz hns hdec hrs hb HM HR hpm
      by_cases h4 : ns % 4 = 0
      · have h4i : (ns : Int) % 4 = 0 := by omega
        have h4t : Int.tmod (ns : Int) 4 = 0 := by rw [Int.tmod_eq_emod_of_nonneg (by omega)]; exact h4i
        have HD : Hid (CodeMath.dec b = CodeMath.decS s) := Lib.hid (by rw [HDEC.out, if_neg (by omega)])
        clear HDEC
        go_wp2_with fail
        go_loopw [4, 7, 8, 9, 11, 12, 13] (fun vs vo _ _ _ _ _ wr => ∃ (out r : List UInt8) (Ar : Option Addr) (cr : Nat), vs = .slice Ar r.length cr ∧ r.length ≤ cr ∧ r.length % 4 = 0 ∧ (∀ W, Below wL.heap.size wL W → Rd W Ar r) ∧ CodeMath.decS s = (CodeMath.decS r).map (out ++ ·) ∧ Ob wr wL.heap.size 5 vo out ∧ (out = [] → vo = .slice none 0 0) ∧ Below wL.heap.size wL wr ∧ out.length + r.length ≤ ns) (fun vs _ _ _ _ _ _ _ => lenV2 vs)
        case atStart => exact ⟨[], s, A0, c00, by rw [HNS.out], by rw [← HNS.out]; exact hcs, by rw [← HNS.out]; exact h4, fun W hW => HRS.out.below hW, by simp, Ob.nil _ _ _, fun _ => rfl, Below.refl _ _, by rw [HNS.out]; simp⟩
        case round =>
          rename World => wM
          obtain ⟨out, r, Ar, cr, rfl, hcr, hr4, hrd, hds, hob, hz, hb, hlen⟩ := hrel
          obtain ⟨nr, hnr⟩ : ∃ nr, nr = r.length := ⟨_, rfl⟩
          obtain ⟨no, hno⟩ : ∃ no, no = out.length := ⟨_, rfl⟩
          obtain ⟨Ao, co, hvo, hco, _⟩ := hob.rd
          rw [← hno] at hvo hco
          subst hvo
          rw [← hnr] at hcr hr4 hlen ⊢
          rw [← hno] at hlen
          have HNR := Lib.hid hnr; have HNO := Lib.hid hno; have HRD := Lib.hid hrd; have HDS := Lib.hid hds; have HO := Lib.hid hob; have HZ := Lib.hid hz; have HBM := Lib.hid hb
          clear hnr hno hrd hds hob hz hb
          by_cases h0 : nr = 0
          · subst h0
            have hr0 : r = [] := List.eq_nil_of_length_eq_zero HNR.out.symm
            have HRES : Hid (CodeMath.dec b = some out) := Lib.hid (by rw [HD.out, HDS.out, hr0, CodeMath.decS_nil]; simp)
            have HBF : Hid (Below w.heap.size w wM) := Lib.hid (below_then HB.out HB.out.size HBM.out)
            have HOF : Hid (Ob wM w.heap.size 5 (.slice Ao no co) out) := Lib.hid (by
              obtain ⟨e1, e2⟩ := HO.out
              exact ⟨e1, e2.imp_right fun ⟨g, cap, cur, q1, q2, q3⟩ => ⟨g, cap, cur, q1, Nat.le_trans HB.out.size q2, q3⟩⟩)
            clear hr0
            go_wp2
            go_ret2
            exact ⟨HBF.out, .inl ⟨out, _, HRES.out, rfl, HOF.out⟩⟩
          · have hn4 : 4 ≤ nr := by omega
            have hn4i : (4 : Int) ≤ nr := by omega
            have hn0d : decide (0 < nr) = true := decide_eq_true (by omega)
            have hc4 : 4 ≤ cr := by omega
            have hc4i : (4 : Int) ≤ cr := by omega
            have hrne : r ≠ [] := fun e => by have := HNR.out; rw [e] at this; simp at this; omega
            have hst := CodeMath.decS_step r hrne
            obtain ⟨a, rfl, hat⟩ := (HRD.out wM HBM.out).2 (by rw [← HNR.out]; omega)
            obtain ⟨q, hq⟩ : ∃ q, q = r.take 4 := ⟨_, rfl⟩
            rw [← hq] at hst
            have hql : q.length = 4 := by rw [hq, List.length_take, ← HNR.out]; omega
            have hqat : ∀ j, (h : j < 4) → wM.cell? (a.add j) = some (.int .u8 ((q.getD j 0).toNat : Int)) := fun j h => by
              have h1 := hat j (by rw [← HNR.out]; omega)
              have e : q.getD j 0 = r[j]'(by rw [← HNR.out]; omega) := by
                rw [hq, List.getD_eq_getElem?_getD, List.getElem?_take_of_lt h, List.getElem?_eq_getElem (by rw [← HNR.out]; omega)]
                rfl
              rw [e]; exact h1
            have HST := Lib.hid hst; have HQL := Lib.hid hql; have HQ := Lib.hid hq; have HQA := Lib.hid hqat
            clear hst hql hq hqat hat
            go_wp2_with fail
            go_loopw [8, 9, 11, 12, 51] (fun n k _ _ i wr => ∃ j : Nat, j ≤ 4 ∧ i = .int .i64 j ∧ n = .int .i64 (CodeMath.qv q j) ∧ k = .int .i64 (CodeMath.kp q j) ∧ wr = wM) (fun _ _ _ _ i _ => 4 - (intOf i).toNat)
            case atStart => exact ⟨0, by omega, rfl, rfl, by simp [CodeMath.kp], rfl⟩
            case round =>
              obtain ⟨j, hj, rfl, rfl, rfl, hw⟩ := hrel
              subst hw
              by_cases hj4 : j < 4
              · have hj4i : (j : Int) < 4 := by omega
                have hwj : IntKind.i64.wrap ((j : Int) + 1) = ((j + 1 : Nat) : Int) := by rw [IntKind.wrap_i64]; omega
                have x0 := HQA.out j hj4
                have hqs : CodeMath.qv q (j + 1) = CodeMath.qv q j * 64 + CodeMath.val0 (q.getD j 0) := rfl
                have hqlt := CodeMath.qv_lt q j
                have h643 : (64 : Nat) ^ j ≤ 64 ^ 3 := Nat.pow_le_pow_right (by decide) (by omega)
                have h643' : (64 : Nat) ^ 3 = 262144 := by decide
                have hks : CodeMath.kp q (j + 1) = CodeMath.kp q j + if q.getD j 0 = 61 then 0 else 1 := by
                  unfold CodeMath.kp
                  have hjq : j < q.length := by rw [HQL.out]; exact hj4
                  rw [List.take_add_one, List.getElem?_eq_getElem hjq, List.filter_append, List.length_append, List.getD_eq_getElem?_getD, List.getElem?_eq_getElem hjq]
                  by_cases e : q[j] = 61 <;> simp [e]
                have hkl : CodeMath.kp q j ≤ 4 := by
                  unfold CodeMath.kp
                  have h1 := List.length_filter_le (fun c => !(c == 61)) (q.take j)
                  rw [List.length_take] at h1
                  omega
                have hvl := CodeMath.valOf_lt (q.getD j 0)
                generalize q.getD j 0 = y at *
                generalize CodeMath.qv q j = X at *
                generalize CodeMath.kp q j = K at *
                have hX : X < 262144 := by omega
                have HQS := Lib.hid hqs; have HKS := Lib.hid hks
                clear hqs hks hqlt h643 h643'
                have hws : IntKind.i64.wrap ((X : Int) * 64) = (X : Int) * 64 := by rw [IntKind.wrap_i64]; omega
                have hwK : IntKind.i64.wrap ((K : Int) + 1) = ((K + 1 : Nat) : Int) := by rw [IntKind.wrap_i64]; omega
                have l0 := fold_letters
                have hor := or_six X (CodeMath.val0 y) (by omega) hvl
                have hy := y.toNat_lt
                obtain ⟨V, hV⟩ : ∃ V, V = CodeMath.val0 y := ⟨_, rfl⟩
                have hidx := idx_let y wr
                rw [← hV] at hidx hor hvl HQS
                have HIX := Lib.hid hidx
                clear hidx hV
                go_wp2_with fail
                refine HIX.out.mono ?_
                rintro e w1 ⟨⟨i, rfl, hi⟩, rfl⟩
                clear l0 HIX
                rcases Nat.eq_zero_or_pos V with hV0 | hV0
                · subst hV0
                  have hor0 : bits .or .i64 ((X : Int) * 64) 0 = ((X * 64 : Nat) : Int) := by simpa using hor
                  clear hor
                  rcases hi with rfl | ⟨rfl, _⟩
                  ·
                    by_cases h61 : y = 61
                    · have HKS2 : Hid (CodeMath.kp q (j + 1) = K) := Lib.hid (by rw [HKS.out, if_pos h61]; rfl)
                      have e61 : (y.toNat : Int) = 61 := by rw [h61]; rfl
                      have b61 : ((y.toNat : Int) != 61) = false := by rw [e61]; rfl
                      clear HKS h61 e61
                      go_wp2
                      go_roundw
                      case rel => exact ⟨j + 1, by omega, by go_num, by rw [HQS.out]; simp, by rw [HKS2.out], by first | rfl | trivial⟩
                      case measure => simp [intOf]; omega
                    · have HKS2 : Hid (CodeMath.kp q (j + 1) = K + 1) := Lib.hid (by rw [HKS.out, if_neg h61])
                      have e61 : ¬ (y.toNat : Int) = 61 := fun e => h61 (UInt8.toNat_inj.1 (by have : (61 : UInt8).toNat = 61 := rfl; omega))
                      have b61 : ((y.toNat : Int) != 61) = true := by rw [bne_iff_ne]; exact e61
                      clear HKS h61 e61
                      go_wp2
                      go_roundw
                      case rel => exact ⟨j + 1, by omega, by go_num, by rw [HQS.out]; simp, by rw [HKS2.out]; go_num, by first | rfl | trivial⟩
                      case measure => simp [intOf]; omega
                  ·
                    by_cases h61 : y = 61
                    · have HKS2 : Hid (CodeMath.kp q (j + 1) = K) := Lib.hid (by rw [HKS.out, if_pos h61]; rfl)
                      have e61 : (y.toNat : Int) = 61 := by rw [h61]; rfl
                      have b61 : ((y.toNat : Int) != 61) = false := by rw [e61]; rfl
                      clear HKS h61 e61
                      go_wp2
                      go_roundw
                      case rel => exact ⟨j + 1, by omega, by go_num, by rw [HQS.out]; simp, by rw [HKS2.out], by first | rfl | trivial⟩
                      case measure => simp [intOf]; omega
                    · have HKS2 : Hid (CodeMath.kp q (j + 1) = K + 1) := Lib.hid (by rw [HKS.out, if_neg h61])
                      have e61 : ¬ (y.toNat : Int) = 61 := fun e => h61 (UInt8.toNat_inj.1 (by have : (61 : UInt8).toNat = 61 := rfl; omega))
                      have b61 : ((y.toNat : Int) != 61) = true := by rw [bne_iff_ne]; exact e61
                      clear HKS h61 e61
                      go_wp2
                      go_roundw
                      case rel => exact ⟨j + 1, by omega, by go_num, by rw [HQS.out]; simp, by rw [HKS2.out]; go_num, by first | rfl | trivial⟩
                      case measure => simp [intOf]; omega
                · have hV1 : (0 : Int) < V := by omega
                  have hV2 : (0 : Int) ≤ V := by omega
                  have hV3 : ¬ (V : Int) < 0 := by omega
                  have hV4 : ¬ (V : Int) ≤ 0 := by omega
                  obtain rfl : i = (V : Int) := by
                    rcases hi with h | ⟨_, h⟩
                    · exact h
                    · omega
                  clear hi
                  by_cases h61 : y = 61
                  · have HKS2 : Hid (CodeMath.kp q (j + 1) = K) := Lib.hid (by rw [HKS.out, if_pos h61]; rfl)
                    have e61 : (y.toNat : Int) = 61 := by rw [h61]; rfl
                    have b61 : ((y.toNat : Int) != 61) = false := by rw [e61]; rfl
                    clear HKS h61 e61
                    go_wp2
                    go_roundw
                    case rel => exact ⟨j + 1, by omega, by go_num, by rw [HQS.out]; simp, by rw [HKS2.out], by first | rfl | trivial⟩
                    case measure => simp [intOf]; omega
                  · have HKS2 : Hid (CodeMath.kp q (j + 1) = K + 1) := Lib.hid (by rw [HKS.out, if_neg h61])
                    have e61 : ¬ (y.toNat : Int) = 61 := fun e => h61 (UInt8.toNat_inj.1 (by have : (61 : UInt8).toNat = 61 := rfl; omega))
                    have b61 : ((y.toNat : Int) != 61) = true := by rw [bne_iff_ne]; exact e61
                    clear HKS h61 e61
                    go_wp2
                    go_roundw
                    case rel => exact ⟨j + 1, by omega, by go_num, by rw [HQS.out]; simp, by rw [HKS2.out]; go_num, by first | rfl | trivial⟩
                    case measure => simp [intOf]; omega
              · have hj : j = 4 := by omega
                subst hj
                have hQ := CodeMath.qv_lt q 4
                rw [CodeMath.qv4] at hQ ⊢
                rw [CodeMath.kp4 q HQL.out]
                have hQ' : (64 : Nat) ^ 4 = 16777216 := by decide
                rw [hQ'] at hQ
                have hkof : CodeMath.kOf q = max (CodeMath.nPad q - 1) 1 := rfl
                have hkl : CodeMath.nPad q ≤ 4 := by
                  unfold CodeMath.nPad
                  have h1 := List.length_filter_le (fun c => !(c == 61)) q
                  rw [HQL.out] at h1
                  exact h1
                have HST2 := HST
                generalize CodeMath.quad q = Q at *
                generalize CodeMath.kOf q = k at *
                generalize CodeMath.nPad q = K at *
                have hwK : IntKind.i64.wrap ((K : Int) - 1) = (K : Int) - 1 := by rw [IntKind.wrap_i64]; omega
                have hK5 : K = 0 ∨ K = 1 ∨ K = 2 ∨ K = 3 ∨ K = 4 := by omega
                clear hQ' hlt hkl
                rcases hK5 with rfl | rfl | rfl | rfl | rfl
                · obtain rfl : k = 1 := by omega
                  clear hkof hwK
                  obtain ⟨x, hx⟩ : ∃ x, x = (CodeMath.b3 Q).take (1) := ⟨_, rfl⟩
                  have hxl : x.length = (1) := by rw [hx, List.length_take]; show min (1) 3 = _; omega
                  obtain ⟨V1, hV1⟩ : ∃ V1, V1 = wr.alloc (.cells #[.int .u8 ((Q : Int) / 65536), .int .u8 ((Q : Int) / 256 % 256), .int .u8 ((Q : Int) % 256)] 5) := ⟨_, rfl⟩
                  have hbV : Below wr.heap.size wr V1 := by rw [hV1]; exact (Below.refl _ wr).alloc (Nat.le_refl _) _
                  have hrx : Rd V1 (some ⟨wr.heap.size, 0, none⟩) x := by
                    rw [hx]
                    exact (Rd.of_block (l := CodeMath.b3 Q) (show V1.heap[wr.heap.size]? = some (.cells (bv (CodeMath.b3 Q)) 5) by rw [hV1, b3_bv Q hQ]; exact heap_new wr _ _ rfl) (by show 3 ≤ _; decide)).take (1)
                  have HX := Lib.hid hx; have HXL := Lib.hid hxl; have HV1 := Lib.hid hV1; have HRX := Lib.hid hrx
                  have HBV0 := Lib.hid hbV
                  have HBV : Hid (Below wL.heap.size wL V1) := Lib.hid (below_then HBM.out HBM.out.size hbV)
                  clear hx hxl hV1 hrx hbV
                  by_cases hgt : 4 < nr
                  · have hgti : (4 : Int) < nr := by omega
                    have HE : Hid (CodeMath.dec b = none) := Lib.hid (by
                      rw [HD.out, HDS.out, HST2.out, if_pos (.inl ⟨by decide, by rw [← HNR.out]; exact hgt⟩)]
                      rfl)
                    clear hgt
                    go_wp2_with fail
                    rw [← HV1.out]
                    refine wp_region_tbl _ (fun _ => none) (V1.heap.size) (by kernel_rfl) (by kernel_rfl) (by kernel_rfl) ?_
                    repeat (first | (refine wpR_plain ?_ (by rfl) (fun K hK => ?_); (focus (first | (simp only [Region.wanted]; done) | (go_simp; done))); apply Exists.intro; refine ⟨fun W hW => ?_, ?_⟩; (go_simp; (try simp only [plainUpon_value, true_and]); rfl); go_simp; refine hK _ ?_; clear hK K) | (refine wpR_skip ?_ (fun K hK => ?_); (focus (first | (simp only [Region.wanted]; done) | (go_simp; done) | (simp [Region.wanted, yielded, undef]; done) | (go_simp; simp [undef]; done) | (go_simp; decide) | rfl)); go_simp; refine hK _ ?_; clear hK K))
                    refine wpR_nil (fun W hW hF => ?_)
                    have HBW : Hid (Below w.heap.size w W) := Lib.hid (below_then HB.out HB.out.size (below_then HBV.out HBV.out.size ((Below.drew (Below.refl V1.heap.size V1)).trans hW.1)))
                    clear hW hF
                    go_wp2
                    go_ret2
                    exact ⟨HBW.out, .inr ⟨HE.out, rfl⟩⟩
                  · have hgti : decide ((4 : Int) < nr) = false := decide_eq_false (by omega)
                    have hno : ¬ (((1) < 3 ∧ 4 < r.length)) := by rw [← HNR.out]; omega
                    have HNC := Lib.hid hno
                    clear hno hgt
                    have hgp : ∀ W, CB V1.drew W → Calls Tryd.prog 19 #[.slice (some ⟨wr.heap.size, 0, none⟩) (1) 3] W fun e w' => ∃ v, e = .returned v ∧ shpn 4 v ∧ Sl w' v (CodeMath.grp x) ∧ CB W w' := fun W hW => by
                      have h1 := grp_any W (some ⟨wr.heap.size, 0, none⟩) 3 x (HRX.out.below ((Below.drew (Below.refl _ V1)).trans hW)) (by rw [HXL.out]; decide) (by rw [HXL.out]; decide) (by rw [HXL.out]; decide)
                      rw [HXL.out] at h1
                      refine h1.mono ?_
                      rintro e w' ⟨v, rfl, h2, h3⟩
                      obtain ⟨A', c', rfl, h4, _⟩ := h2.rd
                      exact ⟨_, rfl, ⟨A', c', rfl, h4⟩, h2.sl, h3⟩
                    have hrq : ∀ W, CB V1.drew W → Rd W (some a) q := fun W hW => by
                      rw [HQ.out]
                      exact (HRD.out W (below_then HBV.out HBV.out.size ((Below.drew (Below.refl _ V1)).trans hW))).take 4
                    have hbW : ∀ W, CB V1.drew W → Below wL.heap.size wL W := fun W hW => below_then HBV.out HBV.out.size ((Below.drew (Below.refl _ V1)).trans hW)
                    have HGP := Lib.hid hgp; have HRQ := Lib.hid hrq; have HBW := Lib.hid hbW
                    obtain ⟨bq, hbq⟩ : ∃ bq, bq = decide (CodeMath.grp x = q) := ⟨_, rfl⟩
                    have HBQ := Lib.hid hbq
                    clear hgp hrq hbW hbq
                    go_wp2_with fail
                    rw [← HV1.out]
                    refine Stu.wp_region_stu _ (Stu.mkT [(9, cslS 4 (CodeMath.grp x)), (12, cvaS (.bool bq))]) (fun _ => True) [] CB.refl (fun _ _ _ => CB.trans) (fun _ _ h => h) (fun _ _ _ _ => trivial) trivial (Stu.mkT_ks _ (by show List.Nodup [9, 12]; decide) _ rfl) (by kernel_rfl) (by kernel_rfl) (by kernel_rfl) ?_
                    repeat (first
                      | (refine Stu.wpR_plain ?_ (by rfl) (by rfl) (fun K hK => ?_); (focus (first | (simp only [Region.wanted]; done) | (go_simp; done))); apply Exists.intro; refine ⟨fun W hW => ?_, ?_⟩; (go_simp; (try simp only [Stu.plainUpon_value, true_and]); rfl); go_simp; refine hK _ ?_; clear hK K)
                      | (refine Stu.wpR_skip ?_ (fun K hK => ?_); (focus (first | (simp only [Region.wanted]; done) | (go_simp; done) | (simp [Region.wanted, yielded, undef]; done) | (go_simp; simp [undef]; done) | (go_simp; decide) | rfl)); go_simp; refine hK _ ?_; clear hK K)
                      | (refine Stu.wpR_spg (by rfl) (by rfl) ?_ ?_ (fun W hW hF => ?_) (fun K v hv hK => ?_); (focus (first | (simp only [Region.wanted]; done) | (go_simp; done))); (focus (exact ⟨_, none, _, rfl, Nat.le_refl _⟩)); (go_simp; simp only [Stu.relUpon_enter]; refine (HGP.out W hW).mono ?_; rintro e w' ⟨v, rfl, h1, h2, h3⟩; exact ⟨_, rfl, h3, h1, h2⟩); (obtain ⟨A9, c9, rfl, hc9⟩ := hv); go_simp; refine hK _ ?_; clear hK K))
                    (refine Stu.wpR_spg (by rfl) (by rfl) ?_ ?_ (fun W hW hF => ?_) (fun K v hv hK => ?_); (focus (first | (simp only [Region.wanted]; done) | (go_simp; done))); (focus (exact ⟨_, rfl⟩)); (go_simp; simp only [Stu.relUpon_enter]; refine (beq_any W A9 (some a) 4 4 c9 cr _ q (show Sl W (.slice A9 4 c9) (CodeMath.grp x) from hF 9 rfl).rd' (HRQ.out W hW) (CodeMath.grp_len _) HQL.out).mono ?_; rintro e w' ⟨rfl, rfl⟩; exact ⟨_, rfl, Below.refl _ _, by rw [HBQ.out]; rfl, trivial⟩); (cases hv); go_simp; refine hK _ ?_; clear hK K)
                    repeat (refine Stu.wpR_plain ?_ (by rfl) (by rfl) (fun K hK => ?_); (focus (first | (simp only [Region.wanted]; done) | (go_simp; done))); apply Exists.intro; refine ⟨fun W hW => ?_, ?_⟩; (go_simp; (try simp only [Stu.plainUpon_value, true_and]); rfl); go_simp; refine hK _ ?_; clear hK K)
                    refine Stu.wpR_nil (fun W hW hU hF => ?_)
                    have hb1W : Below V1.heap.size V1 W := (Below.drew (Below.refl _ V1)).trans hW
                    have HBZ := Lib.hid (HBW.out W hW)
                    have hoW := (HO.out.below HBV0.out).below hb1W
                    have hrxW := HRX.out.below hb1W
                    have HOW := Lib.hid hoW; have HRXW := Lib.hid hrxW
                    clear hb1W hoW hrxW hF hW hU HBW HRQ HGP HRX HBV0 HBV HV1 HO
                    cases bq with
                    | false =>
                      have HE : Hid (CodeMath.dec b = none) := Lib.hid (by
                        rw [HD.out, HDS.out, HST2.out, if_pos (.inr (by rw [← HX.out]; exact of_decide_eq_false HBQ.out.symm))]
                        rfl)
                      have HBF : Hid (Below w.heap.size w W) := Lib.hid (below_then HB.out HB.out.size HBZ.out)
                      go_wp2
                      go_ret2
                      exact ⟨HBF.out, .inr ⟨HE.out, rfl⟩⟩
                    | true =>
                      have HDN : Hid (CodeMath.decS s = (CodeMath.decS (r.drop 4)).map (out ++ x ++ ·)) := Lib.hid (by
                        have hq : CodeMath.grp x = q := of_decide_eq_true HBQ.out.symm
                        rw [HDS.out, HST2.out, if_neg (by rintro (h | h); exact HNC.out h; exact h (by rw [← HX.out]; exact hq)), ← HX.out]
                        cases CodeMath.decS (r.drop 4) <;> simp)
                      obtain ⟨v3, W3, hrun3, ho3, hts3⟩ := appb_run (m := (1)) (c := 3) HOW.out HZ.out HRXW.out HXL.out.symm HBZ.out.size (by rw [← HNO.out, HXL.out]; omega)
                      have HO3 := Lib.hid ho3
                      have HB3 : Hid (Below wL.heap.size wL W3) := Lib.hid (HBZ.out.trans hts3.1)
                      obtain ⟨A3, c3, hv3, hc3, _⟩ := ho3.rd
                      have HL3 : Hid ((out ++ x).length = no + (1)) := Lib.hid (by rw [List.length_append, HXL.out, ← HNO.out])
                      rw [HL3.out] at hv3 hc3
                      subst hv3
                      have HRUN3 := Lib.hid hrun3
                      have hrl : (r.drop 4).length = nr - 4 := by rw [List.length_drop, ← HNR.out]
                      have HRL := Lib.hid hrl
                      have HZ3 : Hid (out ++ x = [] → Value.slice A3 (no + (1)) c3 = .slice none 0 0) := Lib.hid fun e => by have := HXL.out; rw [List.append_eq_nil_iff] at e; rw [e.2] at this; simp at this
                      clear hrun3 ho3 hts3 hrl HOW HRXW
                      by_cases hcx : cr = 4
                      · have hcx' := hcx.symm
                        clear hcx
                        subst hcx'
                        have he0 : r.drop 4 = [] := List.eq_nil_of_length_eq_zero (by rw [HRL.out]; omega)
                        have HE0 := Lib.hid he0
                        have hrl0 : (r.drop 4).length = 0 := by rw [he0]; rfl
                        have HRL0 := Lib.hid hrl0
                        clear he0 hrl0
                        go_wp2_with (at_builtin; refine Lib.wpList_append_run _ rfl _ _ _ _ rfl _ _ rfl rfl _ _ HRUN3.out ?_)
                        go_roundw
                        case rel => exact ⟨out ++ x, r.drop 4, some a, 0, by rw [HRL0.out], by rw [HRL0.out]; exact Nat.le_refl _, by rw [HRL0.out], fun W hW => by rw [HE0.out]; exact Rd.none', HDN.out, HO3.out, HZ3.out, HB3.out, by rw [HRL0.out, HL3.out]; omega⟩
                        case measure => simp only [lenV2]; omega
                      · go_wp2_with (at_builtin; refine Lib.wpList_append_run _ rfl _ _ _ _ rfl _ _ rfl rfl _ _ HRUN3.out ?_)
                        go_roundw
                        case rel => exact ⟨out ++ x, r.drop 4, some (a.add 4), cr - 4, by rw [HRL.out]; first | rfl | simp [Addr.add], by rw [HRL.out]; omega, by rw [HRL.out]; omega, fun W hW => (HRD.out W hW).drop 4, HDN.out, HO3.out, HZ3.out, HB3.out, by rw [HRL.out, HL3.out]; omega⟩
                        case measure => simp only [lenV2]; omega
                · obtain rfl : k = 1 := by omega
                  clear hkof hwK
                  obtain ⟨x, hx⟩ : ∃ x, x = (CodeMath.b3 Q).take (1) := ⟨_, rfl⟩
                  have hxl : x.length = (1) := by rw [hx, List.length_take]; show min (1) 3 = _; omega
                  obtain ⟨V1, hV1⟩ : ∃ V1, V1 = wr.alloc (.cells #[.int .u8 ((Q : Int) / 65536), .int .u8 ((Q : Int) / 256 % 256), .int .u8 ((Q : Int) % 256)] 5) := ⟨_, rfl⟩
                  have hbV : Below wr.heap.size wr V1 := by rw [hV1]; exact (Below.refl _ wr).alloc (Nat.le_refl _) _
                  have hrx : Rd V1 (some ⟨wr.heap.size, 0, none⟩) x := by
                    rw [hx]
                    exact (Rd.of_block (l := CodeMath.b3 Q) (show V1.heap[wr.heap.size]? = some (.cells (bv (CodeMath.b3 Q)) 5) by rw [hV1, b3_bv Q hQ]; exact heap_new wr _ _ rfl) (by show 3 ≤ _; decide)).take (1)
                  have HX := Lib.hid hx; have HXL := Lib.hid hxl; have HV1 := Lib.hid hV1; have HRX := Lib.hid hrx
                  have HBV0 := Lib.hid hbV
                  have HBV : Hid (Below wL.heap.size wL V1) := Lib.hid (below_then HBM.out HBM.out.size hbV)
                  clear hx hxl hV1 hrx hbV
                  by_cases hgt : 4 < nr
                  · have hgti : (4 : Int) < nr := by omega
                    have HE : Hid (CodeMath.dec b = none) := Lib.hid (by
                      rw [HD.out, HDS.out, HST2.out, if_pos (.inl ⟨by decide, by rw [← HNR.out]; exact hgt⟩)]
                      rfl)
                    clear hgt
                    go_wp2_with fail
                    rw [← HV1.out]
                    refine wp_region_tbl _ (fun _ => none) (V1.heap.size) (by kernel_rfl) (by kernel_rfl) (by kernel_rfl) ?_
                    repeat (first | (refine wpR_plain ?_ (by rfl) (fun K hK => ?_); (focus (first | (simp only [Region.wanted]; done) | (go_simp; done))); apply Exists.intro; refine ⟨fun W hW => ?_, ?_⟩; (go_simp; (try simp only [plainUpon_value, true_and]); rfl); go_simp; refine hK _ ?_; clear hK K) | (refine wpR_skip ?_ (fun K hK => ?_); (focus (first | (simp only [Region.wanted]; done) | (go_simp; done) | (simp [Region.wanted, yielded, undef]; done) | (go_simp; simp [undef]; done) | (go_simp; decide) | rfl)); go_simp; refine hK _ ?_; clear hK K))
                    refine wpR_nil (fun W hW hF => ?_)
                    have HBW : Hid (Below w.heap.size w W) := Lib.hid (below_then HB.out HB.out.size (below_then HBV.out HBV.out.size ((Below.drew (Below.refl V1.heap.size V1)).trans hW.1)))
                    clear hW hF
                    go_wp2
                    go_ret2
                    exact ⟨HBW.out, .inr ⟨HE.out, rfl⟩⟩
                  · have hgti : decide ((4 : Int) < nr) = false := decide_eq_false (by omega)
                    have hno : ¬ (((1) < 3 ∧ 4 < r.length)) := by rw [← HNR.out]; omega
                    have HNC := Lib.hid hno
                    clear hno hgt
                    have hgp : ∀ W, CB V1.drew W → Calls Tryd.prog 19 #[.slice (some ⟨wr.heap.size, 0, none⟩) (1) 3] W fun e w' => ∃ v, e = .returned v ∧ shpn 4 v ∧ Sl w' v (CodeMath.grp x) ∧ CB W w' := fun W hW => by
                      have h1 := grp_any W (some ⟨wr.heap.size, 0, none⟩) 3 x (HRX.out.below ((Below.drew (Below.refl _ V1)).trans hW)) (by rw [HXL.out]; decide) (by rw [HXL.out]; decide) (by rw [HXL.out]; decide)
                      rw [HXL.out] at h1
                      refine h1.mono ?_
                      rintro e w' ⟨v, rfl, h2, h3⟩
                      obtain ⟨A', c', rfl, h4, _⟩ := h2.rd
                      exact ⟨_, rfl, ⟨A', c', rfl, h4⟩, h2.sl, h3⟩
                    have hrq : ∀ W, CB V1.drew W → Rd W (some a) q := fun W hW => by
                      rw [HQ.out]
                      exact (HRD.out W (below_then HBV.out HBV.out.size ((Below.drew (Below.refl _ V1)).trans hW))).take 4
                    have hbW : ∀ W, CB V1.drew W → Below wL.heap.size wL W := fun W hW => below_then HBV.out HBV.out.size ((Below.drew (Below.refl _ V1)).trans hW)
                    have HGP := Lib.hid hgp; have HRQ := Lib.hid hrq; have HBW := Lib.hid hbW
                    obtain ⟨bq, hbq⟩ : ∃ bq, bq = decide (CodeMath.grp x = q) := ⟨_, rfl⟩
                    have HBQ := Lib.hid hbq
                    clear hgp hrq hbW hbq
                    go_wp2_with fail
                    rw [← HV1.out]
                    refine Stu.wp_region_stu _ (Stu.mkT [(9, cslS 4 (CodeMath.grp x)), (12, cvaS (.bool bq))]) (fun _ => True) [] CB.refl (fun _ _ _ => CB.trans) (fun _ _ h => h) (fun _ _ _ _ => trivial) trivial (Stu.mkT_ks _ (by show List.Nodup [9, 12]; decide) _ rfl) (by kernel_rfl) (by kernel_rfl) (by kernel_rfl) ?_
                    repeat (first
                      | (refine Stu.wpR_plain ?_ (by rfl) (by rfl) (fun K hK => ?_); (focus (first | (simp only [Region.wanted]; done) | (go_simp; done))); apply Exists.intro; refine ⟨fun W hW => ?_, ?_⟩; (go_simp; (try simp only [Stu.plainUpon_value, true_and]); rfl); go_simp; refine hK _ ?_; clear hK K)
                      | (refine Stu.wpR_skip ?_ (fun K hK => ?_); (focus (first | (simp only [Region.wanted]; done) | (go_simp; done) | (simp [Region.wanted, yielded, undef]; done) | (go_simp; simp [undef]; done) | (go_simp; decide) | rfl)); go_simp; refine hK _ ?_; clear hK K)
                      | (refine Stu.wpR_spg (by rfl) (by rfl) ?_ ?_ (fun W hW hF => ?_) (fun K v hv hK => ?_); (focus (first | (simp only [Region.wanted]; done) | (go_simp; done))); (focus (exact ⟨_, none, _, rfl, Nat.le_refl _⟩)); (go_simp; simp only [Stu.relUpon_enter]; refine (HGP.out W hW).mono ?_; rintro e w' ⟨v, rfl, h1, h2, h3⟩; exact ⟨_, rfl, h3, h1, h2⟩); (obtain ⟨A9, c9, rfl, hc9⟩ := hv); go_simp; refine hK _ ?_; clear hK K))
                    (refine Stu.wpR_spg (by rfl) (by rfl) ?_ ?_ (fun W hW hF => ?_) (fun K v hv hK => ?_); (focus (first | (simp only [Region.wanted]; done) | (go_simp; done))); (focus (exact ⟨_, rfl⟩)); (go_simp; simp only [Stu.relUpon_enter]; refine (beq_any W A9 (some a) 4 4 c9 cr _ q (show Sl W (.slice A9 4 c9) (CodeMath.grp x) from hF 9 rfl).rd' (HRQ.out W hW) (CodeMath.grp_len _) HQL.out).mono ?_; rintro e w' ⟨rfl, rfl⟩; exact ⟨_, rfl, Below.refl _ _, by rw [HBQ.out]; rfl, trivial⟩); (cases hv); go_simp; refine hK _ ?_; clear hK K)
                    repeat (refine Stu.wpR_plain ?_ (by rfl) (by rfl) (fun K hK => ?_); (focus (first | (simp only [Region.wanted]; done) | (go_simp; done))); apply Exists.intro; refine ⟨fun W hW => ?_, ?_⟩; (go_simp; (try simp only [Stu.plainUpon_value, true_and]); rfl); go_simp; refine hK _ ?_; clear hK K)
                    refine Stu.wpR_nil (fun W hW hU hF => ?_)
                    have hb1W : Below V1.heap.size V1 W := (Below.drew (Below.refl _ V1)).trans hW
                    have HBZ := Lib.hid (HBW.out W hW)
                    have hoW := (HO.out.below HBV0.out).below hb1W
                    have hrxW := HRX.out.below hb1W
                    have HOW := Lib.hid hoW; have HRXW := Lib.hid hrxW
                    clear hb1W hoW hrxW hF hW hU HBW HRQ HGP HRX HBV0 HBV HV1 HO
                    cases bq with
                    | false =>
                      have HE : Hid (CodeMath.dec b = none) := Lib.hid (by
                        rw [HD.out, HDS.out, HST2.out, if_pos (.inr (by rw [← HX.out]; exact of_decide_eq_false HBQ.out.symm))]
                        rfl)
                      have HBF : Hid (Below w.heap.size w W) := Lib.hid (below_then HB.out HB.out.size HBZ.out)
                      go_wp2
                      go_ret2
                      exact ⟨HBF.out, .inr ⟨HE.out, rfl⟩⟩
                    | true =>
                      have HDN : Hid (CodeMath.decS s = (CodeMath.decS (r.drop 4)).map (out ++ x ++ ·)) := Lib.hid (by
                        have hq : CodeMath.grp x = q := of_decide_eq_true HBQ.out.symm
                        rw [HDS.out, HST2.out, if_neg (by rintro (h | h); exact HNC.out h; exact h (by rw [← HX.out]; exact hq)), ← HX.out]
                        cases CodeMath.decS (r.drop 4) <;> simp)
                      obtain ⟨v3, W3, hrun3, ho3, hts3⟩ := appb_run (m := (1)) (c := 3) HOW.out HZ.out HRXW.out HXL.out.symm HBZ.out.size (by rw [← HNO.out, HXL.out]; omega)
                      have HO3 := Lib.hid ho3
                      have HB3 : Hid (Below wL.heap.size wL W3) := Lib.hid (HBZ.out.trans hts3.1)
                      obtain ⟨A3, c3, hv3, hc3, _⟩ := ho3.rd
                      have HL3 : Hid ((out ++ x).length = no + (1)) := Lib.hid (by rw [List.length_append, HXL.out, ← HNO.out])
                      rw [HL3.out] at hv3 hc3
                      subst hv3
                      have HRUN3 := Lib.hid hrun3
                      have hrl : (r.drop 4).length = nr - 4 := by rw [List.length_drop, ← HNR.out]
                      have HRL := Lib.hid hrl
                      have HZ3 : Hid (out ++ x = [] → Value.slice A3 (no + (1)) c3 = .slice none 0 0) := Lib.hid fun e => by have := HXL.out; rw [List.append_eq_nil_iff] at e; rw [e.2] at this; simp at this
                      clear hrun3 ho3 hts3 hrl HOW HRXW
                      by_cases hcx : cr = 4
                      · have hcx' := hcx.symm
                        clear hcx
                        subst hcx'
                        have he0 : r.drop 4 = [] := List.eq_nil_of_length_eq_zero (by rw [HRL.out]; omega)
                        have HE0 := Lib.hid he0
                        have hrl0 : (r.drop 4).length = 0 := by rw [he0]; rfl
                        have HRL0 := Lib.hid hrl0
                        clear he0 hrl0
                        go_wp2_with (at_builtin; refine Lib.wpList_append_run _ rfl _ _ _ _ rfl _ _ rfl rfl _ _ HRUN3.out ?_)
                        go_roundw
                        case rel => exact ⟨out ++ x, r.drop 4, some a, 0, by rw [HRL0.out], by rw [HRL0.out]; exact Nat.le_refl _, by rw [HRL0.out], fun W hW => by rw [HE0.out]; exact Rd.none', HDN.out, HO3.out, HZ3.out, HB3.out, by rw [HRL0.out, HL3.out]; omega⟩
                        case measure => simp only [lenV2]; omega
                      · go_wp2_with (at_builtin; refine Lib.wpList_append_run _ rfl _ _ _ _ rfl _ _ rfl rfl _ _ HRUN3.out ?_)
                        go_roundw
                        case rel => exact ⟨out ++ x, r.drop 4, some (a.add 4), cr - 4, by rw [HRL.out]; first | rfl | simp [Addr.add], by rw [HRL.out]; omega, by rw [HRL.out]; omega, fun W hW => (HRD.out W hW).drop 4, HDN.out, HO3.out, HZ3.out, HB3.out, by rw [HRL.out, HL3.out]; omega⟩
                        case measure => simp only [lenV2]; omega
                · obtain rfl : k = 1 := by omega
                  clear hkof hwK
                  obtain ⟨x, hx⟩ : ∃ x, x = (CodeMath.b3 Q).take (1) := ⟨_, rfl⟩
                  have hxl : x.length = (1) := by rw [hx, List.length_take]; show min (1) 3 = _; omega
                  obtain ⟨V1, hV1⟩ : ∃ V1, V1 = wr.alloc (.cells #[.int .u8 ((Q : Int) / 65536), .int .u8 ((Q : Int) / 256 % 256), .int .u8 ((Q : Int) % 256)] 5) := ⟨_, rfl⟩
                  have hbV : Below wr.heap.size wr V1 := by rw [hV1]; exact (Below.refl _ wr).alloc (Nat.le_refl _) _
                  have hrx : Rd V1 (some ⟨wr.heap.size, 0, none⟩) x := by
                    rw [hx]
                    exact (Rd.of_block (l := CodeMath.b3 Q) (show V1.heap[wr.heap.size]? = some (.cells (bv (CodeMath.b3 Q)) 5) by rw [hV1, b3_bv Q hQ]; exact heap_new wr _ _ rfl) (by show 3 ≤ _; decide)).take (1)
                  have HX := Lib.hid hx; have HXL := Lib.hid hxl; have HV1 := Lib.hid hV1; have HRX := Lib.hid hrx
                  have HBV0 := Lib.hid hbV
                  have HBV : Hid (Below wL.heap.size wL V1) := Lib.hid (below_then HBM.out HBM.out.size hbV)
                  clear hx hxl hV1 hrx hbV
                  by_cases hgt : 4 < nr
                  · have hgti : (4 : Int) < nr := by omega
                    have HE : Hid (CodeMath.dec b = none) := Lib.hid (by
                      rw [HD.out, HDS.out, HST2.out, if_pos (.inl ⟨by decide, by rw [← HNR.out]; exact hgt⟩)]
                      rfl)
                    clear hgt
                    go_wp2_with fail
                    rw [← HV1.out]
                    refine wp_region_tbl _ (fun _ => none) (V1.heap.size) (by kernel_rfl) (by kernel_rfl) (by kernel_rfl) ?_
                    repeat (first | (refine wpR_plain ?_ (by rfl) (fun K hK => ?_); (focus (first | (simp only [Region.wanted]; done) | (go_simp; done))); apply Exists.intro; refine ⟨fun W hW => ?_, ?_⟩; (go_simp; (try simp only [plainUpon_value, true_and]); rfl); go_simp; refine hK _ ?_; clear hK K) | (refine wpR_skip ?_ (fun K hK => ?_); (focus (first | (simp only [Region.wanted]; done) | (go_simp; done) | (simp [Region.wanted, yielded, undef]; done) | (go_simp; simp [undef]; done) | (go_simp; decide) | rfl)); go_simp; refine hK _ ?_; clear hK K))
                    refine wpR_nil (fun W hW hF => ?_)
                    have HBW : Hid (Below w.heap.size w W) := Lib.hid (below_then HB.out HB.out.size (below_then HBV.out HBV.out.size ((Below.drew (Below.refl V1.heap.size V1)).trans hW.1)))
                    clear hW hF
                    go_wp2
                    go_ret2
                    exact ⟨HBW.out, .inr ⟨HE.out, rfl⟩⟩
                  · have hgti : decide ((4 : Int) < nr) = false := decide_eq_false (by omega)
                    have hno : ¬ (((1) < 3 ∧ 4 < r.length)) := by rw [← HNR.out]; omega
                    have HNC := Lib.hid hno
                    clear hno hgt
                    have hgp : ∀ W, CB V1.drew W → Calls Tryd.prog 19 #[.slice (some ⟨wr.heap.size, 0, none⟩) (1) 3] W fun e w' => ∃ v, e = .returned v ∧ shpn 4 v ∧ Sl w' v (CodeMath.grp x) ∧ CB W w' := fun W hW => by
                      have h1 := grp_any W (some ⟨wr.heap.size, 0, none⟩) 3 x (HRX.out.below ((Below.drew (Below.refl _ V1)).trans hW)) (by rw [HXL.out]; decide) (by rw [HXL.out]; decide) (by rw [HXL.out]; decide)
                      rw [HXL.out] at h1
                      refine h1.mono ?_
                      rintro e w' ⟨v, rfl, h2, h3⟩
                      obtain ⟨A', c', rfl, h4, _⟩ := h2.rd
                      exact ⟨_, rfl, ⟨A', c', rfl, h4⟩, h2.sl, h3⟩
                    have hrq : ∀ W, CB V1.drew W → Rd W (some a) q := fun W hW => by
                      rw [HQ.out]
                      exact (HRD.out W (below_then HBV.out HBV.out.size ((Below.drew (Below.refl _ V1)).trans hW))).take 4
                    have hbW : ∀ W, CB V1.drew W → Below wL.heap.size wL W := fun W hW => below_then HBV.out HBV.out.size ((Below.drew (Below.refl _ V1)).trans hW)
                    have HGP := Lib.hid hgp; have HRQ := Lib.hid hrq; have HBW := Lib.hid hbW
                    obtain ⟨bq, hbq⟩ : ∃ bq, bq = decide (CodeMath.grp x = q) := ⟨_, rfl⟩
                    have HBQ := Lib.hid hbq
                    clear hgp hrq hbW hbq
                    go_wp2_with fail
                    rw [← HV1.out]
                    refine Stu.wp_region_stu _ (Stu.mkT [(9, cslS 4 (CodeMath.grp x)), (12, cvaS (.bool bq))]) (fun _ => True) [] CB.refl (fun _ _ _ => CB.trans) (fun _ _ h => h) (fun _ _ _ _ => trivial) trivial (Stu.mkT_ks _ (by show List.Nodup [9, 12]; decide) _ rfl) (by kernel_rfl) (by kernel_rfl) (by kernel_rfl) ?_
                    repeat (first
                      | (refine Stu.wpR_plain ?_ (by rfl) (by rfl) (fun K hK => ?_); (focus (first | (simp only [Region.wanted]; done) | (go_simp; done))); apply Exists.intro; refine ⟨fun W hW => ?_, ?_⟩; (go_simp; (try simp only [Stu.plainUpon_value, true_and]); rfl); go_simp; refine hK _ ?_; clear hK K)
                      | (refine Stu.wpR_skip ?_ (fun K hK => ?_); (focus (first | (simp only [Region.wanted]; done) | (go_simp; done) | (simp [Region.wanted, yielded, undef]; done) | (go_simp; simp [undef]; done) | (go_simp; decide) | rfl)); go_simp; refine hK _ ?_; clear hK K)
                      | (refine Stu.wpR_spg (by rfl) (by rfl) ?_ ?_ (fun W hW hF => ?_) (fun K v hv hK => ?_); (focus (first | (simp only [Region.wanted]; done) | (go_simp; done))); (focus (exact ⟨_, none, _, rfl, Nat.le_refl _⟩)); (go_simp; simp only [Stu.relUpon_enter]; refine (HGP.out W hW).mono ?_; rintro e w' ⟨v, rfl, h1, h2, h3⟩; exact ⟨_, rfl, h3, h1, h2⟩); (obtain ⟨A9, c9, rfl, hc9⟩ := hv); go_simp; refine hK _ ?_; clear hK K))
                    (refine Stu.wpR_spg (by rfl) (by rfl) ?_ ?_ (fun W hW hF => ?_) (fun K v hv hK => ?_); (focus (first | (simp only [Region.wanted]; done) | (go_simp; done))); (focus (exact ⟨_, rfl⟩)); (go_simp; simp only [Stu.relUpon_enter]; refine (beq_any W A9 (some a) 4 4 c9 cr _ q (show Sl W (.slice A9 4 c9) (CodeMath.grp x) from hF 9 rfl).rd' (HRQ.out W hW) (CodeMath.grp_len _) HQL.out).mono ?_; rintro e w' ⟨rfl, rfl⟩; exact ⟨_, rfl, Below.refl _ _, by rw [HBQ.out]; rfl, trivial⟩); (cases hv); go_simp; refine hK _ ?_; clear hK K)
                    repeat (refine Stu.wpR_plain ?_ (by rfl) (by rfl) (fun K hK => ?_); (focus (first | (simp only [Region.wanted]; done) | (go_simp; done))); apply Exists.intro; refine ⟨fun W hW => ?_, ?_⟩; (go_simp; (try simp only [Stu.plainUpon_value, true_and]); rfl); go_simp; refine hK _ ?_; clear hK K)
                    refine Stu.wpR_nil (fun W hW hU hF => ?_)
                    have hb1W : Below V1.heap.size V1 W := (Below.drew (Below.refl _ V1)).trans hW
                    have HBZ := Lib.hid (HBW.out W hW)
                    have hoW := (HO.out.below HBV0.out).below hb1W
                    have hrxW := HRX.out.below hb1W
                    have HOW := Lib.hid hoW; have HRXW := Lib.hid hrxW
                    clear hb1W hoW hrxW hF hW hU HBW HRQ HGP HRX HBV0 HBV HV1 HO
                    cases bq with
                    | false =>
                      have HE : Hid (CodeMath.dec b = none) := Lib.hid (by
                        rw [HD.out, HDS.out, HST2.out, if_pos (.inr (by rw [← HX.out]; exact of_decide_eq_false HBQ.out.symm))]
                        rfl)
                      have HBF : Hid (Below w.heap.size w W) := Lib.hid (below_then HB.out HB.out.size HBZ.out)
                      go_wp2
                      go_ret2
                      exact ⟨HBF.out, .inr ⟨HE.out, rfl⟩⟩
                    | true =>
                      have HDN : Hid (CodeMath.decS s = (CodeMath.decS (r.drop 4)).map (out ++ x ++ ·)) := Lib.hid (by
                        have hq : CodeMath.grp x = q := of_decide_eq_true HBQ.out.symm
                        rw [HDS.out, HST2.out, if_neg (by rintro (h | h); exact HNC.out h; exact h (by rw [← HX.out]; exact hq)), ← HX.out]
                        cases CodeMath.decS (r.drop 4) <;> simp)
                      obtain ⟨v3, W3, hrun3, ho3, hts3⟩ := appb_run (m := (1)) (c := 3) HOW.out HZ.out HRXW.out HXL.out.symm HBZ.out.size (by rw [← HNO.out, HXL.out]; omega)
                      have HO3 := Lib.hid ho3
                      have HB3 : Hid (Below wL.heap.size wL W3) := Lib.hid (HBZ.out.trans hts3.1)
                      obtain ⟨A3, c3, hv3, hc3, _⟩ := ho3.rd
                      have HL3 : Hid ((out ++ x).length = no + (1)) := Lib.hid (by rw [List.length_append, HXL.out, ← HNO.out])
                      rw [HL3.out] at hv3 hc3
                      subst hv3
                      have HRUN3 := Lib.hid hrun3
                      have hrl : (r.drop 4).length = nr - 4 := by rw [List.length_drop, ← HNR.out]
                      have HRL := Lib.hid hrl
                      have HZ3 : Hid (out ++ x = [] → Value.slice A3 (no + (1)) c3 = .slice none 0 0) := Lib.hid fun e => by have := HXL.out; rw [List.append_eq_nil_iff] at e; rw [e.2] at this; simp at this
                      clear hrun3 ho3 hts3 hrl HOW HRXW
                      by_cases hcx : cr = 4
                      · have hcx' := hcx.symm
                        clear hcx
                        subst hcx'
                        have he0 : r.drop 4 = [] := List.eq_nil_of_length_eq_zero (by rw [HRL.out]; omega)
                        have HE0 := Lib.hid he0
                        have hrl0 : (r.drop 4).length = 0 := by rw [he0]; rfl
                        have HRL0 := Lib.hid hrl0
                        clear he0 hrl0
                        go_wp2_with (at_builtin; refine Lib.wpList_append_run _ rfl _ _ _ _ rfl _ _ rfl rfl _ _ HRUN3.out ?_)
                        go_roundw
                        case rel => exact ⟨out ++ x, r.drop 4, some a, 0, by rw [HRL0.out], by rw [HRL0.out]; exact Nat.le_refl _, by rw [HRL0.out], fun W hW => by rw [HE0.out]; exact Rd.none', HDN.out, HO3.out, HZ3.out, HB3.out, by rw [HRL0.out, HL3.out]; omega⟩
                        case measure => simp only [lenV2]; omega
                      · go_wp2_with (at_builtin; refine Lib.wpList_append_run _ rfl _ _ _ _ rfl _ _ rfl rfl _ _ HRUN3.out ?_)
                        go_roundw
                        case rel => exact ⟨out ++ x, r.drop 4, some (a.add 4), cr - 4, by rw [HRL.out]; first | rfl | simp [Addr.add], by rw [HRL.out]; omega, by rw [HRL.out]; omega, fun W hW => (HRD.out W hW).drop 4, HDN.out, HO3.out, HZ3.out, HB3.out, by rw [HRL.out, HL3.out]; omega⟩
                        case measure => simp only [lenV2]; omega
                · obtain rfl : k = 2 := by omega
                  clear hkof hwK
                  obtain ⟨x, hx⟩ : ∃ x, x = (CodeMath.b3 Q).take (2) := ⟨_, rfl⟩
                  have hxl : x.length = (2) := by rw [hx, List.length_take]; show min (2) 3 = _; omega
                  obtain ⟨V1, hV1⟩ : ∃ V1, V1 = wr.alloc (.cells #[.int .u8 ((Q : Int) / 65536), .int .u8 ((Q : Int) / 256 % 256), .int .u8 ((Q : Int) % 256)] 5) := ⟨_, rfl⟩
                  have hbV : Below wr.heap.size wr V1 := by rw [hV1]; exact (Below.refl _ wr).alloc (Nat.le_refl _) _
                  have hrx : Rd V1 (some ⟨wr.heap.size, 0, none⟩) x := by
                    rw [hx]
                    exact (Rd.of_block (l := CodeMath.b3 Q) (show V1.heap[wr.heap.size]? = some (.cells (bv (CodeMath.b3 Q)) 5) by rw [hV1, b3_bv Q hQ]; exact heap_new wr _ _ rfl) (by show 3 ≤ _; decide)).take (2)
                  have HX := Lib.hid hx; have HXL := Lib.hid hxl; have HV1 := Lib.hid hV1; have HRX := Lib.hid hrx
                  have HBV0 := Lib.hid hbV
                  have HBV : Hid (Below wL.heap.size wL V1) := Lib.hid (below_then HBM.out HBM.out.size hbV)
                  clear hx hxl hV1 hrx hbV
                  by_cases hgt : 4 < nr
                  · have hgti : (4 : Int) < nr := by omega
                    have HE : Hid (CodeMath.dec b = none) := Lib.hid (by
                      rw [HD.out, HDS.out, HST2.out, if_pos (.inl ⟨by decide, by rw [← HNR.out]; exact hgt⟩)]
                      rfl)
                    clear hgt
                    go_wp2_with fail
                    rw [← HV1.out]
                    refine wp_region_tbl _ (fun _ => none) (V1.heap.size) (by kernel_rfl) (by kernel_rfl) (by kernel_rfl) ?_
                    repeat (first | (refine wpR_plain ?_ (by rfl) (fun K hK => ?_); (focus (first | (simp only [Region.wanted]; done) | (go_simp; done))); apply Exists.intro; refine ⟨fun W hW => ?_, ?_⟩; (go_simp; (try simp only [plainUpon_value, true_and]); rfl); go_simp; refine hK _ ?_; clear hK K) | (refine wpR_skip ?_ (fun K hK => ?_); (focus (first | (simp only [Region.wanted]; done) | (go_simp; done) | (simp [Region.wanted, yielded, undef]; done) | (go_simp; simp [undef]; done) | (go_simp; decide) | rfl)); go_simp; refine hK _ ?_; clear hK K))
                    refine wpR_nil (fun W hW hF => ?_)
                    have HBW : Hid (Below w.heap.size w W) := Lib.hid (below_then HB.out HB.out.size (below_then HBV.out HBV.out.size ((Below.drew (Below.refl V1.heap.size V1)).trans hW.1)))
                    clear hW hF
                    go_wp2
                    go_ret2
                    exact ⟨HBW.out, .inr ⟨HE.out, rfl⟩⟩
                  · have hgti : decide ((4 : Int) < nr) = false := decide_eq_false (by omega)
                    have hno : ¬ (((2) < 3 ∧ 4 < r.length)) := by rw [← HNR.out]; omega
                    have HNC := Lib.hid hno
                    clear hno hgt
                    have hgp : ∀ W, CB V1.drew W → Calls Tryd.prog 19 #[.slice (some ⟨wr.heap.size, 0, none⟩) (2) 3] W fun e w' => ∃ v, e = .returned v ∧ shpn 4 v ∧ Sl w' v (CodeMath.grp x) ∧ CB W w' := fun W hW => by
                      have h1 := grp_any W (some ⟨wr.heap.size, 0, none⟩) 3 x (HRX.out.below ((Below.drew (Below.refl _ V1)).trans hW)) (by rw [HXL.out]; decide) (by rw [HXL.out]; decide) (by rw [HXL.out]; decide)
                      rw [HXL.out] at h1
                      refine h1.mono ?_
                      rintro e w' ⟨v, rfl, h2, h3⟩
                      obtain ⟨A', c', rfl, h4, _⟩ := h2.rd
                      exact ⟨_, rfl, ⟨A', c', rfl, h4⟩, h2.sl, h3⟩
                    have hrq : ∀ W, CB V1.drew W → Rd W (some a) q := fun W hW => by
                      rw [HQ.out]
                      exact (HRD.out W (below_then HBV.out HBV.out.size ((Below.drew (Below.refl _ V1)).trans hW))).take 4
                    have hbW : ∀ W, CB V1.drew W → Below wL.heap.size wL W := fun W hW => below_then HBV.out HBV.out.size ((Below.drew (Below.refl _ V1)).trans hW)
                    have HGP := Lib.hid hgp; have HRQ := Lib.hid hrq; have HBW := Lib.hid hbW
                    obtain ⟨bq, hbq⟩ : ∃ bq, bq = decide (CodeMath.grp x = q) := ⟨_, rfl⟩
                    have HBQ := Lib.hid hbq
                    clear hgp hrq hbW hbq
                    go_wp2_with fail
                    rw [← HV1.out]
                    refine Stu.wp_region_stu _ (Stu.mkT [(9, cslS 4 (CodeMath.grp x)), (12, cvaS (.bool bq))]) (fun _ => True) [] CB.refl (fun _ _ _ => CB.trans) (fun _ _ h => h) (fun _ _ _ _ => trivial) trivial (Stu.mkT_ks _ (by show List.Nodup [9, 12]; decide) _ rfl) (by kernel_rfl) (by kernel_rfl) (by kernel_rfl) ?_
                    repeat (first
                      | (refine Stu.wpR_plain ?_ (by rfl) (by rfl) (fun K hK => ?_); (focus (first | (simp only [Region.wanted]; done) | (go_simp; done))); apply Exists.intro; refine ⟨fun W hW => ?_, ?_⟩; (go_simp; (try simp only [Stu.plainUpon_value, true_and]); rfl); go_simp; refine hK _ ?_; clear hK K)
                      | (refine Stu.wpR_skip ?_ (fun K hK => ?_); (focus (first | (simp only [Region.wanted]; done) | (go_simp; done) | (simp [Region.wanted, yielded, undef]; done) | (go_simp; simp [undef]; done) | (go_simp; decide) | rfl)); go_simp; refine hK _ ?_; clear hK K)
                      | (refine Stu.wpR_spg (by rfl) (by rfl) ?_ ?_ (fun W hW hF => ?_) (fun K v hv hK => ?_); (focus (first | (simp only [Region.wanted]; done) | (go_simp; done))); (focus (exact ⟨_, none, _, rfl, Nat.le_refl _⟩)); (go_simp; simp only [Stu.relUpon_enter]; refine (HGP.out W hW).mono ?_; rintro e w' ⟨v, rfl, h1, h2, h3⟩; exact ⟨_, rfl, h3, h1, h2⟩); (obtain ⟨A9, c9, rfl, hc9⟩ := hv); go_simp; refine hK _ ?_; clear hK K))
                    (refine Stu.wpR_spg (by rfl) (by rfl) ?_ ?_ (fun W hW hF => ?_) (fun K v hv hK => ?_); (focus (first | (simp only [Region.wanted]; done) | (go_simp; done))); (focus (exact ⟨_, rfl⟩)); (go_simp; simp only [Stu.relUpon_enter]; refine (beq_any W A9 (some a) 4 4 c9 cr _ q (show Sl W (.slice A9 4 c9) (CodeMath.grp x) from hF 9 rfl).rd' (HRQ.out W hW) (CodeMath.grp_len _) HQL.out).mono ?_; rintro e w' ⟨rfl, rfl⟩; exact ⟨_, rfl, Below.refl _ _, by rw [HBQ.out]; rfl, trivial⟩); (cases hv); go_simp; refine hK _ ?_; clear hK K)
                    repeat (refine Stu.wpR_plain ?_ (by rfl) (by rfl) (fun K hK => ?_); (focus (first | (simp only [Region.wanted]; done) | (go_simp; done))); apply Exists.intro; refine ⟨fun W hW => ?_, ?_⟩; (go_simp; (try simp only [Stu.plainUpon_value, true_and]); rfl); go_simp; refine hK _ ?_; clear hK K)
                    refine Stu.wpR_nil (fun W hW hU hF => ?_)
                    have hb1W : Below V1.heap.size V1 W := (Below.drew (Below.refl _ V1)).trans hW
                    have HBZ := Lib.hid (HBW.out W hW)
                    have hoW := (HO.out.below HBV0.out).below hb1W
                    have hrxW := HRX.out.below hb1W
                    have HOW := Lib.hid hoW; have HRXW := Lib.hid hrxW
                    clear hb1W hoW hrxW hF hW hU HBW HRQ HGP HRX HBV0 HBV HV1 HO
                    cases bq with
                    | false =>
                      have HE : Hid (CodeMath.dec b = none) := Lib.hid (by
                        rw [HD.out, HDS.out, HST2.out, if_pos (.inr (by rw [← HX.out]; exact of_decide_eq_false HBQ.out.symm))]
                        rfl)
                      have HBF : Hid (Below w.heap.size w W) := Lib.hid (below_then HB.out HB.out.size HBZ.out)
                      go_wp2
                      go_ret2
                      exact ⟨HBF.out, .inr ⟨HE.out, rfl⟩⟩
                    | true =>
                      have HDN : Hid (CodeMath.decS s = (CodeMath.decS (r.drop 4)).map (out ++ x ++ ·)) := Lib.hid (by
                        have hq : CodeMath.grp x = q := of_decide_eq_true HBQ.out.symm
                        rw [HDS.out, HST2.out, if_neg (by rintro (h | h); exact HNC.out h; exact h (by rw [← HX.out]; exact hq)), ← HX.out]
                        cases CodeMath.decS (r.drop 4) <;> simp)
                      obtain ⟨v3, W3, hrun3, ho3, hts3⟩ := appb_run (m := (2)) (c := 3) HOW.out HZ.out HRXW.out HXL.out.symm HBZ.out.size (by rw [← HNO.out, HXL.out]; omega)
                      have HO3 := Lib.hid ho3
                      have HB3 : Hid (Below wL.heap.size wL W3) := Lib.hid (HBZ.out.trans hts3.1)
                      obtain ⟨A3, c3, hv3, hc3, _⟩ := ho3.rd
                      have HL3 : Hid ((out ++ x).length = no + (2)) := Lib.hid (by rw [List.length_append, HXL.out, ← HNO.out])
                      rw [HL3.out] at hv3 hc3
                      subst hv3
                      have HRUN3 := Lib.hid hrun3
                      have hrl : (r.drop 4).length = nr - 4 := by rw [List.length_drop, ← HNR.out]
                      have HRL := Lib.hid hrl
                      have HZ3 : Hid (out ++ x = [] → Value.slice A3 (no + (2)) c3 = .slice none 0 0) := Lib.hid fun e => by have := HXL.out; rw [List.append_eq_nil_iff] at e; rw [e.2] at this; simp at this
                      clear hrun3 ho3 hts3 hrl HOW HRXW
                      by_cases hcx : cr = 4
                      · have hcx' := hcx.symm
                        clear hcx
                        subst hcx'
                        have he0 : r.drop 4 = [] := List.eq_nil_of_length_eq_zero (by rw [HRL.out]; omega)
                        have HE0 := Lib.hid he0
                        have hrl0 : (r.drop 4).length = 0 := by rw [he0]; rfl
                        have HRL0 := Lib.hid hrl0
                        clear he0 hrl0
                        go_wp2_with (at_builtin; refine Lib.wpList_append_run _ rfl _ _ _ _ rfl _ _ rfl rfl _ _ HRUN3.out ?_)
                        go_roundw
                        case rel => exact ⟨out ++ x, r.drop 4, some a, 0, by rw [HRL0.out], by rw [HRL0.out]; exact Nat.le_refl _, by rw [HRL0.out], fun W hW => by rw [HE0.out]; exact Rd.none', HDN.out, HO3.out, HZ3.out, HB3.out, by rw [HRL0.out, HL3.out]; omega⟩
                        case measure => simp only [lenV2]; omega
                      · go_wp2_with (at_builtin; refine Lib.wpList_append_run _ rfl _ _ _ _ rfl _ _ rfl rfl _ _ HRUN3.out ?_)
                        go_roundw
                        case rel => exact ⟨out ++ x, r.drop 4, some (a.add 4), cr - 4, by rw [HRL.out]; first | rfl | simp [Addr.add], by rw [HRL.out]; omega, by rw [HRL.out]; omega, fun W hW => (HRD.out W hW).drop 4, HDN.out, HO3.out, HZ3.out, HB3.out, by rw [HRL.out, HL3.out]; omega⟩
                        case measure => simp only [lenV2]; omega
                · obtain rfl : k = 3 := by omega
                  clear hkof hwK
                  obtain ⟨x, hx⟩ : ∃ x, x = (CodeMath.b3 Q).take (3) := ⟨_, rfl⟩
                  have hxl : x.length = (3) := by rw [hx, List.length_take]; show min (3) 3 = _; omega
                  obtain ⟨V1, hV1⟩ : ∃ V1, V1 = wr.alloc (.cells #[.int .u8 ((Q : Int) / 65536), .int .u8 ((Q : Int) / 256 % 256), .int .u8 ((Q : Int) % 256)] 5) := ⟨_, rfl⟩
                  have hbV : Below wr.heap.size wr V1 := by rw [hV1]; exact (Below.refl _ wr).alloc (Nat.le_refl _) _
                  have hrx : Rd V1 (some ⟨wr.heap.size, 0, none⟩) x := by
                    rw [hx]
                    exact (Rd.of_block (l := CodeMath.b3 Q) (show V1.heap[wr.heap.size]? = some (.cells (bv (CodeMath.b3 Q)) 5) by rw [hV1, b3_bv Q hQ]; exact heap_new wr _ _ rfl) (by show 3 ≤ _; decide)).take (3)
                  have HX := Lib.hid hx; have HXL := Lib.hid hxl; have HV1 := Lib.hid hV1; have HRX := Lib.hid hrx
                  have HBV0 := Lib.hid hbV
                  have HBV : Hid (Below wL.heap.size wL V1) := Lib.hid (below_then HBM.out HBM.out.size hbV)
                  clear hx hxl hV1 hrx hbV
                  have hno : ¬ ((3 < 3 ∧ 4 < r.length)) := by omega
                  have HNC := Lib.hid hno
                  clear hno
                  have hgp : ∀ W, CB V1.drew W → Calls Tryd.prog 19 #[.slice (some ⟨wr.heap.size, 0, none⟩) (3) 3] W fun e w' => ∃ v, e = .returned v ∧ shpn 4 v ∧ Sl w' v (CodeMath.grp x) ∧ CB W w' := fun W hW => by
                    have h1 := grp_any W (some ⟨wr.heap.size, 0, none⟩) 3 x (HRX.out.below ((Below.drew (Below.refl _ V1)).trans hW)) (by rw [HXL.out]; decide) (by rw [HXL.out]; decide) (by rw [HXL.out]; decide)
                    rw [HXL.out] at h1
                    refine h1.mono ?_
                    rintro e w' ⟨v, rfl, h2, h3⟩
                    obtain ⟨A', c', rfl, h4, _⟩ := h2.rd
                    exact ⟨_, rfl, ⟨A', c', rfl, h4⟩, h2.sl, h3⟩
                  have hrq : ∀ W, CB V1.drew W → Rd W (some a) q := fun W hW => by
                    rw [HQ.out]
                    exact (HRD.out W (below_then HBV.out HBV.out.size ((Below.drew (Below.refl _ V1)).trans hW))).take 4
                  have hbW : ∀ W, CB V1.drew W → Below wL.heap.size wL W := fun W hW => below_then HBV.out HBV.out.size ((Below.drew (Below.refl _ V1)).trans hW)
                  have HGP := Lib.hid hgp; have HRQ := Lib.hid hrq; have HBW := Lib.hid hbW
                  obtain ⟨bq, hbq⟩ : ∃ bq, bq = decide (CodeMath.grp x = q) := ⟨_, rfl⟩
                  have HBQ := Lib.hid hbq
                  clear hgp hrq hbW hbq
                  go_wp2_with fail
                  rw [← HV1.out]
                  refine Stu.wp_region_stu _ (Stu.mkT [(9, cslS 4 (CodeMath.grp x)), (12, cvaS (.bool bq))]) (fun _ => True) [] CB.refl (fun _ _ _ => CB.trans) (fun _ _ h => h) (fun _ _ _ _ => trivial) trivial (Stu.mkT_ks _ (by show List.Nodup [9, 12]; decide) _ rfl) (by kernel_rfl) (by kernel_rfl) (by kernel_rfl) ?_
                  repeat (first
                    | (refine Stu.wpR_plain ?_ (by rfl) (by rfl) (fun K hK => ?_); (focus (first | (simp only [Region.wanted]; done) | (go_simp; done))); apply Exists.intro; refine ⟨fun W hW => ?_, ?_⟩; (go_simp; (try simp only [Stu.plainUpon_value, true_and]); rfl); go_simp; refine hK _ ?_; clear hK K)
                    | (refine Stu.wpR_skip ?_ (fun K hK => ?_); (focus (first | (simp only [Region.wanted]; done) | (go_simp; done) | (simp [Region.wanted, yielded, undef]; done) | (go_simp; simp [undef]; done) | (go_simp; decide) | rfl)); go_simp; refine hK _ ?_; clear hK K)
                    | (refine Stu.wpR_spg (by rfl) (by rfl) ?_ ?_ (fun W hW hF => ?_) (fun K v hv hK => ?_); (focus (first | (simp only [Region.wanted]; done) | (go_simp; done))); (focus (exact ⟨_, none, _, rfl, Nat.le_refl _⟩)); (go_simp; simp only [Stu.relUpon_enter]; refine (HGP.out W hW).mono ?_; rintro e w' ⟨v, rfl, h1, h2, h3⟩; exact ⟨_, rfl, h3, h1, h2⟩); (obtain ⟨A9, c9, rfl, hc9⟩ := hv); go_simp; refine hK _ ?_; clear hK K))
                  (refine Stu.wpR_spg (by rfl) (by rfl) ?_ ?_ (fun W hW hF => ?_) (fun K v hv hK => ?_); (focus (first | (simp only [Region.wanted]; done) | (go_simp; done))); (focus (exact ⟨_, rfl⟩)); (go_simp; simp only [Stu.relUpon_enter]; refine (beq_any W A9 (some a) 4 4 c9 cr _ q (show Sl W (.slice A9 4 c9) (CodeMath.grp x) from hF 9 rfl).rd' (HRQ.out W hW) (CodeMath.grp_len _) HQL.out).mono ?_; rintro e w' ⟨rfl, rfl⟩; exact ⟨_, rfl, Below.refl _ _, by rw [HBQ.out]; rfl, trivial⟩); (cases hv); go_simp; refine hK _ ?_; clear hK K)
                  repeat (refine Stu.wpR_plain ?_ (by rfl) (by rfl) (fun K hK => ?_); (focus (first | (simp only [Region.wanted]; done) | (go_simp; done))); apply Exists.intro; refine ⟨fun W hW => ?_, ?_⟩; (go_simp; (try simp only [Stu.plainUpon_value, true_and]); rfl); go_simp; refine hK _ ?_; clear hK K)
                  refine Stu.wpR_nil (fun W hW hU hF => ?_)
                  have hb1W : Below V1.heap.size V1 W := (Below.drew (Below.refl _ V1)).trans hW
                  have HBZ := Lib.hid (HBW.out W hW)
                  have hoW := (HO.out.below HBV0.out).below hb1W
                  have hrxW := HRX.out.below hb1W
                  have HOW := Lib.hid hoW; have HRXW := Lib.hid hrxW
                  clear hb1W hoW hrxW hF hW hU HBW HRQ HGP HRX HBV0 HBV HV1 HO
                  cases bq with
                  | false =>
                    have HE : Hid (CodeMath.dec b = none) := Lib.hid (by
                      rw [HD.out, HDS.out, HST2.out, if_pos (.inr (by rw [← HX.out]; exact of_decide_eq_false HBQ.out.symm))]
                      rfl)
                    have HBF : Hid (Below w.heap.size w W) := Lib.hid (below_then HB.out HB.out.size HBZ.out)
                    go_wp2
                    go_ret2
                    exact ⟨HBF.out, .inr ⟨HE.out, rfl⟩⟩
                  | true =>
                    have HDN : Hid (CodeMath.decS s = (CodeMath.decS (r.drop 4)).map (out ++ x ++ ·)) := Lib.hid (by
                      have hq : CodeMath.grp x = q := of_decide_eq_true HBQ.out.symm
                      rw [HDS.out, HST2.out, if_neg (by rintro (h | h); exact HNC.out h; exact h (by rw [← HX.out]; exact hq)), ← HX.out]
                      cases CodeMath.decS (r.drop 4) <;> simp)
                    obtain ⟨v3, W3, hrun3, ho3, hts3⟩ := appb_run (m := (3)) (c := 3) HOW.out HZ.out HRXW.out HXL.out.symm HBZ.out.size (by rw [← HNO.out, HXL.out]; omega)
                    have HO3 := Lib.hid ho3
                    have HB3 : Hid (Below wL.heap.size wL W3) := Lib.hid (HBZ.out.trans hts3.1)
                    obtain ⟨A3, c3, hv3, hc3, _⟩ := ho3.rd
                    have HL3 : Hid ((out ++ x).length = no + (3)) := Lib.hid (by rw [List.length_append, HXL.out, ← HNO.out])
                    rw [HL3.out] at hv3 hc3
                    subst hv3
                    have HRUN3 := Lib.hid hrun3
                    have hrl : (r.drop 4).length = nr - 4 := by rw [List.length_drop, ← HNR.out]
                    have HRL := Lib.hid hrl
                    have HZ3 : Hid (out ++ x = [] → Value.slice A3 (no + (3)) c3 = .slice none 0 0) := Lib.hid fun e => by have := HXL.out; rw [List.append_eq_nil_iff] at e; rw [e.2] at this; simp at this
                    clear hrun3 ho3 hts3 hrl HOW HRXW
                    by_cases hcx : cr = 4
                    · have hcx' := hcx.symm
                      clear hcx
                      subst hcx'
                      have he0 : r.drop 4 = [] := List.eq_nil_of_length_eq_zero (by rw [HRL.out]; omega)
                      have HE0 := Lib.hid he0
                      have hrl0 : (r.drop 4).length = 0 := by rw [he0]; rfl
                      have HRL0 := Lib.hid hrl0
                      clear he0 hrl0
                      go_wp2_with (at_builtin; refine Lib.wpList_append_run _ rfl _ _ _ _ rfl _ _ rfl rfl _ _ HRUN3.out ?_)
                      go_roundw
                      case rel => exact ⟨out ++ x, r.drop 4, some a, 0, by rw [HRL0.out], by rw [HRL0.out]; exact Nat.le_refl _, by rw [HRL0.out], fun W hW => by rw [HE0.out]; exact Rd.none', HDN.out, HO3.out, HZ3.out, HB3.out, by rw [HRL0.out, HL3.out]; omega⟩
                      case measure => simp only [lenV2]; omega
                    · go_wp2_with (at_builtin; refine Lib.wpList_append_run _ rfl _ _ _ _ rfl _ _ rfl rfl _ _ HRUN3.out ?_)
                      go_roundw
                      case rel => exact ⟨out ++ x, r.drop 4, some (a.add 4), cr - 4, by rw [HRL.out]; first | rfl | simp [Addr.add], by rw [HRL.out]; omega, by rw [HRL.out]; omega, fun W hW => (HRD.out W hW).drop 4, HDN.out, HO3.out, HZ3.out, HB3.out, by rw [HRL.out, HL3.out]; omega⟩
                      case measure => simp only [lenV2]; omega
      · have h4i : ¬ (ns : Int) % 4 = 0 := by omega
        have h4t : ¬ Int.tmod (ns : Int) 4 = 0 := by rw [Int.tmod_eq_emod_of_nonneg (by omega)]; exact h4i
        have h4b : (Int.tmod (ns : Int) 4 == 0) = false := by rw [beq_eq_false_iff_ne]; exact h4t
        have HD : Hid (CodeMath.dec b = none) := Lib.hid (by rw [HDEC.out, if_pos h4])
        clear HDEC
        go_wp2
        go_ret2
        exact ⟨HB.out, .inr ⟨HD.out, rfl⟩⟩
end Go.Proofs.YtgaccogekmaijaaDoor
