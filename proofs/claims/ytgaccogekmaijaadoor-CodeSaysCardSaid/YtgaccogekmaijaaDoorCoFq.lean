/- Bytes quoted are read. -/
import Derived.Test.YtgaccogekmaijaaDoorCoBl2
import Derived.Test.YtgaccogekmaijaaDoorCoB64
namespace CodeMath
theorem fqS_blank (r : List UInt8) (h : 0 < blankN r) : fqS r = fqS (r.drop (blankN r)) := by
  cases r with
  | nil => simp [fqS, fqF]
  | cons c t => rw [fqS_cons, if_pos h]
theorem fqS_soft (r : List UInt8) (h : blankN r = 0) (hs : soft r = true) : fqS r = fqS (r.drop 3) := by
  cases r with
  | nil => rfl
  | cons c t => rw [fqS_cons, if_neg (by omega), if_pos hs]
theorem fqS_else (c : UInt8) (t : List UInt8) (h : blankN (c :: t) = 0) (hs : soft (c :: t) = false) (hx : hexAt (c :: t) = none) : fqS (c :: t) = c :: fqS t := by
  rw [fqS_cons, if_neg (by omega), if_neg (by rw [hs]; decide), hx]
theorem fqS_hex (d e : UInt8) (t : List UInt8) (p q : Nat) (hs : soft (61 :: d :: e :: t) = false) (h1 : digit d = some p) (h2 : digit e = some q) : fqS (61 :: d :: e :: t) = UInt8.ofNat (p * 16 + q) :: fqS t := by
  have hb : blankN (61 :: d :: e :: t) = 0 := blankN_nb 61 _ (by decide)
  have hx : hexAt (61 :: d :: e :: t) = some (UInt8.ofNat (p * 16 + q)) := by simp only [hexAt, h1, h2, if_true]
  rw [fqS_cons, if_neg (by omega), if_neg (by rw [hs]; decide), hx]
  rfl
theorem hexAt_ne (c : UInt8) (t : List UInt8) (h : c ≠ 61) : hexAt (c :: t) = none := by
  match t with
  | [] => rfl
  | [_] => rfl
  | d :: e :: t => simp [hexAt, h]
theorem digV_some {c : UInt8} {n : Nat} (h : digit c = some n) : digV c = n := by unfold digV; rw [h]
theorem digV_none {c : UInt8} (h : digit c = none) : digV c = -1 := by unfold digV; rw [h]
end CodeMath
namespace Go.Proofs.YtgaccogekmaijaaDoor
open Go.RowKit Go.Maps
set_option linter.unusedVariables false
set_option linter.unusedSimpArgs false
attribute [local irreducible] wpR relOp Stu.wpR Stu.relOp
def svlS (base : Nat) (v0 : Value) : Stu.SpU (TS base) (Gs base) := ⟨false, fun _ v => v = v0, fun _ _ _ => True, fun _ _ => True, fun _ _ _ _ _ _ => trivial, fun _ _ _ _ _ => trivial⟩
theorem digit_rel {W : World} {base : Nat} (hB : base ≤ W.heap.size) (x : UInt8) (n : Int) (hn : CodeMath.digV x = n) (xs : List Value) :
    Calls Tryd.prog 25 #[.int .u8 (x.toNat : Int)] W fun e w'' => ∃ v, e = .returned v ∧ Gs base W w'' ∧ ((svlS base (.int .i64 n)).p xs v ∧ (svlS base (.int .i64 n)).q xs v w'') := by
  refine (digit_any W x).mono ?_
  rintro e w' ⟨rfl, rfl⟩
  exact ⟨_, rfl, ⟨Below.refl _ _, hB⟩, by rw [hn]; rfl, trivial⟩
theorem or_four (p q : Nat) (hp : p < 16) (hq : q < 16) : bits .or .i64 ((p : Int) * 16) (q : Int) = ((p * 16 + q : Nat) : Int) := by
  rw [bits_join .i64 63 (by decide) (fun n h0 h1 => by rw [IntKind.wrap_i64]; omega) 4 _ _ (by omega) (by omega) (by omega) (by omega) (by omega) (by omega)]
  simp
theorem pfx3 (w : World) (A : Option Addr) (n c : Nat) (l : List UInt8) (h1 : Rd w A l) (hn : l.length = n) (hc : n ≤ c) :
    Calls Tryd.prog 24 #[.slice A n c, .slice (some ⟨w.heap.size, 0, none⟩) 3 3] (w.alloc (.cells #[.int .u8 61, .int .u8 13, .int .u8 10] 5 (3, 4))) fun e w' => e = .returned (.bool (CodeMath.soft l)) ∧ Below w.heap.size w w' := by
  have := pfx_const w A n c l [61, 13, 10] h1 hn hc (3, 4) (by decide)
  refine this.mono ?_
  rintro e w' ⟨rfl, h⟩
  refine ⟨?_, h⟩
  rw [← pfx_soft, hn]
  rfl
set_option maxRecDepth 20000 in
set_option maxHeartbeats 8000000 in
theorem fromq_any (w : World) (A : Option Addr) (c : Nat) (b : List UInt8) (hr : Rd w A b) (hc : b.length ≤ c) (hcap : c ≤ 9223372036854775807) (hl : b.length ≤ 10000000) :
    Calls Tryd.prog 11 #[.slice A b.length c] w fun e w' => ∃ v, e = .returned v ∧ Ob w' w.heap.size 5 v (CodeMath.fqS b) ∧ Below w.heap.size w w' := by
  obtain ⟨m, hm⟩ : ∃ m, m = b.length := ⟨_, rfl⟩
  rw [← hm] at hc hl ⊢
  have HM := Lib.hid hm; have HR := Lib.hid hr
  clear hm hr
  go_enter Tryd.func11, Tryd.ntmps11
  go_wp2_with fail
  go_loopw [0, 3, 4, 18, 24, 31] (fun vb vo _ _ _ _ wr => ∃ (pre r : List UInt8) (Ab : Option Addr) (cb : Nat), vb = .slice Ab r.length cb ∧ r.length ≤ cb ∧ cb ≤ c ∧ (∀ W, Below w.heap.size w W → Rd W Ab r) ∧ CodeMath.fqS b = pre ++ CodeMath.fqS r ∧ Ob wr w.heap.size 5 vo pre ∧ (pre = [] → vo = .slice none 0 0) ∧ Below w.heap.size w wr ∧ pre.length + r.length ≤ m) (fun vb _ _ _ _ _ _ => lenV2 vb)
  case atStart => exact ⟨[], b, A, c, by rw [HM.out], by rw [← HM.out]; exact hc, Nat.le_refl _, fun W hW => HR.out.below hW, rfl, Ob.nil _ _ _, fun _ => rfl, Below.refl _ _, by rw [HM.out]; simp⟩
  case round =>
    rename World => wL
    obtain ⟨pre, r, Ab, cb, rfl, hcb, hcbc, hrd, henc, hob, hz, hb, hrm⟩ := hrel
    obtain ⟨nr, hnr⟩ : ∃ nr, nr = r.length := ⟨_, rfl⟩
    obtain ⟨np, hnp⟩ : ∃ np, np = pre.length := ⟨_, rfl⟩
    obtain ⟨A0, c00, hv0, hc00, _⟩ := hob.rd
    rw [← hnp] at hv0 hc00
    subst hv0
    rw [← hnr] at hcb hrm ⊢
    rw [← hnp] at hrm
    have HNR := Lib.hid hnr; have HNP := Lib.hid hnp; have HRD := Lib.hid hrd; have HE := Lib.hid henc; have HO := Lib.hid hob; have HZ := Lib.hid hz; have HB := Lib.hid hb
    clear hnr hnp hrd henc hob hz hb
    have hBs : w.heap.size ≤ wL.heap.size := HB.out.size
    cases r with
    | nil =>
      obtain rfl : nr = 0 := HNR.out
      have HRES : Hid (CodeMath.fqS b = pre) := Lib.hid (by rw [HE.out, CodeMath.fqS_nil, List.append_nil])
      go_wp2
      go_ret
      exact ⟨_, rfl, by rw [HRES.out]; exact HO.out, HB.out⟩
    | cons x t =>
      have hnr1 : 1 ≤ nr := by have := HNR.out; simp at this; omega
      have hnr0i : (0 : Int) < nr := by omega
      obtain ⟨a, rfl, _⟩ := (HRD.out wL HB.out).2 (by simp)
      have hbl := blank_any wL (some a) nr cb (x :: t) (HRD.out wL HB.out) HNR.out.symm hcb (by omega)
      have hble : CodeMath.blankN (x :: t) ≤ nr := by
        have := CodeMath.lead_le (x :: t)
        rw [← HNR.out] at this
        unfold CodeMath.blankN
        split <;> omega
      obtain ⟨k, hk⟩ : ∃ k, k = CodeMath.blankN (x :: t) := ⟨_, rfl⟩
      rw [← hk] at hbl hble
      have HBL := Lib.hid hbl
      clear hbl
      by_cases hk0 : 0 < k
      · have hk0i : (0 : Int) < k := by omega
        have hkc : k ≤ cb := by omega
        have hkni : (k : Int) ≤ nr := by omega
        have hkci : (k : Int) ≤ cb := by omega
        have HST : Hid (CodeMath.fqS (x :: t) = CodeMath.fqS ((x :: t).drop k)) := Lib.hid (by rw [hk]; exact CodeMath.fqS_blank _ (by omega))
        obtain ⟨r2, hr2⟩ : ∃ r2, r2 = (x :: t).drop k := ⟨_, rfl⟩
        have HRS : Hid (r2.length = nr - k) := Lib.hid (by rw [hr2, List.length_drop, HNR.out])
        have HR2 : Hid (∀ W, Below w.heap.size w W → Rd W (some (a.add k)) r2) := Lib.hid fun W hW => by rw [hr2]; exact (HRD.out W hW).drop k
        have HEN : Hid (CodeMath.fqS b = pre ++ CodeMath.fqS r2) := Lib.hid (by rw [HE.out, HST.out, hr2])
        have HL3 : Hid (pre.length = np) := Lib.hid HNP.out.symm
        have HZ3 := HZ
        clear hk hr2
        go_wp2_with fail
        refine HBL.out.mono ?_
        rintro e w1 ⟨rfl, hb1⟩
        have HB3 : Hid (Below w.heap.size w w1) := Lib.hid (below_then HB.out HB.out.size hb1)
        have HO3 := Lib.hid (HO.out.below hb1)
        clear hb1 HBL
        by_cases hcx : cb = (k)
        · have hcx' := hcx.symm
          clear hcx
          subst hcx'
          have he0 : r2 = [] := List.eq_nil_of_length_eq_zero (by rw [HRS.out]; omega)
          have HE0 := Lib.hid he0
          have hrl0 : r2.length = 0 := by rw [he0]; rfl
          have HRL0 := Lib.hid hrl0
          clear he0 hrl0
          go_wp2
          go_roundw
          case rel => exact ⟨_, r2, some a, 0, by rw [HRL0.out], by rw [HRL0.out]; exact Nat.le_refl _, by omega, fun W hW => by rw [HE0.out]; exact Rd.none', HEN.out, HO3.out, HZ3.out, HB3.out, by rw [HRL0.out]; have := HL3.out; omega⟩
          case measure => (simp only [lenV2]); (try omega)
        · go_wp2
          go_roundw
          case rel => exact ⟨_, r2, some (a.add (k)), cb - (k), by first | (rw [HRS.out]; done) | (rw [HRS.out]; first | rfl | simp [Addr.add]), by rw [HRS.out]; omega, by omega, fun W hW => HR2.out W hW, HEN.out, HO3.out, HZ3.out, HB3.out, by rw [HRS.out]; have := HL3.out; omega⟩
          case measure => (simp only [lenV2]); (try omega)
      · obtain rfl : k = 0 := by omega
        have kc := conv_const Tryd.underlying22 Tryd.underlying5
        have HK := Lib.hid hk.symm
        have HP2 : Hid _ := Lib.hid (fun w0 (hb0 : Below w.heap.size w w0) => pfx3 w0 (some a) nr cb (x :: t) (HRD.out w0 hb0) HNR.out.symm hcb)
        clear hk hk0 hble
        generalize hsf : CodeMath.soft (x :: t) = sf at *
        go_wp2_with fail
        refine HBL.out.mono ?_
        rintro e w1 ⟨rfl, hb1⟩
        have HB1 : Hid (Below w.heap.size w w1) := Lib.hid (below_then HB.out HB.out.size hb1)
        have HO1 := Lib.hid (HO.out.below hb1)
        have HP := Lib.hid (HP2.out w1 HB1.out)
        clear hb1 HBL HP2
        cases sf with
        | true =>
          have h3 : 3 ≤ nr := by
            have := HNR.out
            match t, hsf with
            | [], h => simp [CodeMath.soft] at h
            | [_], h => simp [CodeMath.soft] at h
            | _ :: _ :: _, _ => simp at this; omega
          have h3i : (3 : Int) ≤ nr := by omega
          have h3c : 3 ≤ cb := by omega
          have h3ci : (3 : Int) ≤ cb := by omega
          have HST : Hid (CodeMath.fqS (x :: t) = CodeMath.fqS ((x :: t).drop 3)) := Lib.hid (CodeMath.fqS_soft _ HK.out hsf)
          obtain ⟨r2, hr2⟩ : ∃ r2, r2 = (x :: t).drop 3 := ⟨_, rfl⟩
          have HRS : Hid (r2.length = nr - 3) := Lib.hid (by rw [hr2, List.length_drop, HNR.out])
          have HR2 : Hid (∀ W, Below w.heap.size w W → Rd W (some (a.add 3)) r2) := Lib.hid fun W hW => by rw [hr2]; exact (HRD.out W hW).drop 3
          have HEN : Hid (CodeMath.fqS b = pre ++ CodeMath.fqS r2) := Lib.hid (by rw [HE.out, HST.out, hr2])
          have HL3 : Hid (pre.length = np) := Lib.hid HNP.out.symm
          have HZ3 := HZ
          clear hr2 hsf
          go_wp2_with fail
          refine HP.out.mono ?_
          rintro e w2 ⟨rfl, hb2⟩
          have HB3 : Hid (Below w.heap.size w w2) := Lib.hid (below_then HB1.out HB1.out.size hb2)
          have HO3 := Lib.hid (HO1.out.below hb2)
          clear hb2 HP
          by_cases hcx : cb = (3)
          · have hcx' := hcx.symm
            clear hcx
            subst hcx'
            have he0 : r2 = [] := List.eq_nil_of_length_eq_zero (by rw [HRS.out]; omega)
            have HE0 := Lib.hid he0
            have hrl0 : r2.length = 0 := by rw [he0]; rfl
            have HRL0 := Lib.hid hrl0
            clear he0 hrl0
            go_wp2
            go_roundw
            case rel => exact ⟨_, r2, some a, 0, by rw [HRL0.out], by rw [HRL0.out]; exact Nat.le_refl _, by omega, fun W hW => by rw [HE0.out]; exact Rd.none', HEN.out, HO3.out, HZ3.out, HB3.out, by rw [HRL0.out]; have := HL3.out; omega⟩
            case measure => (simp only [lenV2]); (try omega)
          · go_wp2
            go_roundw
            case rel => exact ⟨_, r2, some (a.add (3)), cb - (3), by first | (rw [HRS.out]; done) | (rw [HRS.out]; first | rfl | simp [Addr.add]), by rw [HRS.out]; omega, by omega, fun W hW => HR2.out W hW, HEN.out, HO3.out, HZ3.out, HB3.out, by rw [HRS.out]; have := HL3.out; omega⟩
            case measure => (simp only [lenV2]); (try omega)
        | false =>
          have HSF := Lib.hid hsf
          clear hsf
          go_wp2_with fail
          refine HP.out.mono ?_
          rintro e w2 ⟨rfl, hb2⟩
          have HB2 : Hid (Below w.heap.size w w2) := Lib.hid (below_then HB1.out HB1.out.size hb2)
          have HO2 := Lib.hid (HO1.out.below hb2)
          clear hb2 HP
          obtain ⟨_, e0, x0⟩ := (HRD.out w2 HB2.out).at_ 0 (by simp)
          obtain rfl := Option.some.inj e0
          simp only [List.getElem_cons_zero] at x0
          rw [show a.add 0 = a from rfl] at x0
          have hx8 := x.toNat_lt
          have h1i : (1 : Int) ≤ nr := by omega
          have h1c : 1 ≤ cb := by omega
          have h1ci : (1 : Int) ≤ cb := by omega
          by_cases hx61 : x = 61
          · have hx61b : ((x.toNat : Int) == 61) = true := by rw [hx61]; rfl
            have H61 := Lib.hid hx61
            clear hx61
            by_cases h3 : 2 < nr
            · have h3i : (2 : Int) < nr := by omega
              have h3n : 3 ≤ nr := by omega
              have h1ni : (1 : Int) < nr := by omega
              have h1nn : 1 < nr := by omega
              have h3c : 3 ≤ cb := by omega
              have h3ci : (3 : Int) ≤ cb := by omega
              have h3ni : (3 : Int) ≤ nr := by omega
              obtain ⟨d, e, t2, ht⟩ : ∃ d e t2, t = d :: e :: t2 := by
                match t, HNR.out with
                | [], h => simp at h; omega
                | [_], h => simp at h; omega
                | d :: e :: t2, _ => exact ⟨d, e, t2, rfl⟩
              subst ht
              obtain ⟨_, e1, x1⟩ := (HRD.out w2 HB2.out).at_ 1 (by simp)
              obtain rfl := Option.some.inj e1
              obtain ⟨_, e2, x2⟩ := (HRD.out w2 HB2.out).at_ 2 (by simp)
              obtain rfl := Option.some.inj e2
              simp only [List.getElem_cons_zero, List.getElem_cons_succ] at x1 x2
              change w2.cell? ⟨a.block, a.off + 1, none⟩ = _ at x1
              change w2.cell? ⟨a.block, a.off + 2, none⟩ = _ at x2
              have hd8 := d.toNat_lt
              have he8 := e.toNat_lt
              cases h1 : CodeMath.digit d with
              | none =>
                have HDG : Hid (∀ W, Calls Tryd.prog 25 #[.int .u8 (d.toNat : Int)] W fun e w' => e = .returned (.int .i64 (-1)) ∧ w' = W) := Lib.hid fun W => by
                  have := digit_any W d
                  rwa [CodeMath.digV_none h1] at this
                have HHX : Hid (CodeMath.hexAt (x :: d :: e :: t2) = none) := Lib.hid (by simp [CodeMath.hexAt, h1])
                clear h1
                go_wp2_with fail
                refine (HDG.out _).mono ?_
                rintro e' w2 ⟨rfl, rfl⟩
                clear HDG
                obtain ⟨r2, hr2⟩ : ∃ r2, r2 = d :: e :: t2 := ⟨_, rfl⟩
                have HRS : Hid (r2.length = nr - 1) := Lib.hid (by rw [hr2, HNR.out]; simp)
                have HR2 : Hid (∀ W, Below w.heap.size w W → Rd W (some (a.add 1)) r2) := Lib.hid fun W hW => by rw [hr2]; exact (HRD.out W hW).drop 1
                have HST : Hid (CodeMath.fqS (x :: d :: e :: t2) = x :: CodeMath.fqS r2) := Lib.hid (by rw [hr2]; exact CodeMath.fqS_else _ _ HK.out HSF.out HHX.out)
                clear hr2
                obtain ⟨W1, hW1⟩ : ∃ W1, W1 = w2.alloc (.cells #[.int .u8 (x.toNat : Int)] 5) := ⟨_, rfl⟩
                have hbA : Below w2.heap.size w2 W1 := by rw [hW1]; exact (Below.refl _ w2).alloc (Nat.le_refl _) _
                obtain ⟨v3, W3, hrun3, ho3, hts3⟩ := appb_run (m := 1) (c := 1) (HO2.out.below hbA) HZ.out (Rd.of_block (l := [x]) (show W1.heap[w2.heap.size]? = _ by rw [hW1]; exact heap_new w2 _ _ rfl) (by simp)) rfl (Nat.le_trans HB2.out.size hbA.size) (by rw [← HNP.out]; simp; omega)
                have HO3 := Lib.hid ho3; have HRUN3 := Lib.hid hrun3; have HW1 := Lib.hid hW1
                have HB3 : Hid (Below w.heap.size w W3) := Lib.hid ((below_then HB2.out HB2.out.size hbA).trans hts3.1)
                have HZ3 : Hid (pre ++ [x] = [] → v3 = .slice none 0 0) := Lib.hid (fun e => by simp at e)
                have HL3 : Hid ((pre ++ [x]).length = np + 1) := Lib.hid (by rw [List.length_append, ← HNP.out]; rfl)
                obtain ⟨A3, c3, hv3, _⟩ := ho3.rd
                rw [HL3.out] at hv3
                subst hv3
                clear hW1 hbA hrun3 ho3 hts3
                have HEN : Hid (CodeMath.fqS b = (pre ++ [x]) ++ CodeMath.fqS r2) := Lib.hid (by rw [HE.out, HST.out]; simp)
                have hcx : ¬ cb = (1) := by omega
                go_wp2_with (at_builtin; rw [← HW1.out]; refine Lib.wpList_append_run _ rfl _ _ _ _ rfl _ _ rfl rfl _ _ HRUN3.out ?_)
                go_roundw
                case rel => exact ⟨_, r2, some (a.add (1)), cb - (1), by first | (rw [HRS.out]; done) | (rw [HRS.out]; first | rfl | simp [Addr.add]), by rw [HRS.out]; omega, by omega, fun W hW => HR2.out W hW, HEN.out, HO3.out, HZ3.out, HB3.out, by rw [HRS.out]; have := HL3.out; omega⟩
                case measure => (simp only [lenV2]); (try omega)
              | some p =>
                have hp16 := CodeMath.digit_lt h1
                have HDG : Hid (∀ W, Calls Tryd.prog 25 #[.int .u8 (d.toNat : Int)] W fun e w' => e = .returned (.int .i64 (p : Int)) ∧ w' = W) := Lib.hid fun W => by
                  have := digit_any W d
                  rwa [CodeMath.digV_some h1] at this
                have hp0 : (0 : Int) ≤ p := by omega
                cases h2 : CodeMath.digit e with
                | none =>
                  have HDG2 : Hid (∀ W, Calls Tryd.prog 25 #[.int .u8 (e.toNat : Int)] W fun e w' => e = .returned (.int .i64 (-1)) ∧ w' = W) := Lib.hid fun W => by
                    have := digit_any W e
                    rwa [CodeMath.digV_none h2] at this
                  have HHX : Hid (CodeMath.hexAt (x :: d :: e :: t2) = none) := Lib.hid (by simp [CodeMath.hexAt, h1, h2])
                  clear h1 h2
                  go_wp2_with fail
                  refine (HDG.out _).mono ?_
                  rintro e' w2 ⟨rfl, rfl⟩
                  go_wp2_with fail
                  refine (HDG2.out _).mono ?_
                  rintro e' w2 ⟨rfl, rfl⟩
                  clear HDG HDG2
                  obtain ⟨r2, hr2⟩ : ∃ r2, r2 = d :: e :: t2 := ⟨_, rfl⟩
                  have HRS : Hid (r2.length = nr - 1) := Lib.hid (by rw [hr2, HNR.out]; simp)
                  have HR2 : Hid (∀ W, Below w.heap.size w W → Rd W (some (a.add 1)) r2) := Lib.hid fun W hW => by rw [hr2]; exact (HRD.out W hW).drop 1
                  have HST : Hid (CodeMath.fqS (x :: d :: e :: t2) = x :: CodeMath.fqS r2) := Lib.hid (by rw [hr2]; exact CodeMath.fqS_else _ _ HK.out HSF.out HHX.out)
                  clear hr2
                  obtain ⟨W1, hW1⟩ : ∃ W1, W1 = w2.alloc (.cells #[.int .u8 (x.toNat : Int)] 5) := ⟨_, rfl⟩
                  have hbA : Below w2.heap.size w2 W1 := by rw [hW1]; exact (Below.refl _ w2).alloc (Nat.le_refl _) _
                  obtain ⟨v3, W3, hrun3, ho3, hts3⟩ := appb_run (m := 1) (c := 1) (HO2.out.below hbA) HZ.out (Rd.of_block (l := [x]) (show W1.heap[w2.heap.size]? = _ by rw [hW1]; exact heap_new w2 _ _ rfl) (by simp)) rfl (Nat.le_trans HB2.out.size hbA.size) (by rw [← HNP.out]; simp; omega)
                  have HO3 := Lib.hid ho3; have HRUN3 := Lib.hid hrun3; have HW1 := Lib.hid hW1
                  have HB3 : Hid (Below w.heap.size w W3) := Lib.hid ((below_then HB2.out HB2.out.size hbA).trans hts3.1)
                  have HZ3 : Hid (pre ++ [x] = [] → v3 = .slice none 0 0) := Lib.hid (fun e => by simp at e)
                  have HL3 : Hid ((pre ++ [x]).length = np + 1) := Lib.hid (by rw [List.length_append, ← HNP.out]; rfl)
                  obtain ⟨A3, c3, hv3, _⟩ := ho3.rd
                  rw [HL3.out] at hv3
                  subst hv3
                  clear hW1 hbA hrun3 ho3 hts3
                  have HEN : Hid (CodeMath.fqS b = (pre ++ [x]) ++ CodeMath.fqS r2) := Lib.hid (by rw [HE.out, HST.out]; simp)
                  have hcx : ¬ cb = (1) := by omega
                  go_wp2_with (at_builtin; rw [← HW1.out]; refine Lib.wpList_append_run _ rfl _ _ _ _ rfl _ _ rfl rfl _ _ HRUN3.out ?_)
                  go_roundw
                  case rel => exact ⟨_, r2, some (a.add (1)), cb - (1), by first | (rw [HRS.out]; done) | (rw [HRS.out]; first | rfl | simp [Addr.add]), by rw [HRS.out]; omega, by omega, fun W hW => HR2.out W hW, HEN.out, HO3.out, HZ3.out, HB3.out, by rw [HRS.out]; have := HL3.out; omega⟩
                  case measure => (simp only [lenV2]); (try omega)
                | some q =>
                  have hq16 := CodeMath.digit_lt h2
                  have HDG2 : Hid (∀ W, Calls Tryd.prog 25 #[.int .u8 (e.toNat : Int)] W fun e w' => e = .returned (.int .i64 (q : Int)) ∧ w' = W) := Lib.hid fun W => by
                    have := digit_any W e
                    rwa [CodeMath.digV_some h2] at this
                  have hq0 : (0 : Int) ≤ q := by omega
                  have HST : Hid (CodeMath.fqS (x :: d :: e :: t2) = UInt8.ofNat (p * 16 + q) :: CodeMath.fqS t2) := Lib.hid (by
                    have hs := HSF.out
                    rw [H61.out] at hs ⊢
                    exact CodeMath.fqS_hex d e t2 p q hs h1 h2)
                  obtain ⟨y, hy⟩ : ∃ y, y = UInt8.ofNat (p * 16 + q) := ⟨_, rfl⟩
                  rw [← hy] at HST
                  have hyn : y.toNat = p * 16 + q := by rw [hy, UInt8.toNat_ofNat']; omega
                  have hor : bits .or .i64 ((p : Int) * 16) (q : Int) = (y.toNat : Int) := by rw [or_four p q hp16 hq16, hyn]
                  have hws : IntKind.i64.wrap ((p : Int) * 16) = (p : Int) * 16 := by rw [IntKind.wrap_i64]; omega
                  have hy8 := y.toNat_lt
                  have hwu : IntKind.u8.wrap (y.toNat : Int) = (y.toNat : Int) := by rw [IntKind.wrap_u8]; omega
                  have HV1 := Lib.hid (CodeMath.digV_some h1)
                  have HV2 := Lib.hid (CodeMath.digV_some h2)
                  clear hy hyn h1 h2
                  have HBW : Hid (∀ W, TS w.heap.size w2.drew W → Below w.heap.size w W) := Lib.hid fun W hW => HB2.out.trans ((Below.drew (Below.refl w.heap.size w2)).trans hW.1)
                  have HC : Hid (∀ W, TS w.heap.size w2.drew W → W.cell? ⟨a.block, a.off + 1, none⟩ = some (.int .u8 (d.toNat : Int)) ∧ W.cell? ⟨a.block, a.off + 2, none⟩ = some (.int .u8 (e.toNat : Int))) := Lib.hid fun W hW => by
                    have hR := HRD.out W (HBW.out W hW)
                    obtain ⟨_, e1, x1⟩ := hR.at_ 1 (by simp)
                    obtain rfl := Option.some.inj e1
                    obtain ⟨_, e2, x2⟩ := hR.at_ 2 (by simp)
                    obtain rfl := Option.some.inj e2
                    simp only [List.getElem_cons_zero, List.getElem_cons_succ] at x1 x2
                    exact ⟨x1, x2⟩
                  have HSz : Hid (∀ W, TS w.heap.size w2.drew W → w.heap.size ≤ W.heap.size) := Lib.hid fun W hW => (HBW.out W hW).size
                  have HZv : Hid (∀ v3 : Value, pre ++ [y] = [] → v3 = .slice none 0 0) := Lib.hid (fun v3 e => by simp at e)
                  have HL3 : Hid ((pre ++ [y]).length = np + 1) := Lib.hid (by rw [List.length_append, ← HNP.out]; rfl)
                  obtain ⟨r2, hr2⟩ : ∃ r2, r2 = t2 := ⟨_, rfl⟩
                  have HRS : Hid (r2.length = nr - 3) := Lib.hid (by rw [hr2, HNR.out]; simp)
                  have HR2 : Hid (∀ W, Below w.heap.size w W → Rd W (some (a.add 3)) r2) := Lib.hid fun W hW => by rw [hr2]; exact (HRD.out W hW).drop 3
                  have HEN : Hid (CodeMath.fqS b = (pre ++ [y]) ++ CodeMath.fqS r2) := Lib.hid (by rw [HE.out, HST.out, hr2]; simp)
                  clear hr2
                  go_wp2_with fail
                  refine (HDG.out _).mono ?_
                  rintro e' w2 ⟨rfl, rfl⟩
                  go_wp2_with fail
                  refine (HDG2.out _).mono ?_
                  rintro e' w2 ⟨rfl, rfl⟩
                  clear HDG HDG2
                  go_wp2_with fail
                  refine Stu.wp_region_stu _ (Stu.mkT [(4, svlS w.heap.size (.int .i64 (p : Int))), (9, svlS w.heap.size (.int .i64 (q : Int))), (12, slO w.heap.size y), (13, svO w.heap.size (np + 1) (pre ++ [y]))]) (fun W => Ob W w.heap.size 5 (.slice A0 np c00) pre) [13] (TS.refl _) TS.trans Gs.ts (fun _ _ h hg => h.below hg.1) (HO2.out.below (Below.drew (Below.refl _ _))) (Stu.mkT_ks _ (by show List.Nodup [4, 9, 12, 13]; decide) _ rfl) (by kernel_rfl) (by kernel_rfl) (by kernel_rfl) ?_
                  repeat (first
                    | (refine Stu.wpR_plain ?_ (by rfl) (by rfl) (fun K hK => ?_); (focus (first | (simp only [Region.wanted]; done) | (go_simp; done))); apply Exists.intro; refine ⟨fun W hW => ?_, ?_⟩; (go_simp; (try simp only [Stu.plainUpon_value, true_and]); rfl); go_simp; refine hK _ ?_; clear hK K)
                    | (refine Stu.wpR_plain ?_ (by rfl) (by rfl) (fun K hK => ?_); (focus (first | (simp only [Region.wanted]; done) | (go_simp; done))); apply Exists.intro; refine ⟨fun W hW => ?_, ?_⟩; (have hcw := HC.out W hW; go_simp; (try simp only [Stu.plainUpon_value, true_and]); rfl); go_simp; refine hK _ ?_; clear hK K)
                    | (refine Stu.wpR_spg (by rfl) (by rfl) ?_ ?_ (fun W hW hF => ?_) (fun K v hv hK => ?_); (focus (first | (simp only [Region.wanted]; done) | (go_simp; done))); (focus (exact ⟨_, rfl⟩)); (go_simp; simp only [Stu.relUpon_enter]; exact digit_rel (HSz.out W hW) d p HV1.out _); (cases hv); go_simp; refine hK _ ?_; clear hK K)
                    | (refine Stu.wpR_spg (by rfl) (by rfl) ?_ ?_ (fun W hW hF => ?_) (fun K v hv hK => ?_); (focus (first | (simp only [Region.wanted]; done) | (go_simp; done))); (focus (exact ⟨_, rfl⟩)); (go_simp; simp only [Stu.relUpon_enter]; exact digit_rel (HSz.out W hW) e q HV2.out _); (cases hv); go_simp; refine hK _ ?_; clear hK K)
                    | (refine Stu.wpR_spg (by rfl) (by rfl) ?_ ?_ (fun W hW hF => ?_) (fun K v hv hK => ?_); (focus (first | (simp only [Region.wanted]; done) | (go_simp; done))); (focus (exact ⟨_, 0, rfl⟩)); (go_simp; exact ⟨⟨(Below.refl _ W).alloc (Nat.le_refl _) _, HSz.out W hW⟩, ⟨_, rfl⟩, ⟨_, rfl, heap_new _ _ _ rfl⟩⟩); (obtain ⟨g2, rfl⟩ := hv); go_simp; refine hK _ ?_; clear hK K)
                    | (refine Stu.wpR_spu (by rfl) (by rfl) ?_ ?_ (fun W hW hU hF => ?_) (fun K v hv hK => ?_); (focus (first | (simp only [Region.wanted]; done) | (go_simp; done))); (focus (exact ⟨_, none, _, rfl, Nat.le_refl _⟩)); (obtain ⟨g', e1, e3⟩ := (show (slO w.heap.size y).q [] (.slice (some ⟨g2, 0, none⟩) 1 1) W from hF 12 rfl); cases e1; exact appb_rel rfl rfl rfl rfl hU HZ.out (Rd.of_block (l := [y]) e3 (by simp)) rfl (HSz.out W hW) (by rw [← HNP.out]; simp; omega) rfl HL3.out); (obtain ⟨A3, c3, rfl, hc3⟩ := hv); go_simp; refine hK _ ?_; clear hK K))
                  refine Stu.wpR_nil (fun W hW hU hF => ?_)
                  have ho3 : Ob W w.heap.size 5 (.slice A3 (np + 1) c3) (pre ++ [y]) := hU
                  have HO3 := Lib.hid ho3
                  have HB3 := Lib.hid (HBW.out W hW)
                  have HZ3 := Lib.hid (HZv.out (.slice A3 (np + 1) c3))
                  clear hF hW hU HC HSz HBW ho3 x0 x1 x2 HZv
                  by_cases hcx : cb = (3)
                  · have hcx' := hcx.symm
                    clear hcx
                    subst hcx'
                    have he0 : r2 = [] := List.eq_nil_of_length_eq_zero (by rw [HRS.out]; omega)
                    have HE0 := Lib.hid he0
                    have hrl0 : r2.length = 0 := by rw [he0]; rfl
                    have HRL0 := Lib.hid hrl0
                    clear he0 hrl0
                    go_wp2
                    go_roundw
                    case rel => exact ⟨_, r2, some a, 0, by rw [HRL0.out], by rw [HRL0.out]; exact Nat.le_refl _, by omega, fun W hW => by rw [HE0.out]; exact Rd.none', HEN.out, HO3.out, HZ3.out, HB3.out, by rw [HRL0.out]; have := HL3.out; omega⟩
                    case measure => (simp only [lenV2]); (try omega)
                  · go_wp2
                    go_roundw
                    case rel => exact ⟨_, r2, some (a.add (3)), cb - (3), by first | (rw [HRS.out]; done) | (rw [HRS.out]; first | rfl | simp [Addr.add]), by rw [HRS.out]; omega, by omega, fun W hW => HR2.out W hW, HEN.out, HO3.out, HZ3.out, HB3.out, by rw [HRS.out]; have := HL3.out; omega⟩
                    case measure => (simp only [lenV2]); (try omega)
            · have h3i : ¬ (2 : Int) < nr := by omega
              have HHX : Hid (CodeMath.hexAt (x :: t) = none) := Lib.hid (by
                match t, HNR.out with
                | [], _ => rfl
                | [_], _ => rfl
                | d :: e :: t, h => exfalso; simp at h; omega)
              obtain ⟨r2, hr2⟩ : ∃ r2, r2 = t := ⟨_, rfl⟩
              have HRS : Hid (r2.length = nr - 1) := Lib.hid (by rw [hr2, HNR.out]; simp)
              have HR2 : Hid (∀ W, Below w.heap.size w W → Rd W (some (a.add 1)) r2) := Lib.hid fun W hW => by rw [hr2]; exact (HRD.out W hW).drop 1
              have HST : Hid (CodeMath.fqS (x :: t) = x :: CodeMath.fqS r2) := Lib.hid (by rw [hr2]; exact CodeMath.fqS_else _ _ HK.out HSF.out HHX.out)
              clear hr2
              obtain ⟨W1, hW1⟩ : ∃ W1, W1 = w2.alloc (.cells #[.int .u8 (x.toNat : Int)] 5) := ⟨_, rfl⟩
              have hbA : Below w2.heap.size w2 W1 := by rw [hW1]; exact (Below.refl _ w2).alloc (Nat.le_refl _) _
              obtain ⟨v3, W3, hrun3, ho3, hts3⟩ := appb_run (m := 1) (c := 1) (HO2.out.below hbA) HZ.out (Rd.of_block (l := [x]) (show W1.heap[w2.heap.size]? = _ by rw [hW1]; exact heap_new w2 _ _ rfl) (by simp)) rfl (Nat.le_trans HB2.out.size hbA.size) (by rw [← HNP.out]; simp; omega)
              have HO3 := Lib.hid ho3; have HRUN3 := Lib.hid hrun3; have HW1 := Lib.hid hW1
              have HB3 : Hid (Below w.heap.size w W3) := Lib.hid ((below_then HB2.out HB2.out.size hbA).trans hts3.1)
              have HZ3 : Hid (pre ++ [x] = [] → v3 = .slice none 0 0) := Lib.hid (fun e => by simp at e)
              have HL3 : Hid ((pre ++ [x]).length = np + 1) := Lib.hid (by rw [List.length_append, ← HNP.out]; rfl)
              obtain ⟨A3, c3, hv3, _⟩ := ho3.rd
              rw [HL3.out] at hv3
              subst hv3
              clear hW1 hbA hrun3 ho3 hts3
              have HEN : Hid (CodeMath.fqS b = (pre ++ [x]) ++ CodeMath.fqS r2) := Lib.hid (by rw [HE.out, HST.out]; simp)
              by_cases hcx : cb = (1)
              · have hcx' := hcx.symm
                clear hcx
                subst hcx'
                have he0 : r2 = [] := List.eq_nil_of_length_eq_zero (by rw [HRS.out]; omega)
                have HE0 := Lib.hid he0
                have hrl0 : r2.length = 0 := by rw [he0]; rfl
                have HRL0 := Lib.hid hrl0
                clear he0 hrl0
                go_wp2_with (at_builtin; rw [← HW1.out]; refine Lib.wpList_append_run _ rfl _ _ _ _ rfl _ _ rfl rfl _ _ HRUN3.out ?_)
                go_roundw
                case rel => exact ⟨_, r2, some a, 0, by rw [HRL0.out], by rw [HRL0.out]; exact Nat.le_refl _, by omega, fun W hW => by rw [HE0.out]; exact Rd.none', HEN.out, HO3.out, HZ3.out, HB3.out, by rw [HRL0.out]; have := HL3.out; omega⟩
                case measure => (simp only [lenV2]); (try omega)
              · go_wp2_with (at_builtin; rw [← HW1.out]; refine Lib.wpList_append_run _ rfl _ _ _ _ rfl _ _ rfl rfl _ _ HRUN3.out ?_)
                go_roundw
                case rel => exact ⟨_, r2, some (a.add (1)), cb - (1), by first | (rw [HRS.out]; done) | (rw [HRS.out]; first | rfl | simp [Addr.add]), by rw [HRS.out]; omega, by omega, fun W hW => HR2.out W hW, HEN.out, HO3.out, HZ3.out, HB3.out, by rw [HRS.out]; have := HL3.out; omega⟩
                case measure => (simp only [lenV2]); (try omega)
          · have hx61i : ¬ (x.toNat : Int) = 61 := fun h => hx61 (UInt8.toNat_inj.1 (by have : (61 : UInt8).toNat = 61 := rfl; omega))
            have hx61b : ((x.toNat : Int) == 61) = false := by rw [beq_eq_false_iff_ne]; exact hx61i
            have HHX := Lib.hid (CodeMath.hexAt_ne x t hx61)
            clear hx61
            obtain ⟨r2, hr2⟩ : ∃ r2, r2 = t := ⟨_, rfl⟩
            have HRS : Hid (r2.length = nr - 1) := Lib.hid (by rw [hr2, HNR.out]; simp)
            have HR2 : Hid (∀ W, Below w.heap.size w W → Rd W (some (a.add 1)) r2) := Lib.hid fun W hW => by rw [hr2]; exact (HRD.out W hW).drop 1
            have HST : Hid (CodeMath.fqS (x :: t) = x :: CodeMath.fqS r2) := Lib.hid (by rw [hr2]; exact CodeMath.fqS_else _ _ HK.out HSF.out HHX.out)
            clear hr2
            obtain ⟨W1, hW1⟩ : ∃ W1, W1 = w2.alloc (.cells #[.int .u8 (x.toNat : Int)] 5) := ⟨_, rfl⟩
            have hbA : Below w2.heap.size w2 W1 := by rw [hW1]; exact (Below.refl _ w2).alloc (Nat.le_refl _) _
            obtain ⟨v3, W3, hrun3, ho3, hts3⟩ := appb_run (m := 1) (c := 1) (HO2.out.below hbA) HZ.out (Rd.of_block (l := [x]) (show W1.heap[w2.heap.size]? = _ by rw [hW1]; exact heap_new w2 _ _ rfl) (by simp)) rfl (Nat.le_trans HB2.out.size hbA.size) (by rw [← HNP.out]; simp; omega)
            have HO3 := Lib.hid ho3; have HRUN3 := Lib.hid hrun3; have HW1 := Lib.hid hW1
            have HB3 : Hid (Below w.heap.size w W3) := Lib.hid ((below_then HB2.out HB2.out.size hbA).trans hts3.1)
            have HZ3 : Hid (pre ++ [x] = [] → v3 = .slice none 0 0) := Lib.hid (fun e => by simp at e)
            have HL3 : Hid ((pre ++ [x]).length = np + 1) := Lib.hid (by rw [List.length_append, ← HNP.out]; rfl)
            obtain ⟨A3, c3, hv3, _⟩ := ho3.rd
            rw [HL3.out] at hv3
            subst hv3
            clear hW1 hbA hrun3 ho3 hts3
            have HEN : Hid (CodeMath.fqS b = (pre ++ [x]) ++ CodeMath.fqS r2) := Lib.hid (by rw [HE.out, HST.out]; simp)
            by_cases hcx : cb = (1)
            · have hcx' := hcx.symm
              clear hcx
              subst hcx'
              have he0 : r2 = [] := List.eq_nil_of_length_eq_zero (by rw [HRS.out]; omega)
              have HE0 := Lib.hid he0
              have hrl0 : r2.length = 0 := by rw [he0]; rfl
              have HRL0 := Lib.hid hrl0
              clear he0 hrl0
              go_wp2_with (at_builtin; rw [← HW1.out]; refine Lib.wpList_append_run _ rfl _ _ _ _ rfl _ _ rfl rfl _ _ HRUN3.out ?_)
              go_roundw
              case rel => exact ⟨_, r2, some a, 0, by rw [HRL0.out], by rw [HRL0.out]; exact Nat.le_refl _, by omega, fun W hW => by rw [HE0.out]; exact Rd.none', HEN.out, HO3.out, HZ3.out, HB3.out, by rw [HRL0.out]; have := HL3.out; omega⟩
              case measure => (simp only [lenV2]); (try omega)
            · go_wp2_with (at_builtin; rw [← HW1.out]; refine Lib.wpList_append_run _ rfl _ _ _ _ rfl _ _ rfl rfl _ _ HRUN3.out ?_)
              go_roundw
              case rel => exact ⟨_, r2, some (a.add (1)), cb - (1), by first | (rw [HRS.out]; done) | (rw [HRS.out]; first | rfl | simp [Addr.add]), by rw [HRS.out]; omega, by omega, fun W hW => HR2.out W hW, HEN.out, HO3.out, HZ3.out, HB3.out, by rw [HRS.out]; have := HL3.out; omega⟩
              case measure => (simp only [lenV2]); (try omega)
end Go.Proofs.YtgaccogekmaijaaDoor
