/- The reference reads bytes quoted. -/
import Derived.Test.YtgaccogekmaijaaDoorCoRa
import Derived.Test.YtgaccogekmaijaaDoorCoFq
namespace CodeMath
theorem lead_drop (b : List UInt8) (i k : Nat) (hik : i ≤ k) (h : lead (b.drop i) = (k - i) + lead (b.drop k)) (hk : k < b.length) (hb : isBl b[k] = true) : lead (b.drop i) = (k + 1 - i) + lead (b.drop (k + 1)) := by
  rw [h, List.drop_eq_getElem_cons hk, lead, if_pos hb]
  omega
theorem lead_stop (b : List UInt8) (k : Nat) (hk : k < b.length) (hb : isBl b[k] = false) : lead (b.drop k) = 0 := by
  rw [List.drop_eq_getElem_cons hk, lead, if_neg (by rw [hb]; decide)]
theorem lead_none (b : List UInt8) (k : Nat) (hk : b.length ≤ k) : lead (b.drop k) = 0 := by
  rw [List.drop_eq_nil_of_le hk]; rfl
theorem soft_eq (c : UInt8) (t : List UInt8) : soft (c :: t) = (c == 61 && crlfAt t) := by
  match t with
  | [] => simp [soft, crlfAt]
  | [_] => simp [soft, crlfAt]
  | d :: e :: t => simp [soft, crlfAt, Bool.and_assoc]
end CodeMath
namespace Go.Proofs.YtgaccogekmaijaaDoor
open Go.RowKit Go.Maps
set_option linter.unusedVariables false
set_option linter.unusedSimpArgs false
attribute [local irreducible] wpR relOp Stu.wpR Stu.relOp
theorem nib_rel {W : World} {base : Nat} (hB : base ≤ W.heap.size) (x : UInt8) (n : Int) (hn : CodeMath.digV x = n) (xs : List Value) :
    Calls Tryd.prog 31 #[.int .u8 (x.toNat : Int)] W fun e w'' => ∃ v, e = .returned v ∧ Gs base W w'' ∧ ((svlS base (.int .i64 n)).p xs v ∧ (svlS base (.int .i64 n)).q xs v w'') := by
  refine (nib_any W x).mono ?_
  rintro e w' ⟨rfl, rfl⟩
  exact ⟨_, rfl, ⟨Below.refl _ _, hB⟩, by rw [hn]; rfl, trivial⟩
set_option maxRecDepth 20000 in
set_option maxHeartbeats 40000000 in
theorem rfq_any (w : World) (A : Option Addr) (m c : Nat) (b : List UInt8) (hr : Rd w A b) (hm : b.length = m) (hc : m ≤ c) (hl : m ≤ 1000000) :
    Calls Tryd.prog 17 #[.slice A m c] w fun e w' => ∃ v, e = .returned v ∧ Ob w' w.heap.size 5 v (CodeMath.fqS b) ∧ Below w.heap.size w w' := by
  have HM := Lib.hid hm; have HR := Lib.hid hr
  clear hm hr
  go_enter Tryd.func17, Tryd.ntmps17
  go_wp2_with fail
  go_loopw [3, 4, 5] (fun vo vi _ wr => ∃ (pre : List UInt8) (i : Nat), vi = .int .i64 i ∧ i ≤ m ∧ CodeMath.fqS b = pre ++ CodeMath.fqS (b.drop i) ∧ Ob wr w.heap.size 5 vo pre ∧ (pre = [] → vo = .slice none 0 0) ∧ Below w.heap.size w wr ∧ pre.length ≤ i) (fun _ vi _ _ => m - (intOf vi).toNat)
  case atStart => exact ⟨[], 0, rfl, Nat.zero_le _, rfl, Ob.nil _ _ _, fun _ => rfl, Below.refl _ _, Nat.le_refl _⟩
  case round =>
    rename World => wr
    obtain ⟨pre, i, rfl, him, henc, hob, hz, hb, hpi⟩ := hrel
    obtain ⟨np, hnp⟩ : ∃ np, np = pre.length := ⟨_, rfl⟩
    obtain ⟨A0, c00, hv0, hc00, _⟩ := hob.rd
    rw [← hnp] at hv0 hc00 hpi
    subst hv0
    have HNP := Lib.hid hnp; have HE := Lib.hid henc; have HO := Lib.hid hob; have HZ := Lib.hid hz; have HB := Lib.hid hb
    clear hnp henc hob hz hb
    have hwi : IntKind.i64.wrap ((i : Int) + 1) = (i : Int) + 1 := by rw [IntKind.wrap_i64]; omega
    have hwi2 : IntKind.i64.wrap ((i : Int) + 2) = (i : Int) + 2 := by rw [IntKind.wrap_i64]; omega
    have hwi3 : IntKind.i64.wrap ((i : Int) + 2 + 1) = (i : Int) + 2 + 1 := by rw [IntKind.wrap_i64]; omega
    by_cases hlt : i < m
    · have hlti : (i : Int) < m := by omega
      have hib : i < b.length := by rw [HM.out]; exact hlt
      obtain ⟨a, rfl, x0⟩ := (HR.out.below HB.out).at_ i hib
      have hd : b.drop i = b[i] :: b.drop (i + 1) := List.drop_eq_getElem_cons hib
      have HCR1 : Hid _ := Lib.hid (fun W (hW : Below w.heap.size w W) => crlf_any W (some a) m c b (i + 1) (HR.out.below hW) HM.out (by omega))
      obtain ⟨t, ht⟩ : ∃ t, t = b.drop (i + 1) := ⟨_, rfl⟩
      rw [← ht] at hd HCR1
      have htl : t.length = m - (i + 1) := by rw [ht, List.length_drop, HM.out]
      obtain ⟨x, hx⟩ : ∃ x, x = b[i] := ⟨_, rfl⟩
      rw [← hx] at hd x0
      rw [hd] at HE
      have HT := Lib.hid ht; have HTL := Lib.hid htl; have HD := Lib.hid hd; have HX := Lib.hid hx
      have hx8 := x.toNat_lt
      clear ht htl hd hx
      by_cases c61 : x = 61
      · have k61 : ((x.toNat : Int) == 61) = true := u8_eq 61 rfl c61
        have hbn : CodeMath.blankN (x :: t) = 0 := CodeMath.blankN_nb x t (by rw [c61]; decide)
        have hsf := CodeMath.soft_eq x t
        have HC61 := Lib.hid c61; have HBN := Lib.hid hbn
        clear hbn c61
        generalize hcr : CodeMath.crlfAt t = bc at *
        cases bc with
        | true =>
          have hi3 : i + 3 ≤ m := by
            have := HTL.out
            have h2 : 2 ≤ t.length := by
              match t, hcr with
              | [], h => simp [CodeMath.crlfAt] at h
              | [_], h => simp [CodeMath.crlfAt] at h
              | _ :: _ :: _, _ => simp
            omega
          have HEN : Hid (CodeMath.fqS b = pre ++ CodeMath.fqS (b.drop (i + 3))) := Lib.hid (by
            rw [HE.out, CodeMath.fqS_soft _ HBN.out (by rw [hsf, HC61.out]; rfl)]
            show pre ++ CodeMath.fqS (t.drop 2) = _
            rw [HT.out, List.drop_drop])
          clear hsf hcr
          go_wp2_with fail
          refine (HCR1.out wr HB.out).mono ?_
          rintro e wr ⟨rfl, rfl⟩
          go_wp2
          go_roundw
          case rel => exact ⟨pre, i + 3, by go_num, by omega, HEN.out, HO.out, HZ.out, HB.out, by rw [← HNP.out]; omega⟩
          case measure => simp [intOf]; omega
        | false =>
          have HSF : Hid (CodeMath.soft (x :: t) = false) := Lib.hid (by rw [hsf]; simp)
          clear hsf hcr
          go_wp2_with fail
          refine (HCR1.out wr HB.out).mono ?_
          rintro e wr ⟨rfl, rfl⟩
          by_cases h3 : i + 2 < m
          · have h3i : (i : Int) + 2 < m := by omega
            have h1i : (i : Int) + 1 < m := by omega
            have h1n : i + 1 < m := by omega
            have h10 : (0 : Int) ≤ (i : Int) + 1 := by omega
            have h20 : (0 : Int) ≤ (i : Int) + 2 := by omega
            obtain ⟨_, e1, x1⟩ := (HR.out.below HB.out).at_ (i + 1) (by rw [HM.out]; omega)
            obtain rfl := Option.some.inj e1
            obtain ⟨_, e2, x2⟩ := (HR.out.below HB.out).at_ (i + 2) (by rw [HM.out]; omega)
            obtain rfl := Option.some.inj e2
            rw [show a.add (i + 1) = ⟨a.block, a.off + (i + 1), none⟩ by simp [Addr.add]] at x1
            rw [show a.add (i + 2) = ⟨a.block, a.off + (i + 2), none⟩ by simp [Addr.add]] at x2
            obtain ⟨d, hd1⟩ : ∃ d, d = b[i + 1]'(by rw [HM.out]; omega) := ⟨_, rfl⟩
            obtain ⟨e, he1⟩ : ∃ e, e = b[i + 2]'(by rw [HM.out]; omega) := ⟨_, rfl⟩
            have ht3 : t = d :: e :: b.drop (i + 3) := by
              rw [HT.out, hd1, he1, List.drop_eq_getElem_cons (by rw [HM.out]; omega : i + 1 < b.length), List.drop_eq_getElem_cons (by rw [HM.out]; omega : i + 2 < b.length)]
            rw [← hd1] at x1
            rw [← he1] at x2
            have HDE : Hid (d = b[i + 1]'(by rw [HM.out]; omega) ∧ e = b[i + 2]'(by rw [HM.out]; omega) ∧ t = d :: e :: b.drop (i + 3)) := Lib.hid ⟨hd1, he1, ht3⟩
            have hd8 := d.toNat_lt
            have he8 := e.toNat_lt
            clear hd1 he1 ht3 e1 e2
            cases h1 : CodeMath.digit d with
            | none =>
              have HDG : Hid (∀ W, Calls Tryd.prog 31 #[.int .u8 (d.toNat : Int)] W fun e w' => e = .returned (.int .i64 (-1)) ∧ w' = W) := Lib.hid fun W => by
                have := nib_any W d
                rwa [CodeMath.digV_none h1] at this
              have HHX : Hid (CodeMath.hexAt (x :: t) = none) := Lib.hid (by rw [HDE.out.2.2]; simp [CodeMath.hexAt, h1])
              clear h1
              go_wp2_with fail
              refine (HDG.out _).mono ?_
              rintro e' wr ⟨rfl, rfl⟩
              clear HDG x1 x2
              go_wp2_with fail
              go_loopw [5] (fun vk wz => ∃ k : Nat, i ≤ k ∧ k ≤ m ∧ vk = .int .i64 k ∧ CodeMath.lead (b.drop i) = (k - i) + CodeMath.lead (b.drop k) ∧ wz = wr) (fun vk _ => m - (intOf vk).toNat)
              case atStart => exact ⟨i, Nat.le_refl _, by omega, rfl, by simp, rfl⟩
              case round =>
                obtain ⟨k, hik, hkm9, rfl, hle, hw⟩ := hrel
                subst hw
                have hwk : IntKind.i64.wrap ((k : Int) + 1) = ((k + 1 : Nat) : Int) := by rw [IntKind.wrap_i64]; omega
                by_cases hkm0 : k < m
                · have hkm0i : (k : Int) < m := by omega
                  have hkb : k < b.length := by rw [HM.out]; exact hkm0
                  obtain ⟨_, ea, y0⟩ := (HR.out.below HB.out).at_ k hkb
                  obtain rfl := Option.some.inj ea
                  have hnext := CodeMath.lead_drop b i k hik hle hkb
                  have hstop := CodeMath.lead_stop b k hkb
                  obtain ⟨y, hy⟩ : ∃ y, y = b[k] := ⟨_, rfl⟩
                  rw [← hy] at y0 hnext hstop
                  clear hy hkb ea
                  by_cases y32 : y = 32
                  · have k32 : ((y.toNat : Int) == 32) = true := u8_eq 32 rfl y32
                    have HN := Lib.hid (hnext (by rw [y32]; rfl))
                    clear hnext hstop y32 hle
                    go_wp2
                    go_roundw
                    case rel => exact ⟨k + 1, by omega, by omega, by go_num, HN.out, by trivial⟩
                    case measure => simp [intOf]; omega
                  · have k32 : ((y.toNat : Int) == 32) = false := u8_ne 32 rfl y32
                    by_cases y9 : y = 9
                    · have k9 : ((y.toNat : Int) == 9) = true := u8_eq 9 rfl y9
                      have HN := Lib.hid (hnext (by rw [y9]; rfl))
                      clear hnext hstop y32 y9 hle
                      go_wp2
                      go_roundw
                      case rel => exact ⟨k + 1, by omega, by omega, by go_num, HN.out, by trivial⟩
                      case measure => simp [intOf]; omega
                    · have k9 : ((y.toNat : Int) == 9) = false := u8_ne 9 rfl y9
                      have HLD : Hid (CodeMath.lead (b.drop i) = k - i) := Lib.hid (by rw [hle, hstop (by simp [CodeMath.isBl, y32, y9])]; omega)
                      clear hnext hstop y32 y9 hle
                      by_cases hki : i < k
                      · have hkii : (i : Int) < k := by omega
                        by_cases hkm : k = m
                        · have hkmb : ((k : Int) == (m : Int)) = true := by rw [beq_iff_eq]; omega
                          have HEN : Hid (CodeMath.fqS b = pre ++ CodeMath.fqS (b.drop k)) := Lib.hid (by
                            have hbn : CodeMath.blankN (x :: t) = k - i := by unfold CodeMath.blankN; rw [← HD.out, if_neg (by rintro ⟨h, _⟩; rw [HLD.out, List.length_drop, HM.out] at h; omega), HLD.out]
                            rw [HE.out, CodeMath.fqS_blank _ (by rw [hbn]; omega), hbn, ← HD.out, List.drop_drop, show i + (k - i) = k by omega])
                          have hwk1 : IntKind.i64.wrap ((k : Int) - 1) = (k : Int) - 1 := by rw [IntKind.wrap_i64]; omega
                          have hwk2 : IntKind.i64.wrap ((k : Int) - 1 + 1) = (k : Int) := by rw [IntKind.wrap_i64]; omega
                          go_wp2
                          go_roundw
                          case rel => exact ⟨pre, k, by go_num, by omega, HEN.out, HO.out, HZ.out, HB.out, by rw [← HNP.out]; omega⟩
                          case measure => simp [intOf]; omega
                        · have hkmb : ((k : Int) == (m : Int)) = false := by rw [beq_eq_false_iff_ne]; omega
                          have HCRK := Lib.hid (crlf_any wr (some a) m c b k (HR.out.below HB.out) HM.out (by omega))
                          cases hck : CodeMath.crlfAt (b.drop k) with
                          | true =>
                            rw [hck] at HCRK
                            have HCK := Lib.hid hck
                            clear hck
                            go_wp2_with fail
                            refine HCRK.out.mono ?_
                            rintro e w5 ⟨rfl, he⟩
                            rw [he]
                            clear he HCRK
                            have HEN : Hid (CodeMath.fqS b = pre ++ CodeMath.fqS (b.drop k)) := Lib.hid (by
                              have hbn : CodeMath.blankN (x :: t) = k - i := by unfold CodeMath.blankN; rw [← HD.out, if_neg (by rintro ⟨_, h⟩; rw [HLD.out, List.drop_drop, show i + (k - i) = k by omega, HCK.out] at h; cases h), HLD.out]
                              rw [HE.out, CodeMath.fqS_blank _ (by rw [hbn]; omega), hbn, ← HD.out, List.drop_drop, show i + (k - i) = k by omega])
                            have hwk1 : IntKind.i64.wrap ((k : Int) - 1) = (k : Int) - 1 := by rw [IntKind.wrap_i64]; omega
                            have hwk2 : IntKind.i64.wrap ((k : Int) - 1 + 1) = (k : Int) := by rw [IntKind.wrap_i64]; omega
                            go_wp2
                            go_roundw
                            case rel => exact ⟨pre, k, by go_num, by omega, HEN.out, HO.out, HZ.out, HB.out, by rw [← HNP.out]; omega⟩
                            case measure => simp [intOf]; omega
                          | false =>
                            rw [hck] at HCRK
                            have HCK := Lib.hid hck
                            clear hck
                            go_wp2_with fail
                            refine HCRK.out.mono ?_
                            rintro e w5 ⟨rfl, he⟩
                            rw [he]
                            clear he HCRK
                            have HEN : Hid (CodeMath.fqS b = (pre ++ [x]) ++ CodeMath.fqS (b.drop (i + 1))) := Lib.hid (by
                              rw [HE.out, CodeMath.fqS_else x t (by unfold CodeMath.blankN; rw [← HD.out, if_pos ⟨by rw [HLD.out, List.length_drop, HM.out]; omega, by rw [HLD.out, List.drop_drop, show i + (k - i) = k by omega, HCK.out]⟩]) HSF.out HHX.out, HT.out]; simp)
                            obtain ⟨W1, hW1⟩ : ∃ W1, W1 = wr.alloc (.cells #[.int .u8 (x.toNat : Int)] 5) := ⟨_, rfl⟩
                            have hbA : Below wr.heap.size wr W1 := by rw [hW1]; exact (Below.refl _ wr).alloc (Nat.le_refl _) _
                            obtain ⟨v3, W3, hrun3, ho3, hts3⟩ := appb_run (m := 1) (c := 1) (HO.out.below hbA) HZ.out (Rd.of_block (l := [x]) (show W1.heap[wr.heap.size]? = _ by rw [hW1]; exact heap_new wr _ _ rfl) (by simp)) rfl (Nat.le_trans HB.out.size hbA.size) (by rw [← HNP.out]; simp; omega)
                            have HO3 := Lib.hid ho3; have HRUN3 := Lib.hid hrun3; have HW1 := Lib.hid hW1
                            have HB3 : Hid (Below w.heap.size w W3) := Lib.hid ((below_then HB.out HB.out.size hbA).trans hts3.1)
                            have hl3 : (pre ++ [x]).length = np + 1 := by rw [List.length_append, ← HNP.out]; rfl
                            obtain ⟨A3, c3, rfl, _⟩ := ho3.shpn hl3
                            have HL3 := Lib.hid hl3
                            clear hW1 hbA hrun3 ho3 hts3 hl3
                            go_wp2_with (at_builtin; rw [← HW1.out]; refine Lib.wpList_append_run _ rfl _ _ _ _ rfl _ _ rfl rfl _ _ HRUN3.out ?_)
                            go_roundw
                            case rel => exact ⟨pre ++ [x], i + 1, by go_num, by omega, HEN.out, HO3.out, fun e => by simp at e, HB3.out, by rw [HL3.out]; omega⟩
                            case measure => simp [intOf]; omega
                      · have hkii : ¬ (i : Int) < k := by omega
                        have HL0 : Hid (CodeMath.lead (b.drop i) = 0) := Lib.hid (by rw [HLD.out]; omega)
                        have HEN : Hid (CodeMath.fqS b = (pre ++ [x]) ++ CodeMath.fqS (b.drop (i + 1))) := Lib.hid (by
                          rw [HE.out, CodeMath.fqS_else x t (by unfold CodeMath.blankN; rw [← HD.out, HL0.out]; split <;> rfl) HSF.out HHX.out, HT.out]; simp)
                        obtain ⟨W1, hW1⟩ : ∃ W1, W1 = wr.alloc (.cells #[.int .u8 (x.toNat : Int)] 5) := ⟨_, rfl⟩
                        have hbA : Below wr.heap.size wr W1 := by rw [hW1]; exact (Below.refl _ wr).alloc (Nat.le_refl _) _
                        obtain ⟨v3, W3, hrun3, ho3, hts3⟩ := appb_run (m := 1) (c := 1) (HO.out.below hbA) HZ.out (Rd.of_block (l := [x]) (show W1.heap[wr.heap.size]? = _ by rw [hW1]; exact heap_new wr _ _ rfl) (by simp)) rfl (Nat.le_trans HB.out.size hbA.size) (by rw [← HNP.out]; simp; omega)
                        have HO3 := Lib.hid ho3; have HRUN3 := Lib.hid hrun3; have HW1 := Lib.hid hW1
                        have HB3 : Hid (Below w.heap.size w W3) := Lib.hid ((below_then HB.out HB.out.size hbA).trans hts3.1)
                        have hl3 : (pre ++ [x]).length = np + 1 := by rw [List.length_append, ← HNP.out]; rfl
                        obtain ⟨A3, c3, rfl, _⟩ := ho3.shpn hl3
                        have HL3 := Lib.hid hl3
                        clear hW1 hbA hrun3 ho3 hts3 hl3
                        go_wp2_with (at_builtin; rw [← HW1.out]; refine Lib.wpList_append_run _ rfl _ _ _ _ rfl _ _ rfl rfl _ _ HRUN3.out ?_)
                        go_roundw
                        case rel => exact ⟨pre ++ [x], i + 1, by go_num, by omega, HEN.out, HO3.out, fun e => by simp at e, HB3.out, by rw [HL3.out]; omega⟩
                        case measure => simp [intOf]; omega
                · have hkm0i : ¬ (k : Int) < m := by omega
                  have HLD : Hid (CodeMath.lead (b.drop i) = k - i) := Lib.hid (by rw [hle, CodeMath.lead_none b k (by rw [HM.out]; omega)]; omega)
                  clear hle
                  have hkm : k = m := by omega
                  have hki : i < k := by omega
                  have hkii : (i : Int) < k := by omega
                  have hkmb : ((k : Int) == (m : Int)) = true := by rw [beq_iff_eq]; omega
                  have HEN : Hid (CodeMath.fqS b = pre ++ CodeMath.fqS (b.drop k)) := Lib.hid (by
                    have hbn : CodeMath.blankN (x :: t) = k - i := by unfold CodeMath.blankN; rw [← HD.out, if_neg (by rintro ⟨h, _⟩; rw [HLD.out, List.length_drop, HM.out] at h; omega), HLD.out]
                    rw [HE.out, CodeMath.fqS_blank _ (by rw [hbn]; omega), hbn, ← HD.out, List.drop_drop, show i + (k - i) = k by omega])
                  have hwk1 : IntKind.i64.wrap ((k : Int) - 1) = (k : Int) - 1 := by rw [IntKind.wrap_i64]; omega
                  have hwk2 : IntKind.i64.wrap ((k : Int) - 1 + 1) = (k : Int) := by rw [IntKind.wrap_i64]; omega
                  go_wp2
                  go_roundw
                  case rel => exact ⟨pre, k, by go_num, by omega, HEN.out, HO.out, HZ.out, HB.out, by rw [← HNP.out]; omega⟩
                  case measure => simp [intOf]; omega
            | some p =>
              have hp16 := CodeMath.digit_lt h1
              have HDG : Hid (∀ W, Calls Tryd.prog 31 #[.int .u8 (d.toNat : Int)] W fun e w' => e = .returned (.int .i64 (p : Int)) ∧ w' = W) := Lib.hid fun W => by
                have := nib_any W d
                rwa [CodeMath.digV_some h1] at this
              have hp0 : (0 : Int) ≤ p := by omega
              cases h2 : CodeMath.digit e with
              | none =>
                have HDG2 : Hid (∀ W, Calls Tryd.prog 31 #[.int .u8 (e.toNat : Int)] W fun e w' => e = .returned (.int .i64 (-1)) ∧ w' = W) := Lib.hid fun W => by
                  have := nib_any W e
                  rwa [CodeMath.digV_none h2] at this
                have HHX : Hid (CodeMath.hexAt (x :: t) = none) := Lib.hid (by rw [HDE.out.2.2]; simp [CodeMath.hexAt, h1, h2])
                clear h1 h2
                go_wp2_with fail
                refine (HDG.out _).mono ?_
                rintro e' wr ⟨rfl, rfl⟩
                go_wp2_with fail
                refine (HDG2.out _).mono ?_
                rintro e' wr ⟨rfl, rfl⟩
                clear HDG HDG2 x1 x2
                go_wp2_with fail
                go_loopw [5] (fun vk wz => ∃ k : Nat, i ≤ k ∧ k ≤ m ∧ vk = .int .i64 k ∧ CodeMath.lead (b.drop i) = (k - i) + CodeMath.lead (b.drop k) ∧ wz = wr) (fun vk _ => m - (intOf vk).toNat)
                case atStart => exact ⟨i, Nat.le_refl _, by omega, rfl, by simp, rfl⟩
                case round =>
                  obtain ⟨k, hik, hkm9, rfl, hle, hw⟩ := hrel
                  subst hw
                  have hwk : IntKind.i64.wrap ((k : Int) + 1) = ((k + 1 : Nat) : Int) := by rw [IntKind.wrap_i64]; omega
                  by_cases hkm0 : k < m
                  · have hkm0i : (k : Int) < m := by omega
                    have hkb : k < b.length := by rw [HM.out]; exact hkm0
                    obtain ⟨_, ea, y0⟩ := (HR.out.below HB.out).at_ k hkb
                    obtain rfl := Option.some.inj ea
                    have hnext := CodeMath.lead_drop b i k hik hle hkb
                    have hstop := CodeMath.lead_stop b k hkb
                    obtain ⟨y, hy⟩ : ∃ y, y = b[k] := ⟨_, rfl⟩
                    rw [← hy] at y0 hnext hstop
                    clear hy hkb ea
                    by_cases y32 : y = 32
                    · have k32 : ((y.toNat : Int) == 32) = true := u8_eq 32 rfl y32
                      have HN := Lib.hid (hnext (by rw [y32]; rfl))
                      clear hnext hstop y32 hle
                      go_wp2
                      go_roundw
                      case rel => exact ⟨k + 1, by omega, by omega, by go_num, HN.out, by trivial⟩
                      case measure => simp [intOf]; omega
                    · have k32 : ((y.toNat : Int) == 32) = false := u8_ne 32 rfl y32
                      by_cases y9 : y = 9
                      · have k9 : ((y.toNat : Int) == 9) = true := u8_eq 9 rfl y9
                        have HN := Lib.hid (hnext (by rw [y9]; rfl))
                        clear hnext hstop y32 y9 hle
                        go_wp2
                        go_roundw
                        case rel => exact ⟨k + 1, by omega, by omega, by go_num, HN.out, by trivial⟩
                        case measure => simp [intOf]; omega
                      · have k9 : ((y.toNat : Int) == 9) = false := u8_ne 9 rfl y9
                        have HLD : Hid (CodeMath.lead (b.drop i) = k - i) := Lib.hid (by rw [hle, hstop (by simp [CodeMath.isBl, y32, y9])]; omega)
                        clear hnext hstop y32 y9 hle
                        by_cases hki : i < k
                        · have hkii : (i : Int) < k := by omega
                          by_cases hkm : k = m
                          · have hkmb : ((k : Int) == (m : Int)) = true := by rw [beq_iff_eq]; omega
                            have HEN : Hid (CodeMath.fqS b = pre ++ CodeMath.fqS (b.drop k)) := Lib.hid (by
                              have hbn : CodeMath.blankN (x :: t) = k - i := by unfold CodeMath.blankN; rw [← HD.out, if_neg (by rintro ⟨h, _⟩; rw [HLD.out, List.length_drop, HM.out] at h; omega), HLD.out]
                              rw [HE.out, CodeMath.fqS_blank _ (by rw [hbn]; omega), hbn, ← HD.out, List.drop_drop, show i + (k - i) = k by omega])
                            have hwk1 : IntKind.i64.wrap ((k : Int) - 1) = (k : Int) - 1 := by rw [IntKind.wrap_i64]; omega
                            have hwk2 : IntKind.i64.wrap ((k : Int) - 1 + 1) = (k : Int) := by rw [IntKind.wrap_i64]; omega
                            go_wp2
                            go_roundw
                            case rel => exact ⟨pre, k, by go_num, by omega, HEN.out, HO.out, HZ.out, HB.out, by rw [← HNP.out]; omega⟩
                            case measure => simp [intOf]; omega
                          · have hkmb : ((k : Int) == (m : Int)) = false := by rw [beq_eq_false_iff_ne]; omega
                            have HCRK := Lib.hid (crlf_any wr (some a) m c b k (HR.out.below HB.out) HM.out (by omega))
                            cases hck : CodeMath.crlfAt (b.drop k) with
                            | true =>
                              rw [hck] at HCRK
                              have HCK := Lib.hid hck
                              clear hck
                              go_wp2_with fail
                              refine HCRK.out.mono ?_
                              rintro e w5 ⟨rfl, he⟩
                              rw [he]
                              clear he HCRK
                              have HEN : Hid (CodeMath.fqS b = pre ++ CodeMath.fqS (b.drop k)) := Lib.hid (by
                                have hbn : CodeMath.blankN (x :: t) = k - i := by unfold CodeMath.blankN; rw [← HD.out, if_neg (by rintro ⟨_, h⟩; rw [HLD.out, List.drop_drop, show i + (k - i) = k by omega, HCK.out] at h; cases h), HLD.out]
                                rw [HE.out, CodeMath.fqS_blank _ (by rw [hbn]; omega), hbn, ← HD.out, List.drop_drop, show i + (k - i) = k by omega])
                              have hwk1 : IntKind.i64.wrap ((k : Int) - 1) = (k : Int) - 1 := by rw [IntKind.wrap_i64]; omega
                              have hwk2 : IntKind.i64.wrap ((k : Int) - 1 + 1) = (k : Int) := by rw [IntKind.wrap_i64]; omega
                              go_wp2
                              go_roundw
                              case rel => exact ⟨pre, k, by go_num, by omega, HEN.out, HO.out, HZ.out, HB.out, by rw [← HNP.out]; omega⟩
                              case measure => simp [intOf]; omega
                            | false =>
                              rw [hck] at HCRK
                              have HCK := Lib.hid hck
                              clear hck
                              go_wp2_with fail
                              refine HCRK.out.mono ?_
                              rintro e w5 ⟨rfl, he⟩
                              rw [he]
                              clear he HCRK
                              have HEN : Hid (CodeMath.fqS b = (pre ++ [x]) ++ CodeMath.fqS (b.drop (i + 1))) := Lib.hid (by
                                rw [HE.out, CodeMath.fqS_else x t (by unfold CodeMath.blankN; rw [← HD.out, if_pos ⟨by rw [HLD.out, List.length_drop, HM.out]; omega, by rw [HLD.out, List.drop_drop, show i + (k - i) = k by omega, HCK.out]⟩]) HSF.out HHX.out, HT.out]; simp)
                              obtain ⟨W1, hW1⟩ : ∃ W1, W1 = wr.alloc (.cells #[.int .u8 (x.toNat : Int)] 5) := ⟨_, rfl⟩
                              have hbA : Below wr.heap.size wr W1 := by rw [hW1]; exact (Below.refl _ wr).alloc (Nat.le_refl _) _
                              obtain ⟨v3, W3, hrun3, ho3, hts3⟩ := appb_run (m := 1) (c := 1) (HO.out.below hbA) HZ.out (Rd.of_block (l := [x]) (show W1.heap[wr.heap.size]? = _ by rw [hW1]; exact heap_new wr _ _ rfl) (by simp)) rfl (Nat.le_trans HB.out.size hbA.size) (by rw [← HNP.out]; simp; omega)
                              have HO3 := Lib.hid ho3; have HRUN3 := Lib.hid hrun3; have HW1 := Lib.hid hW1
                              have HB3 : Hid (Below w.heap.size w W3) := Lib.hid ((below_then HB.out HB.out.size hbA).trans hts3.1)
                              have hl3 : (pre ++ [x]).length = np + 1 := by rw [List.length_append, ← HNP.out]; rfl
                              obtain ⟨A3, c3, rfl, _⟩ := ho3.shpn hl3
                              have HL3 := Lib.hid hl3
                              clear hW1 hbA hrun3 ho3 hts3 hl3
                              go_wp2_with (at_builtin; rw [← HW1.out]; refine Lib.wpList_append_run _ rfl _ _ _ _ rfl _ _ rfl rfl _ _ HRUN3.out ?_)
                              go_roundw
                              case rel => exact ⟨pre ++ [x], i + 1, by go_num, by omega, HEN.out, HO3.out, fun e => by simp at e, HB3.out, by rw [HL3.out]; omega⟩
                              case measure => simp [intOf]; omega
                        · have hkii : ¬ (i : Int) < k := by omega
                          have HL0 : Hid (CodeMath.lead (b.drop i) = 0) := Lib.hid (by rw [HLD.out]; omega)
                          have HEN : Hid (CodeMath.fqS b = (pre ++ [x]) ++ CodeMath.fqS (b.drop (i + 1))) := Lib.hid (by
                            rw [HE.out, CodeMath.fqS_else x t (by unfold CodeMath.blankN; rw [← HD.out, HL0.out]; split <;> rfl) HSF.out HHX.out, HT.out]; simp)
                          obtain ⟨W1, hW1⟩ : ∃ W1, W1 = wr.alloc (.cells #[.int .u8 (x.toNat : Int)] 5) := ⟨_, rfl⟩
                          have hbA : Below wr.heap.size wr W1 := by rw [hW1]; exact (Below.refl _ wr).alloc (Nat.le_refl _) _
                          obtain ⟨v3, W3, hrun3, ho3, hts3⟩ := appb_run (m := 1) (c := 1) (HO.out.below hbA) HZ.out (Rd.of_block (l := [x]) (show W1.heap[wr.heap.size]? = _ by rw [hW1]; exact heap_new wr _ _ rfl) (by simp)) rfl (Nat.le_trans HB.out.size hbA.size) (by rw [← HNP.out]; simp; omega)
                          have HO3 := Lib.hid ho3; have HRUN3 := Lib.hid hrun3; have HW1 := Lib.hid hW1
                          have HB3 : Hid (Below w.heap.size w W3) := Lib.hid ((below_then HB.out HB.out.size hbA).trans hts3.1)
                          have hl3 : (pre ++ [x]).length = np + 1 := by rw [List.length_append, ← HNP.out]; rfl
                          obtain ⟨A3, c3, rfl, _⟩ := ho3.shpn hl3
                          have HL3 := Lib.hid hl3
                          clear hW1 hbA hrun3 ho3 hts3 hl3
                          go_wp2_with (at_builtin; rw [← HW1.out]; refine Lib.wpList_append_run _ rfl _ _ _ _ rfl _ _ rfl rfl _ _ HRUN3.out ?_)
                          go_roundw
                          case rel => exact ⟨pre ++ [x], i + 1, by go_num, by omega, HEN.out, HO3.out, fun e => by simp at e, HB3.out, by rw [HL3.out]; omega⟩
                          case measure => simp [intOf]; omega
                  · have hkm0i : ¬ (k : Int) < m := by omega
                    have HLD : Hid (CodeMath.lead (b.drop i) = k - i) := Lib.hid (by rw [hle, CodeMath.lead_none b k (by rw [HM.out]; omega)]; omega)
                    clear hle
                    have hkm : k = m := by omega
                    have hki : i < k := by omega
                    have hkii : (i : Int) < k := by omega
                    have hkmb : ((k : Int) == (m : Int)) = true := by rw [beq_iff_eq]; omega
                    have HEN : Hid (CodeMath.fqS b = pre ++ CodeMath.fqS (b.drop k)) := Lib.hid (by
                      have hbn : CodeMath.blankN (x :: t) = k - i := by unfold CodeMath.blankN; rw [← HD.out, if_neg (by rintro ⟨h, _⟩; rw [HLD.out, List.length_drop, HM.out] at h; omega), HLD.out]
                      rw [HE.out, CodeMath.fqS_blank _ (by rw [hbn]; omega), hbn, ← HD.out, List.drop_drop, show i + (k - i) = k by omega])
                    have hwk1 : IntKind.i64.wrap ((k : Int) - 1) = (k : Int) - 1 := by rw [IntKind.wrap_i64]; omega
                    have hwk2 : IntKind.i64.wrap ((k : Int) - 1 + 1) = (k : Int) := by rw [IntKind.wrap_i64]; omega
                    go_wp2
                    go_roundw
                    case rel => exact ⟨pre, k, by go_num, by omega, HEN.out, HO.out, HZ.out, HB.out, by rw [← HNP.out]; omega⟩
                    case measure => simp [intOf]; omega
              | some q =>
                have hq16 := CodeMath.digit_lt h2
                have HDG2 : Hid (∀ W, Calls Tryd.prog 31 #[.int .u8 (e.toNat : Int)] W fun e w' => e = .returned (.int .i64 (q : Int)) ∧ w' = W) := Lib.hid fun W => by
                  have := nib_any W e
                  rwa [CodeMath.digV_some h2] at this
                have hq0 : (0 : Int) ≤ q := by omega
                obtain ⟨y, hy⟩ : ∃ y, y = UInt8.ofNat (p * 16 + q) := ⟨_, rfl⟩
                have HEN : Hid (CodeMath.fqS b = (pre ++ [y]) ++ CodeMath.fqS (b.drop (i + 3))) := Lib.hid (by
                  have hs := HSF.out
                  rw [HC61.out, HDE.out.2.2] at hs
                  rw [HE.out, HC61.out, HDE.out.2.2, CodeMath.fqS_hex d e _ p q hs h1 h2, hy]
                  simp)
                have hyn : y.toNat = p * 16 + q := by rw [hy, UInt8.toNat_ofNat']; omega
                have hws : IntKind.i64.wrap ((p : Int) * 16) = (p : Int) * 16 := by rw [IntKind.wrap_i64]; omega
                have hws2 : IntKind.i64.wrap ((p : Int) * 16 + q) = (y.toNat : Int) := by rw [IntKind.wrap_i64]; omega
                have hy8 := y.toNat_lt
                have hwu : IntKind.u8.wrap (y.toNat : Int) = (y.toNat : Int) := by rw [IntKind.wrap_u8]; omega
                have HV1 := Lib.hid (CodeMath.digV_some h1)
                have HV2 := Lib.hid (CodeMath.digV_some h2)
                clear hy hyn h1 h2
                have htn2 : ((i : Int) + 2).toNat = i + 2 := by omega
                have HBW : Hid (∀ W, TS w.heap.size wr.drew W → Below w.heap.size w W) := Lib.hid fun W hW => HB.out.trans ((Below.drew (Below.refl w.heap.size wr)).trans hW.1)
                have HC : Hid (∀ W, TS w.heap.size wr.drew W → W.cell? ⟨a.block, a.off + (i + 1), none⟩ = some (.int .u8 (d.toNat : Int)) ∧ W.cell? ⟨a.block, a.off + (i + 2), none⟩ = some (.int .u8 (e.toNat : Int))) := Lib.hid fun W hW => by
                  have hR := HR.out.below (HBW.out W hW)
                  obtain ⟨_, e1, x1⟩ := hR.at_ (i + 1) (by rw [HM.out]; omega)
                  obtain rfl := Option.some.inj e1
                  obtain ⟨_, e2, x2⟩ := hR.at_ (i + 2) (by rw [HM.out]; omega)
                  obtain rfl := Option.some.inj e2
                  rw [show a.add (i + 1) = ⟨a.block, a.off + (i + 1), none⟩ by simp [Addr.add], ← HDE.out.1] at x1
                  rw [show a.add (i + 2) = ⟨a.block, a.off + (i + 2), none⟩ by simp [Addr.add], ← HDE.out.2.1] at x2
                  exact ⟨x1, x2⟩
                have HSz : Hid (∀ W, TS w.heap.size wr.drew W → w.heap.size ≤ W.heap.size) := Lib.hid fun W hW => (HBW.out W hW).size
                have HL3 : Hid ((pre ++ [y]).length = np + 1) := Lib.hid (by rw [List.length_append, ← HNP.out]; rfl)
                go_wp2_with fail
                refine (HDG.out _).mono ?_
                rintro e' wr ⟨rfl, rfl⟩
                go_wp2_with fail
                refine (HDG2.out _).mono ?_
                rintro e' wr ⟨rfl, rfl⟩
                clear HDG HDG2
                go_wp2_with fail
                refine Stu.wp_region_stu _ (Stu.mkT [(6, svlS w.heap.size (.int .i64 (p : Int))), (13, svlS w.heap.size (.int .i64 (q : Int))), (16, slO w.heap.size y), (17, svO w.heap.size (np + 1) (pre ++ [y]))]) (fun W => Ob W w.heap.size 5 (.slice A0 np c00) pre) [17] (TS.refl _) TS.trans Gs.ts (fun _ _ h hg => h.below hg.1) (HO.out.below (Below.drew (Below.refl _ _))) (Stu.mkT_ks _ (by show List.Nodup [6, 13, 16, 17]; decide) _ rfl) (by kernel_rfl) (by kernel_rfl) (by kernel_rfl) ?_
                repeat (first
                  | (refine Stu.wpR_plain ?_ (by rfl) (by rfl) (fun K hK => ?_); (focus (first | (simp only [Region.wanted]; done) | (go_simp; done))); apply Exists.intro; refine ⟨fun W hW => ?_, ?_⟩; (go_simp; (try simp only [Stu.plainUpon_value, true_and]); rfl); go_simp; refine hK _ ?_; clear hK K)
                  | (refine Stu.wpR_plain ?_ (by rfl) (by rfl) (fun K hK => ?_); (focus (first | (simp only [Region.wanted]; done) | (go_simp; done))); apply Exists.intro; refine ⟨fun W hW => ?_, ?_⟩; (have hcw := HC.out W hW; go_simp; (try simp only [Stu.plainUpon_value, true_and]); rfl); go_simp; refine hK _ ?_; clear hK K)
                  | (refine Stu.wpR_spg (by rfl) (by rfl) ?_ ?_ (fun W hW hF => ?_) (fun K v hv hK => ?_); (focus (first | (simp only [Region.wanted]; done) | (go_simp; done))); (focus (exact ⟨_, rfl⟩)); (go_simp; simp only [Stu.relUpon_enter]; exact nib_rel (HSz.out W hW) d p HV1.out _); (cases hv); go_simp; refine hK _ ?_; clear hK K)
                  | (refine Stu.wpR_spg (by rfl) (by rfl) ?_ ?_ (fun W hW hF => ?_) (fun K v hv hK => ?_); (focus (first | (simp only [Region.wanted]; done) | (go_simp; done))); (focus (exact ⟨_, rfl⟩)); (go_simp; simp only [Stu.relUpon_enter]; exact nib_rel (HSz.out W hW) e q HV2.out _); (cases hv); go_simp; refine hK _ ?_; clear hK K)
                  | (refine Stu.wpR_spg (by rfl) (by rfl) ?_ ?_ (fun W hW hF => ?_) (fun K v hv hK => ?_); (focus (first | (simp only [Region.wanted]; done) | (go_simp; done))); (focus (exact ⟨_, 0, rfl⟩)); (go_simp; exact ⟨⟨(Below.refl _ W).alloc (Nat.le_refl _) _, HSz.out W hW⟩, ⟨_, rfl⟩, ⟨_, rfl, heap_new _ _ _ rfl⟩⟩); (obtain ⟨g2, rfl⟩ := hv); go_simp; refine hK _ ?_; clear hK K)
                  | (refine Stu.wpR_spu (by rfl) (by rfl) ?_ ?_ (fun W hW hU hF => ?_) (fun K v hv hK => ?_); (focus (first | (simp only [Region.wanted]; done) | (go_simp; done))); (focus (exact ⟨_, none, _, rfl, Nat.le_refl _⟩)); (obtain ⟨g', e1, e3⟩ := (show (slO w.heap.size y).q [] (.slice (some ⟨g2, 0, none⟩) 1 1) W from hF 16 rfl); cases e1; exact appb_rel rfl rfl rfl rfl hU HZ.out (Rd.of_block (l := [y]) e3 (by simp)) rfl (HSz.out W hW) (by rw [← HNP.out]; simp; omega) rfl HL3.out); (obtain ⟨A3, c3, rfl, hc3⟩ := hv); go_simp; refine hK _ ?_; clear hK K))
                refine Stu.wpR_nil (fun W hW hU hF => ?_)
                have ho3 : Ob W w.heap.size 5 (.slice A3 (np + 1) c3) (pre ++ [y]) := hU
                have HO3 := Lib.hid ho3
                have HB3 := Lib.hid (HBW.out W hW)
                clear hF hW hU HC HSz HBW ho3 x0 x1 x2
                go_wp2
                go_roundw
                case rel => exact ⟨pre ++ [y], i + 3, by go_num, by omega, HEN.out, HO3.out, fun e => by simp at e, HB3.out, by rw [HL3.out]; omega⟩
                case measure => simp [intOf]; omega
          · have h3i : ¬ (i : Int) + 2 < m := by omega
            have HHX : Hid (CodeMath.hexAt (x :: t) = none) := Lib.hid (by
              match t, HTL.out with
              | [], _ => rfl
              | [_], _ => rfl
              | d :: e :: t, h => exfalso; simp at h; omega)
            go_wp2_with fail
            go_loopw [5] (fun vk wz => ∃ k : Nat, i ≤ k ∧ k ≤ m ∧ vk = .int .i64 k ∧ CodeMath.lead (b.drop i) = (k - i) + CodeMath.lead (b.drop k) ∧ wz = wr) (fun vk _ => m - (intOf vk).toNat)
            case atStart => exact ⟨i, Nat.le_refl _, by omega, rfl, by simp, rfl⟩
            case round =>
              obtain ⟨k, hik, hkm9, rfl, hle, hw⟩ := hrel
              subst hw
              have hwk : IntKind.i64.wrap ((k : Int) + 1) = ((k + 1 : Nat) : Int) := by rw [IntKind.wrap_i64]; omega
              by_cases hkm0 : k < m
              · have hkm0i : (k : Int) < m := by omega
                have hkb : k < b.length := by rw [HM.out]; exact hkm0
                obtain ⟨_, ea, y0⟩ := (HR.out.below HB.out).at_ k hkb
                obtain rfl := Option.some.inj ea
                have hnext := CodeMath.lead_drop b i k hik hle hkb
                have hstop := CodeMath.lead_stop b k hkb
                obtain ⟨y, hy⟩ : ∃ y, y = b[k] := ⟨_, rfl⟩
                rw [← hy] at y0 hnext hstop
                clear hy hkb ea
                by_cases y32 : y = 32
                · have k32 : ((y.toNat : Int) == 32) = true := u8_eq 32 rfl y32
                  have HN := Lib.hid (hnext (by rw [y32]; rfl))
                  clear hnext hstop y32 hle
                  go_wp2
                  go_roundw
                  case rel => exact ⟨k + 1, by omega, by omega, by go_num, HN.out, by trivial⟩
                  case measure => simp [intOf]; omega
                · have k32 : ((y.toNat : Int) == 32) = false := u8_ne 32 rfl y32
                  by_cases y9 : y = 9
                  · have k9 : ((y.toNat : Int) == 9) = true := u8_eq 9 rfl y9
                    have HN := Lib.hid (hnext (by rw [y9]; rfl))
                    clear hnext hstop y32 y9 hle
                    go_wp2
                    go_roundw
                    case rel => exact ⟨k + 1, by omega, by omega, by go_num, HN.out, by trivial⟩
                    case measure => simp [intOf]; omega
                  · have k9 : ((y.toNat : Int) == 9) = false := u8_ne 9 rfl y9
                    have HLD : Hid (CodeMath.lead (b.drop i) = k - i) := Lib.hid (by rw [hle, hstop (by simp [CodeMath.isBl, y32, y9])]; omega)
                    clear hnext hstop y32 y9 hle
                    by_cases hki : i < k
                    · have hkii : (i : Int) < k := by omega
                      by_cases hkm : k = m
                      · have hkmb : ((k : Int) == (m : Int)) = true := by rw [beq_iff_eq]; omega
                        have HEN : Hid (CodeMath.fqS b = pre ++ CodeMath.fqS (b.drop k)) := Lib.hid (by
                          have hbn : CodeMath.blankN (x :: t) = k - i := by unfold CodeMath.blankN; rw [← HD.out, if_neg (by rintro ⟨h, _⟩; rw [HLD.out, List.length_drop, HM.out] at h; omega), HLD.out]
                          rw [HE.out, CodeMath.fqS_blank _ (by rw [hbn]; omega), hbn, ← HD.out, List.drop_drop, show i + (k - i) = k by omega])
                        have hwk1 : IntKind.i64.wrap ((k : Int) - 1) = (k : Int) - 1 := by rw [IntKind.wrap_i64]; omega
                        have hwk2 : IntKind.i64.wrap ((k : Int) - 1 + 1) = (k : Int) := by rw [IntKind.wrap_i64]; omega
                        go_wp2
                        go_roundw
                        case rel => exact ⟨pre, k, by go_num, by omega, HEN.out, HO.out, HZ.out, HB.out, by rw [← HNP.out]; omega⟩
                        case measure => simp [intOf]; omega
                      · have hkmb : ((k : Int) == (m : Int)) = false := by rw [beq_eq_false_iff_ne]; omega
                        have HCRK := Lib.hid (crlf_any wr (some a) m c b k (HR.out.below HB.out) HM.out (by omega))
                        cases hck : CodeMath.crlfAt (b.drop k) with
                        | true =>
                          rw [hck] at HCRK
                          have HCK := Lib.hid hck
                          clear hck
                          go_wp2_with fail
                          refine HCRK.out.mono ?_
                          rintro e w5 ⟨rfl, he⟩
                          rw [he]
                          clear he HCRK
                          have HEN : Hid (CodeMath.fqS b = pre ++ CodeMath.fqS (b.drop k)) := Lib.hid (by
                            have hbn : CodeMath.blankN (x :: t) = k - i := by unfold CodeMath.blankN; rw [← HD.out, if_neg (by rintro ⟨_, h⟩; rw [HLD.out, List.drop_drop, show i + (k - i) = k by omega, HCK.out] at h; cases h), HLD.out]
                            rw [HE.out, CodeMath.fqS_blank _ (by rw [hbn]; omega), hbn, ← HD.out, List.drop_drop, show i + (k - i) = k by omega])
                          have hwk1 : IntKind.i64.wrap ((k : Int) - 1) = (k : Int) - 1 := by rw [IntKind.wrap_i64]; omega
                          have hwk2 : IntKind.i64.wrap ((k : Int) - 1 + 1) = (k : Int) := by rw [IntKind.wrap_i64]; omega
                          go_wp2
                          go_roundw
                          case rel => exact ⟨pre, k, by go_num, by omega, HEN.out, HO.out, HZ.out, HB.out, by rw [← HNP.out]; omega⟩
                          case measure => simp [intOf]; omega
                        | false =>
                          rw [hck] at HCRK
                          have HCK := Lib.hid hck
                          clear hck
                          go_wp2_with fail
                          refine HCRK.out.mono ?_
                          rintro e w5 ⟨rfl, he⟩
                          rw [he]
                          clear he HCRK
                          have HEN : Hid (CodeMath.fqS b = (pre ++ [x]) ++ CodeMath.fqS (b.drop (i + 1))) := Lib.hid (by
                            rw [HE.out, CodeMath.fqS_else x t (by unfold CodeMath.blankN; rw [← HD.out, if_pos ⟨by rw [HLD.out, List.length_drop, HM.out]; omega, by rw [HLD.out, List.drop_drop, show i + (k - i) = k by omega, HCK.out]⟩]) HSF.out HHX.out, HT.out]; simp)
                          obtain ⟨W1, hW1⟩ : ∃ W1, W1 = wr.alloc (.cells #[.int .u8 (x.toNat : Int)] 5) := ⟨_, rfl⟩
                          have hbA : Below wr.heap.size wr W1 := by rw [hW1]; exact (Below.refl _ wr).alloc (Nat.le_refl _) _
                          obtain ⟨v3, W3, hrun3, ho3, hts3⟩ := appb_run (m := 1) (c := 1) (HO.out.below hbA) HZ.out (Rd.of_block (l := [x]) (show W1.heap[wr.heap.size]? = _ by rw [hW1]; exact heap_new wr _ _ rfl) (by simp)) rfl (Nat.le_trans HB.out.size hbA.size) (by rw [← HNP.out]; simp; omega)
                          have HO3 := Lib.hid ho3; have HRUN3 := Lib.hid hrun3; have HW1 := Lib.hid hW1
                          have HB3 : Hid (Below w.heap.size w W3) := Lib.hid ((below_then HB.out HB.out.size hbA).trans hts3.1)
                          have hl3 : (pre ++ [x]).length = np + 1 := by rw [List.length_append, ← HNP.out]; rfl
                          obtain ⟨A3, c3, rfl, _⟩ := ho3.shpn hl3
                          have HL3 := Lib.hid hl3
                          clear hW1 hbA hrun3 ho3 hts3 hl3
                          go_wp2_with (at_builtin; rw [← HW1.out]; refine Lib.wpList_append_run _ rfl _ _ _ _ rfl _ _ rfl rfl _ _ HRUN3.out ?_)
                          go_roundw
                          case rel => exact ⟨pre ++ [x], i + 1, by go_num, by omega, HEN.out, HO3.out, fun e => by simp at e, HB3.out, by rw [HL3.out]; omega⟩
                          case measure => simp [intOf]; omega
                    · have hkii : ¬ (i : Int) < k := by omega
                      have HL0 : Hid (CodeMath.lead (b.drop i) = 0) := Lib.hid (by rw [HLD.out]; omega)
                      have HEN : Hid (CodeMath.fqS b = (pre ++ [x]) ++ CodeMath.fqS (b.drop (i + 1))) := Lib.hid (by
                        rw [HE.out, CodeMath.fqS_else x t (by unfold CodeMath.blankN; rw [← HD.out, HL0.out]; split <;> rfl) HSF.out HHX.out, HT.out]; simp)
                      obtain ⟨W1, hW1⟩ : ∃ W1, W1 = wr.alloc (.cells #[.int .u8 (x.toNat : Int)] 5) := ⟨_, rfl⟩
                      have hbA : Below wr.heap.size wr W1 := by rw [hW1]; exact (Below.refl _ wr).alloc (Nat.le_refl _) _
                      obtain ⟨v3, W3, hrun3, ho3, hts3⟩ := appb_run (m := 1) (c := 1) (HO.out.below hbA) HZ.out (Rd.of_block (l := [x]) (show W1.heap[wr.heap.size]? = _ by rw [hW1]; exact heap_new wr _ _ rfl) (by simp)) rfl (Nat.le_trans HB.out.size hbA.size) (by rw [← HNP.out]; simp; omega)
                      have HO3 := Lib.hid ho3; have HRUN3 := Lib.hid hrun3; have HW1 := Lib.hid hW1
                      have HB3 : Hid (Below w.heap.size w W3) := Lib.hid ((below_then HB.out HB.out.size hbA).trans hts3.1)
                      have hl3 : (pre ++ [x]).length = np + 1 := by rw [List.length_append, ← HNP.out]; rfl
                      obtain ⟨A3, c3, rfl, _⟩ := ho3.shpn hl3
                      have HL3 := Lib.hid hl3
                      clear hW1 hbA hrun3 ho3 hts3 hl3
                      go_wp2_with (at_builtin; rw [← HW1.out]; refine Lib.wpList_append_run _ rfl _ _ _ _ rfl _ _ rfl rfl _ _ HRUN3.out ?_)
                      go_roundw
                      case rel => exact ⟨pre ++ [x], i + 1, by go_num, by omega, HEN.out, HO3.out, fun e => by simp at e, HB3.out, by rw [HL3.out]; omega⟩
                      case measure => simp [intOf]; omega
              · have hkm0i : ¬ (k : Int) < m := by omega
                have HLD : Hid (CodeMath.lead (b.drop i) = k - i) := Lib.hid (by rw [hle, CodeMath.lead_none b k (by rw [HM.out]; omega)]; omega)
                clear hle
                have hkm : k = m := by omega
                have hki : i < k := by omega
                have hkii : (i : Int) < k := by omega
                have hkmb : ((k : Int) == (m : Int)) = true := by rw [beq_iff_eq]; omega
                have HEN : Hid (CodeMath.fqS b = pre ++ CodeMath.fqS (b.drop k)) := Lib.hid (by
                  have hbn : CodeMath.blankN (x :: t) = k - i := by unfold CodeMath.blankN; rw [← HD.out, if_neg (by rintro ⟨h, _⟩; rw [HLD.out, List.length_drop, HM.out] at h; omega), HLD.out]
                  rw [HE.out, CodeMath.fqS_blank _ (by rw [hbn]; omega), hbn, ← HD.out, List.drop_drop, show i + (k - i) = k by omega])
                have hwk1 : IntKind.i64.wrap ((k : Int) - 1) = (k : Int) - 1 := by rw [IntKind.wrap_i64]; omega
                have hwk2 : IntKind.i64.wrap ((k : Int) - 1 + 1) = (k : Int) := by rw [IntKind.wrap_i64]; omega
                go_wp2
                go_roundw
                case rel => exact ⟨pre, k, by go_num, by omega, HEN.out, HO.out, HZ.out, HB.out, by rw [← HNP.out]; omega⟩
                case measure => simp [intOf]; omega
      · have k61 : ((x.toNat : Int) == 61) = false := u8_ne 61 rfl c61
        have HHX := Lib.hid (CodeMath.hexAt_ne x t c61)
        have HSF : Hid (CodeMath.soft (x :: t) = false) := Lib.hid (by rw [CodeMath.soft_eq]; simp [c61])
        clear c61
        go_wp2_with fail
        go_loopw [5] (fun vk wz => ∃ k : Nat, i ≤ k ∧ k ≤ m ∧ vk = .int .i64 k ∧ CodeMath.lead (b.drop i) = (k - i) + CodeMath.lead (b.drop k) ∧ wz = wr) (fun vk _ => m - (intOf vk).toNat)
        case atStart => exact ⟨i, Nat.le_refl _, by omega, rfl, by simp, rfl⟩
        case round =>
          obtain ⟨k, hik, hkm9, rfl, hle, hw⟩ := hrel
          subst hw
          have hwk : IntKind.i64.wrap ((k : Int) + 1) = ((k + 1 : Nat) : Int) := by rw [IntKind.wrap_i64]; omega
          by_cases hkm0 : k < m
          · have hkm0i : (k : Int) < m := by omega
            have hkb : k < b.length := by rw [HM.out]; exact hkm0
            obtain ⟨_, ea, y0⟩ := (HR.out.below HB.out).at_ k hkb
            obtain rfl := Option.some.inj ea
            have hnext := CodeMath.lead_drop b i k hik hle hkb
            have hstop := CodeMath.lead_stop b k hkb
            obtain ⟨y, hy⟩ : ∃ y, y = b[k] := ⟨_, rfl⟩
            rw [← hy] at y0 hnext hstop
            clear hy hkb ea
            by_cases y32 : y = 32
            · have k32 : ((y.toNat : Int) == 32) = true := u8_eq 32 rfl y32
              have HN := Lib.hid (hnext (by rw [y32]; rfl))
              clear hnext hstop y32 hle
              go_wp2
              go_roundw
              case rel => exact ⟨k + 1, by omega, by omega, by go_num, HN.out, by trivial⟩
              case measure => simp [intOf]; omega
            · have k32 : ((y.toNat : Int) == 32) = false := u8_ne 32 rfl y32
              by_cases y9 : y = 9
              · have k9 : ((y.toNat : Int) == 9) = true := u8_eq 9 rfl y9
                have HN := Lib.hid (hnext (by rw [y9]; rfl))
                clear hnext hstop y32 y9 hle
                go_wp2
                go_roundw
                case rel => exact ⟨k + 1, by omega, by omega, by go_num, HN.out, by trivial⟩
                case measure => simp [intOf]; omega
              · have k9 : ((y.toNat : Int) == 9) = false := u8_ne 9 rfl y9
                have HLD : Hid (CodeMath.lead (b.drop i) = k - i) := Lib.hid (by rw [hle, hstop (by simp [CodeMath.isBl, y32, y9])]; omega)
                clear hnext hstop y32 y9 hle
                by_cases hki : i < k
                · have hkii : (i : Int) < k := by omega
                  by_cases hkm : k = m
                  · have hkmb : ((k : Int) == (m : Int)) = true := by rw [beq_iff_eq]; omega
                    have HEN : Hid (CodeMath.fqS b = pre ++ CodeMath.fqS (b.drop k)) := Lib.hid (by
                      have hbn : CodeMath.blankN (x :: t) = k - i := by unfold CodeMath.blankN; rw [← HD.out, if_neg (by rintro ⟨h, _⟩; rw [HLD.out, List.length_drop, HM.out] at h; omega), HLD.out]
                      rw [HE.out, CodeMath.fqS_blank _ (by rw [hbn]; omega), hbn, ← HD.out, List.drop_drop, show i + (k - i) = k by omega])
                    have hwk1 : IntKind.i64.wrap ((k : Int) - 1) = (k : Int) - 1 := by rw [IntKind.wrap_i64]; omega
                    have hwk2 : IntKind.i64.wrap ((k : Int) - 1 + 1) = (k : Int) := by rw [IntKind.wrap_i64]; omega
                    go_wp2
                    go_roundw
                    case rel => exact ⟨pre, k, by go_num, by omega, HEN.out, HO.out, HZ.out, HB.out, by rw [← HNP.out]; omega⟩
                    case measure => simp [intOf]; omega
                  · have hkmb : ((k : Int) == (m : Int)) = false := by rw [beq_eq_false_iff_ne]; omega
                    have HCRK := Lib.hid (crlf_any wr (some a) m c b k (HR.out.below HB.out) HM.out (by omega))
                    cases hck : CodeMath.crlfAt (b.drop k) with
                    | true =>
                      rw [hck] at HCRK
                      have HCK := Lib.hid hck
                      clear hck
                      go_wp2_with fail
                      refine HCRK.out.mono ?_
                      rintro e w5 ⟨rfl, he⟩
                      rw [he]
                      clear he HCRK
                      have HEN : Hid (CodeMath.fqS b = pre ++ CodeMath.fqS (b.drop k)) := Lib.hid (by
                        have hbn : CodeMath.blankN (x :: t) = k - i := by unfold CodeMath.blankN; rw [← HD.out, if_neg (by rintro ⟨_, h⟩; rw [HLD.out, List.drop_drop, show i + (k - i) = k by omega, HCK.out] at h; cases h), HLD.out]
                        rw [HE.out, CodeMath.fqS_blank _ (by rw [hbn]; omega), hbn, ← HD.out, List.drop_drop, show i + (k - i) = k by omega])
                      have hwk1 : IntKind.i64.wrap ((k : Int) - 1) = (k : Int) - 1 := by rw [IntKind.wrap_i64]; omega
                      have hwk2 : IntKind.i64.wrap ((k : Int) - 1 + 1) = (k : Int) := by rw [IntKind.wrap_i64]; omega
                      go_wp2
                      go_roundw
                      case rel => exact ⟨pre, k, by go_num, by omega, HEN.out, HO.out, HZ.out, HB.out, by rw [← HNP.out]; omega⟩
                      case measure => simp [intOf]; omega
                    | false =>
                      rw [hck] at HCRK
                      have HCK := Lib.hid hck
                      clear hck
                      go_wp2_with fail
                      refine HCRK.out.mono ?_
                      rintro e w5 ⟨rfl, he⟩
                      rw [he]
                      clear he HCRK
                      have HEN : Hid (CodeMath.fqS b = (pre ++ [x]) ++ CodeMath.fqS (b.drop (i + 1))) := Lib.hid (by
                        rw [HE.out, CodeMath.fqS_else x t (by unfold CodeMath.blankN; rw [← HD.out, if_pos ⟨by rw [HLD.out, List.length_drop, HM.out]; omega, by rw [HLD.out, List.drop_drop, show i + (k - i) = k by omega, HCK.out]⟩]) HSF.out HHX.out, HT.out]; simp)
                      obtain ⟨W1, hW1⟩ : ∃ W1, W1 = wr.alloc (.cells #[.int .u8 (x.toNat : Int)] 5) := ⟨_, rfl⟩
                      have hbA : Below wr.heap.size wr W1 := by rw [hW1]; exact (Below.refl _ wr).alloc (Nat.le_refl _) _
                      obtain ⟨v3, W3, hrun3, ho3, hts3⟩ := appb_run (m := 1) (c := 1) (HO.out.below hbA) HZ.out (Rd.of_block (l := [x]) (show W1.heap[wr.heap.size]? = _ by rw [hW1]; exact heap_new wr _ _ rfl) (by simp)) rfl (Nat.le_trans HB.out.size hbA.size) (by rw [← HNP.out]; simp; omega)
                      have HO3 := Lib.hid ho3; have HRUN3 := Lib.hid hrun3; have HW1 := Lib.hid hW1
                      have HB3 : Hid (Below w.heap.size w W3) := Lib.hid ((below_then HB.out HB.out.size hbA).trans hts3.1)
                      have hl3 : (pre ++ [x]).length = np + 1 := by rw [List.length_append, ← HNP.out]; rfl
                      obtain ⟨A3, c3, rfl, _⟩ := ho3.shpn hl3
                      have HL3 := Lib.hid hl3
                      clear hW1 hbA hrun3 ho3 hts3 hl3
                      go_wp2_with (at_builtin; rw [← HW1.out]; refine Lib.wpList_append_run _ rfl _ _ _ _ rfl _ _ rfl rfl _ _ HRUN3.out ?_)
                      go_roundw
                      case rel => exact ⟨pre ++ [x], i + 1, by go_num, by omega, HEN.out, HO3.out, fun e => by simp at e, HB3.out, by rw [HL3.out]; omega⟩
                      case measure => simp [intOf]; omega
                · have hkii : ¬ (i : Int) < k := by omega
                  have HL0 : Hid (CodeMath.lead (b.drop i) = 0) := Lib.hid (by rw [HLD.out]; omega)
                  have HEN : Hid (CodeMath.fqS b = (pre ++ [x]) ++ CodeMath.fqS (b.drop (i + 1))) := Lib.hid (by
                    rw [HE.out, CodeMath.fqS_else x t (by unfold CodeMath.blankN; rw [← HD.out, HL0.out]; split <;> rfl) HSF.out HHX.out, HT.out]; simp)
                  obtain ⟨W1, hW1⟩ : ∃ W1, W1 = wr.alloc (.cells #[.int .u8 (x.toNat : Int)] 5) := ⟨_, rfl⟩
                  have hbA : Below wr.heap.size wr W1 := by rw [hW1]; exact (Below.refl _ wr).alloc (Nat.le_refl _) _
                  obtain ⟨v3, W3, hrun3, ho3, hts3⟩ := appb_run (m := 1) (c := 1) (HO.out.below hbA) HZ.out (Rd.of_block (l := [x]) (show W1.heap[wr.heap.size]? = _ by rw [hW1]; exact heap_new wr _ _ rfl) (by simp)) rfl (Nat.le_trans HB.out.size hbA.size) (by rw [← HNP.out]; simp; omega)
                  have HO3 := Lib.hid ho3; have HRUN3 := Lib.hid hrun3; have HW1 := Lib.hid hW1
                  have HB3 : Hid (Below w.heap.size w W3) := Lib.hid ((below_then HB.out HB.out.size hbA).trans hts3.1)
                  have hl3 : (pre ++ [x]).length = np + 1 := by rw [List.length_append, ← HNP.out]; rfl
                  obtain ⟨A3, c3, rfl, _⟩ := ho3.shpn hl3
                  have HL3 := Lib.hid hl3
                  clear hW1 hbA hrun3 ho3 hts3 hl3
                  go_wp2_with (at_builtin; rw [← HW1.out]; refine Lib.wpList_append_run _ rfl _ _ _ _ rfl _ _ rfl rfl _ _ HRUN3.out ?_)
                  go_roundw
                  case rel => exact ⟨pre ++ [x], i + 1, by go_num, by omega, HEN.out, HO3.out, fun e => by simp at e, HB3.out, by rw [HL3.out]; omega⟩
                  case measure => simp [intOf]; omega
          · have hkm0i : ¬ (k : Int) < m := by omega
            have HLD : Hid (CodeMath.lead (b.drop i) = k - i) := Lib.hid (by rw [hle, CodeMath.lead_none b k (by rw [HM.out]; omega)]; omega)
            clear hle
            have hkm : k = m := by omega
            have hki : i < k := by omega
            have hkii : (i : Int) < k := by omega
            have hkmb : ((k : Int) == (m : Int)) = true := by rw [beq_iff_eq]; omega
            have HEN : Hid (CodeMath.fqS b = pre ++ CodeMath.fqS (b.drop k)) := Lib.hid (by
              have hbn : CodeMath.blankN (x :: t) = k - i := by unfold CodeMath.blankN; rw [← HD.out, if_neg (by rintro ⟨h, _⟩; rw [HLD.out, List.length_drop, HM.out] at h; omega), HLD.out]
              rw [HE.out, CodeMath.fqS_blank _ (by rw [hbn]; omega), hbn, ← HD.out, List.drop_drop, show i + (k - i) = k by omega])
            have hwk1 : IntKind.i64.wrap ((k : Int) - 1) = (k : Int) - 1 := by rw [IntKind.wrap_i64]; omega
            have hwk2 : IntKind.i64.wrap ((k : Int) - 1 + 1) = (k : Int) := by rw [IntKind.wrap_i64]; omega
            go_wp2
            go_roundw
            case rel => exact ⟨pre, k, by go_num, by omega, HEN.out, HO.out, HZ.out, HB.out, by rw [← HNP.out]; omega⟩
            case measure => simp [intOf]; omega
    · have hlti : ¬ (i : Int) < m := by omega
      have HRES : Hid (CodeMath.fqS b = pre) := Lib.hid (by rw [HE.out, List.drop_eq_nil_of_le (by rw [HM.out]; omega), CodeMath.fqS_nil, List.append_nil])
      go_wp2
      go_ret
      exact ⟨_, rfl, by rw [HRES.out]; exact HO.out, HB.out⟩
end Go.Proofs.YtgaccogekmaijaaDoor
