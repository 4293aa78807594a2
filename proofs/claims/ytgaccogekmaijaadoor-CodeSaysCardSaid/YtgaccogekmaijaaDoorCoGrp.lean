/- Three bytes in four letters. -/
import Derived.Test.YtgaccogekmaijaaDoorCb
import Derived.Test.YtgaccogekmaijaaDoorCoMath
import Derived.Lib.EndianBits
namespace Go.Proofs.YtgaccogekmaijaaDoor
open Go.RowKit Go.Maps
set_option linter.unusedVariables false
set_option linter.unusedSimpArgs false
attribute [local irreducible] wpR relOp Stu.wpR Stu.relOp
theorem and63 (n : Int) : bits .and .i64 n 63 = n % 64 := by
  have h7 : (BitVec.ofInt 64 63).toNat = 2 ^ 6 - 1 := by decide
  have key : (BitVec.ofInt 64 n &&& BitVec.ofInt 64 63).toNat = (n % ((2 ^ 64 : Nat) : Int)).toNat % 2 ^ 6 := by
    rw [BitVec.toNat_and, BitVec.toNat_ofInt, h7, Nat.and_two_pow_sub_one_eq_mod]
  show IntKind.i64.wrap ((BitVec.ofInt 64 n &&& BitVec.ofInt 64 63).toNat : Nat) = n % 64
  rw [key, IntKind.wrap_i64]
  omega
theorem or_step (n : Nat) (b : UInt8) (h : n * 256 + b.toNat < 9223372036854775808) : bits .or .i64 ((n : Int) * 256) (b.toNat : Int) = ((n * 256 + b.toNat : Nat) : Int) := by
  have hb := b.toNat_lt
  rw [bits_join .i64 63 (by decide) (fun n h0 h1 => by rw [IntKind.wrap_i64]; omega) 8 _ _ (by omega) (by omega) (by omega) (by omega) (by omega) (by omega)]
  simp
def lettersS : ByteArray := ⟨#[65, 66, 67, 68, 69, 70, 71, 72, 73, 74, 75, 76, 77, 78, 79, 80, 81, 82, 83, 84, 85, 86, 87, 88, 89, 90, 97, 98, 99, 100, 101, 102, 103, 104, 105, 106, 107, 108, 109, 110, 111, 112, 113, 114, 115, 116, 117, 118, 119, 120, 121, 122, 48, 49, 50, 51, 52, 53, 54, 55, 56, 57, 43, 47]⟩
theorem fold_letters : (⟨#[65, 66, 67, 68, 69, 70, 71, 72, 73, 74, 75, 76, 77, 78, 79, 80, 81, 82, 83, 84, 85, 86, 87, 88, 89, 90, 97, 98, 99, 100, 101, 102, 103, 104, 105, 106, 107, 108, 109, 110, 111, 112, 113, 114, 115, 116, 117, 118, 119, 120, 121, 122, 48, 49, 50, 51, 52, 53, 54, 55, 56, 57, 43, 47]⟩ : ByteArray) = lettersS := rfl
theorem letters_size : lettersS.size = 64 := by decide
theorem letters_get : ∀ n : Fin 64, lettersS[n.val]'(by rw [letters_size]; exact n.isLt) = CodeMath.letter n.val := by decide +kernel
theorem run_letters (w : World) (n : Nat) (h : n < 64) : (Instr.index 9 (.string lettersS) (.int .i64 n)).run Tryd.prog w = .ok (.int .u8 (CodeMath.letter n).toNat) w := by
  have hi : (0 : Int) ≤ (n : Int) ∧ (n : Int) < (lettersS.size : Int) := by rw [letters_size]; omega
  rw [run_index_string w 9 lettersS .i64 n Tryd.underlying9, dif_pos hi]
  have := letters_get ⟨n, h⟩
  simp only [Int.toNat_natCast]
  rw [this]
theorem bv_set (l : List UInt8) (j : Nat) (b : UInt8) : (bv l).setIfInBounds j (.int .u8 (b.toNat : Int)) = bv (l.set j b) := by
  unfold bv
  rw [List.map_set]
  simp
theorem ob_of_bv {w : World} {g base : Nat} {l : List UInt8} (h : w.heap[g]? = some (.cells (bv l) 5)) (hb : base ≤ g) (hl : l.length ≤ 1000000) : Ob w base 5 (.slice (some ⟨g, 0, none⟩) l.length l.length) l :=
  ⟨by simp [bvl], .inr ⟨g, l.length, bv l, rfl, hb, h, Nat.le_refl _, Nat.le_trans hl (by decide), by simp [bv], by simp [bv, bvl]; rw [List.take_of_length_le (by simp)]⟩⟩
def fill (a b c d : UInt8) (n p : Nat) : List UInt8 := [a, b, if n + 1 ≤ 2 ∧ 2 < p then 61 else c, if n + 1 ≤ 3 ∧ 3 < p then 61 else d]
theorem fill_set (a b c d : UInt8) (n p : Nat) (h1 : 1 ≤ n) (h2 : n + 1 ≤ p) (h3 : p < 4) : (fill a b c d n p).set p 61 = fill a b c d n (p + 1) := by
  have hp : p = 2 ∨ p = 3 := by omega
  rcases hp with rfl | rfl
  · have : n = 1 := by omega
    subst this
    rfl
  · have : n = 1 ∨ n = 2 := by omega
    rcases this with rfl | rfl <;> rfl
theorem fill_end (a b c d : UInt8) (n : Nat) (h1 : 1 ≤ n) : fill a b c d n 4 = [a, b, if 2 ≤ n then c else 61, if 3 ≤ n then d else 61] := by
  unfold fill
  by_cases h2 : 2 ≤ n
  · by_cases h3 : 3 ≤ n
    · rw [if_neg (by omega), if_neg (by omega), if_pos h2, if_pos h3]
    · rw [if_neg (by omega), if_pos (by omega), if_pos h2, if_neg h3]
  · rw [if_pos (by omega), if_pos (by omega), if_neg h2, if_neg (by omega)]
theorem fill_start (a b c d : UInt8) (n : Nat) : fill a b c d n (n + 1) = [a, b, c, d] := by
  unfold fill
  rw [if_neg (by omega), if_neg (by omega)]
def Ng (b : List UInt8) : Nat → Nat
  | 0 => 0
  | i + 1 => Ng b i * 256 + CodeMath.at3 b i
set_option maxRecDepth 20000 in
set_option maxHeartbeats 1000000 in
theorem grp_any (w : World) (A : Option Addr) (c : Nat) (b : List UInt8) (hr : Rd w A b) (hc : b.length ≤ c) (h1 : 1 ≤ b.length) (h3 : b.length ≤ 3) :
    Calls Tryd.prog 19 #[.slice A b.length c] w fun e w' => ∃ v, e = .returned v ∧ Ob w' w.heap.size 5 v (CodeMath.grp b) ∧ Below w.heap.size w w' := by
  obtain ⟨n, hn⟩ : ∃ n, n = b.length := ⟨_, rfl⟩
  rw [← hn] at hc h1 h3 ⊢
  have HN := Lib.hid hn; have HR := Lib.hid hr
  clear hn hr
  go_enter Tryd.func19, Tryd.ntmps19
  go_wp2_with fail
  go_loopw [3, 4, 7] (fun v _ i wr => ∃ p : Nat, p ≤ 3 ∧ i = .int .i64 p ∧ v = .int .i64 (Ng b p) ∧ wr = w) (fun _ _ i _ => 3 - (intOf i).toNat)
  case atStart => exact ⟨0, by omega, rfl, rfl, rfl⟩
  case round =>
    obtain ⟨p, hp, rfl, rfl, hw⟩ := hrel
    subst hw
    by_cases hlt : p < 3
    · have hlti : (p : Int) < 3 := by omega
      have hwp : IntKind.i64.wrap ((p : Int) + 1) = ((p + 1 : Nat) : Int) := by rw [IntKind.wrap_i64]; omega
      have hN : Ng b p < 65536 := by
        have h0 := CodeMath.at3_lt b 0; have h1 := CodeMath.at3_lt b 1
        match p, hlt with
        | 0, _ => simp [Ng]
        | 1, _ => simp [Ng]; omega
        | 2, _ => simp [Ng]; omega
      have hsu : Ng b (p + 1) = Ng b p * 256 + CodeMath.at3 b p := rfl
      generalize Ng b p = X at *
      have hws : IntKind.i64.wrap ((X : Int) * 256) = (X : Int) * 256 := by rw [IntKind.wrap_i64]; omega
      by_cases hpn : p < n
      · have hpni : (p : Int) < n := by omega
        obtain ⟨a, rfl, hcell⟩ := HR.out.at_ p (by rw [← HN.out]; exact hpn)
        have hb : CodeMath.at3 b p = (b[p]'(by rw [← HN.out]; exact hpn)).toNat := by
          unfold CodeMath.at3
          rw [List.getD_eq_getElem?_getD, List.getElem?_eq_getElem (by rw [← HN.out]; exact hpn)]; rfl
        rw [hb] at hsu
        generalize b[p]'(by rw [← HN.out]; exact hpn) = y at *
        have HSU := Lib.hid hsu
        have hy := y.toNat_lt
        clear hsu hb
        go_wp2
        go_roundw
        case rel => exact ⟨p + 1, by omega, by go_num, by rw [HSU.out]; exact val_int (or_step X y (by omega)), by first | rfl | trivial⟩
        case measure => simp [intOf]; omega
      · have hpni : ¬ (p : Int) < n := by omega
        have hb : CodeMath.at3 b p = 0 := by
          unfold CodeMath.at3
          rw [List.getD_eq_getElem?_getD, List.getElem?_eq_none (by rw [← HN.out]; omega)]
          rfl
        have HSU := Lib.hid (show Ng b (p + 1) = X * 256 by rw [hsu, hb]; rfl)
        clear hsu hb
        go_wp2
        go_roundw
        case rel => exact ⟨p + 1, by omega, by go_num, by rw [HSU.out]; simp, by first | rfl | trivial⟩
        case measure => simp [intOf]; omega
    · have hp3 : p = 3 := by omega
      subst hp3
      have hN3 : Ng b 3 = CodeMath.N3 b := by unfold CodeMath.N3; simp only [Ng]; omega
      have hX9 := CodeMath.N3_lt b
      rw [hN3]
      have HG : Hid (CodeMath.grp b = [CodeMath.letter (CodeMath.N3 b / 262144), CodeMath.letter (CodeMath.N3 b / 4096 % 64), if 2 ≤ n then CodeMath.letter (CodeMath.N3 b / 64 % 64) else 61, if 3 ≤ n then CodeMath.letter (CodeMath.N3 b % 64) else 61]) := Lib.hid (by rw [HN.out]; rfl)
      generalize CodeMath.N3 b = X at *
      clear hN3 hlt
      have q1 : bits .and .i64 ((X : Int) / 262144) 63 = ((X / 262144 : Nat) : Int) := by rw [and63]; omega
      have q2 : bits .and .i64 ((X : Int) / 4096) 63 = ((X / 4096 % 64 : Nat) : Int) := by rw [and63]; omega
      have q3 : bits .and .i64 ((X : Int) / 64) 63 = ((X / 64 % 64 : Nat) : Int) := by rw [and63]; omega
      have q4 : bits .and .i64 (X : Int) 63 = ((X % 64 : Nat) : Int) := by rw [and63]; omega
      generalize hA1 : X / 262144 = n1 at *
      generalize hA2 : X / 4096 % 64 = n2 at *
      generalize hA3 : X / 64 % 64 = n3 at *
      generalize hA4 : X % 64 = n4 at *
      have h1' : n1 < 64 := by omega
      have h2' : n2 < 64 := by omega
      have h3' : n3 < 64 := by omega
      have h4' : n4 < 64 := by omega
      clear hA1 hA2 hA3 hA4
      have l0 := fold_letters
      have l1 := fun w => run_letters w n1 h1'
      have l2 := fun w => run_letters w n2 h2'
      have l3 := fun w => run_letters w n3 h3'
      have l4 := fun w => run_letters w n4 h4'
      go_wp2_with fail
      refine Stu.wp_region_stu _ (Stu.mkT [(15, clitS wr.heap.size 4 5 #[.int .u8 (CodeMath.letter n1).toNat, .int .u8 (CodeMath.letter n2).toNat, .int .u8 (CodeMath.letter n3).toNat, .int .u8 (CodeMath.letter n4).toNat])]) (fun _ => True) [] CB.refl (fun _ _ _ => CB.trans) (fun _ _ h => h) (fun _ _ _ _ => trivial) trivial (Stu.mkT_ks _ (by show List.Nodup [15]; decide) _ rfl) (by kernel_rfl) (by kernel_rfl) (by kernel_rfl) ?_
      repeat (refine Stu.wpR_plain ?_ (by rfl) (by rfl) (fun K hK => ?_); (focus (first | (simp only [Region.wanted]; done) | (go_simp; done))); apply Exists.intro; refine ⟨fun W hW => ?_, ?_⟩; (go_simp; (try simp only [Stu.plainUpon_value, true_and]); rfl); go_simp; refine hK _ ?_; clear hK K)
      (refine Stu.wpR_spg (by rfl) (by rfl) ?_ ?_ (fun W hW hF => ?_) (fun K v hv hK => ?_); (focus (first | (simp only [Region.wanted]; done) | (go_simp; done))); (focus (exact ⟨_, 0, rfl⟩)); (go_simp; exact clit_rel hW.size _); (obtain ⟨g5, rfl⟩ := hv); go_simp; refine hK _ ?_; clear hK K)
      repeat (refine Stu.wpR_plain ?_ (by rfl) (by rfl) (fun K hK => ?_); (focus (first | (simp only [Region.wanted]; done) | (go_simp; done))); apply Exists.intro; refine ⟨fun W hW => ?_, ?_⟩; (go_simp; (try simp only [Stu.plainUpon_value, true_and]); rfl); go_simp; refine hK _ ?_; clear hK K)
      refine Stu.wpR_nil (fun W hW hU hF => ?_)
      obtain ⟨g', e1, hg5, hh⟩ := (show ∃ g', Value.slice (some ⟨g5, 0, none⟩) 4 4 = .slice (some ⟨g', 0, none⟩) 4 4 ∧ wr.heap.size ≤ g' ∧ W.heap[g']? = some (.cells #[.int .u8 (CodeMath.letter n1).toNat, .int .u8 (CodeMath.letter n2).toNat, .int .u8 (CodeMath.letter n3).toNat, .int .u8 (CodeMath.letter n4).toNat] 5) from hF 15)
      cases e1
      have hbW : Below wr.heap.size wr W := (Below.drew (Below.refl _ wr)).trans hW
      generalize CodeMath.letter n1 = c1 at *
      generalize CodeMath.letter n2 = c2 at *
      generalize CodeMath.letter n3 = c3 at *
      generalize CodeMath.letter n4 = c4 at *
      have hmb : W.heap[g5]? = some (.cells (bv (fill c1 c2 c3 c4 n (n + 1))) 5) := by
        rw [fill_start]
        exact hh
      have HMB := Lib.hid hmb; have HBW := Lib.hid hbW
      have hwn : IntKind.i64.wrap ((n : Int) + 1) = ((n + 1 : Nat) : Int) := by rw [IntKind.wrap_i64]; omega
      obtain ⟨n1', hn1'⟩ : ∃ n1', n1' = n + 1 := ⟨_, rfl⟩
      rw [← hn1'] at hwn HMB
      have HN1 := Lib.hid hn1'
      clear hF hW hU hh hmb hbW l0 l1 l2 l3 l4 q1 q2 q3 q4 h1' h2' h3' h4'
      go_wp2_with fail
      go_loopw [6] (fun i wr2 => ∃ p : Nat, n1' ≤ p ∧ p ≤ 4 ∧ i = .int .i64 p ∧ wr2.heap[g5]? = some (.cells (bv (fill c1 c2 c3 c4 n p)) 5) ∧ Below wr.heap.size wr wr2) (fun i _ => 4 - (intOf i).toNat)
      case atStart => exact ⟨n1', Nat.le_refl _, by omega, by rw [HN1.out]; go_num, HMB.out, HBW.out⟩
      case round =>
        rename World => wL
        obtain ⟨p, hp1, hp4, rfl, hmb, hb⟩ := hrel
        by_cases hlt : p < 4
        · have hlti : (p : Int) < 4 := by omega
          have hwp : IntKind.i64.wrap ((p : Int) + 1) = ((p + 1 : Nat) : Int) := by rw [IntKind.wrap_i64]; omega
          have f0 : wL.frozen? ⟨g5, p, none⟩ = false := frozen_of_row _ _ p _ _ hmb
          obtain ⟨y, x0⟩ : ∃ y, wL.cell? ⟨g5, p, none⟩ = some y := by
            rw [cell_of_row _ g5 p _ _ _ hmb]
            have hp4' : p < (bv (fill c1 c2 c3 c4 n p)).size := by simp [bv, fill]; omega
            exact ⟨_, Array.getElem?_eq_getElem hp4'⟩
          have hms := heap_setCell_same wL g5 p _ _ (.int .u8 ((61 : UInt8).toNat : Int)) hmb
          rw [bv_set, fill_set c1 c2 c3 c4 n p h1 (by rw [← HN1.out]; exact hp1) hlt] at hms
          have hbs : Below wr.heap.size wr (wL.setCell ⟨g5, p, none⟩ (.int .u8 ((61 : UInt8).toNat : Int))) := Chg.below hb (Chg.setCell wL g5 p _) hb.size (fun k hk => by have hk : k = g5 := hk; omega)
          have HMS := Lib.hid hms; have HBS := Lib.hid hbs
          clear hmb hms hb hbs
          go_wp2
          go_roundw
          case rel => exact ⟨p + 1, by omega, by omega, by go_num, HMS.out, HBS.out⟩
          case measure => simp [intOf]; omega
        · have hp : p = 4 := by omega
          subst hp
          rw [fill_end c1 c2 c3 c4 n h1, ← HG.out] at hmb
          have hob : Ob wL wr.heap.size 5 (.slice (some ⟨g5, 0, none⟩) 4 4) (CodeMath.grp b) := ob_of_bv hmb hg5 (by rw [CodeMath.grp_len]; decide)
          have HOB := Lib.hid hob; have HBd := Lib.hid hb
          clear hmb hob hb
          go_wp2
          go_ret
          exact ⟨_, rfl, HOB.out, HBd.out⟩
end Go.Proofs.YtgaccogekmaijaaDoor
