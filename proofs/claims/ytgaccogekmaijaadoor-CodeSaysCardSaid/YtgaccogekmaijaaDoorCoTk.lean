/- One byte as it is written. -/
import Derived.Test.YtgaccogekmaijaaDoorCoTok
namespace CodeMath
def tokS (c : UInt8) (t : List UInt8) : List UInt8 := if crlfAt (c :: t) then [13, 10] else tok c t
def tokK (c : UInt8) (t : List UInt8) : Nat := if crlfAt (c :: t) then 2 else 1
end CodeMath
namespace Go.Proofs.YtgaccogekmaijaaDoor
open Go.RowKit Go.Maps
set_option linter.unusedVariables false
set_option linter.unusedSimpArgs false
attribute [local irreducible] wpR relOp Stu.wpR Stu.relOp
def hexS : ByteArray := ⟨#[48, 49, 50, 51, 52, 53, 54, 55, 56, 57, 65, 66, 67, 68, 69, 70]⟩
theorem fold_hex : (⟨#[48, 49, 50, 51, 52, 53, 54, 55, 56, 57, 65, 66, 67, 68, 69, 70]⟩ : ByteArray) = hexS := rfl
theorem hex_size : hexS.size = 16 := by decide
theorem hex_get : ∀ n : Fin 16, hexS[n.val]'(by rw [hex_size]; exact n.isLt) = CodeMath.hexN n.val := by decide +kernel
theorem run_hex (w : World) (n : Nat) (h : n < 16) : (Instr.index 9 (.string hexS) (.int .u8 n)).run Tryd.prog w = .ok (.int .u8 (CodeMath.hexN n).toNat) w := by
  have hi : (0 : Int) ≤ (n : Int) ∧ (n : Int) < (hexS.size : Int) := by rw [hex_size]; omega
  rw [run_index_string w 9 hexS .u8 n Tryd.underlying9, dif_pos hi]
  have := hex_get ⟨n, h⟩
  simp only [Int.toNat_natCast]
  rw [this]
theorem and15 (n : Int) : bits .and .u8 n 15 = n % 16 := by
  have h7 : (BitVec.ofInt 8 15).toNat = 2 ^ 4 - 1 := by decide
  have key : (BitVec.ofInt 8 n &&& BitVec.ofInt 8 15).toNat = (n % ((2 ^ 8 : Nat) : Int)).toNat % 2 ^ 4 := by
    rw [BitVec.toNat_and, BitVec.toNat_ofInt, h7, Nat.and_two_pow_sub_one_eq_mod]
  show IntKind.u8.wrap ((BitVec.ofInt 8 n &&& BitVec.ofInt 8 15).toNat : Nat) = n % 16
  rw [key, IntKind.wrap_u8]
  omega
def TokE (w : World) (x : UInt8) (t : List UInt8) (e : Ending) (w' : World) : Prop :=
  e = .returned (.tuple #[.string ⟨(CodeMath.tokS x t).toArray⟩, .int .i64 (CodeMath.tokK x t)]) ∧ Below w.heap.size w w'
theorem pfx2 (w : World) (A : Option Addr) (n c : Nat) (l : List UInt8) (h1 : Rd w A l) (hn : l.length = n) (hc : n ≤ c) :
    Calls Tryd.prog 24 #[.slice A n c, .slice (some ⟨w.heap.size, 0, none⟩) 2 2] (w.alloc (.cells #[.int .u8 13, .int .u8 10] 5 (2, 3))) fun e w' => e = .returned (.bool (CodeMath.crlfAt l)) ∧ Below w.heap.size w w' := by
  have := pfx_const w A n c l [13, 10] h1 hn hc (2, 3) (by decide)
  refine this.mono ?_
  rintro e w' ⟨rfl, h⟩
  refine ⟨?_, h⟩
  rw [← pfx_crlf, hn]
  rfl
theorem enc1 (x : UInt8) (h : (x.toNat : Int) ≤ 126) : Utf8.encode (x.toNat : Int) = ⟨#[x]⟩ := by
  have key : ∀ n : Fin 127, Utf8.encode (n.val : Int) = ⟨#[UInt8.ofNat n.val]⟩ := by decide +kernel
  have := key ⟨x.toNat, by omega⟩
  simpa using this
theorem enc2 {x n : UInt8} (h : ((x.toNat : Int) == (n.toNat : Int)) = true) {s : ByteArray} (hs : s = ⟨#[n]⟩) : s = ⟨[x].toArray⟩ := by
  rw [beq_iff_eq] at h
  have : x = n := UInt8.toNat_inj.1 (by omega)
  rw [this]; exact hs
theorem tokv {x : UInt8} {t : List UInt8} {s : ByteArray} {k : Int} (h : s = ⟨(CodeMath.tokS x t).toArray⟩) (h2 : k = (CodeMath.tokK x t : Nat)) :
    Ending.returned (.tuple #[.string s, .int .i64 k]) = .returned (.tuple #[.string ⟨(CodeMath.tokS x t).toArray⟩, .int .i64 (CodeMath.tokK x t)]) := by rw [h, h2]
theorem lit_sl {W : World} {S0 g5 : Nat} {a b : UInt8} (h : ∃ g, Value.slice (some ⟨g5, 0, none⟩) 2 2 = .slice (some ⟨g, 0, none⟩) 2 2 ∧ S0 ≤ g ∧ W.heap[g]? = some (.cells #[.int .u8 a.toNat, .int .u8 b.toNat] 5)) : Sl W (.slice (some ⟨g5, 0, none⟩) 2 2) [a, b] := by
  obtain ⟨g, e, h1, h2⟩ := h
  cases e
  exact (ob_of_bv (l := [a, b]) (show W.heap[g5]? = some (.cells (bv [a, b]) 5) from h2) h1 (by simp)).sl
theorem hexv (x : UInt8) (z : ByteArray) (h : z = ⟨#[61]⟩ ++ ⟨#[CodeMath.hexN (x.toNat / 16), CodeMath.hexN (x.toNat % 16)]⟩) : z = ⟨(CodeMath.hexed x).toArray⟩ := by
  rw [h]; rfl
theorem u8i (x n : UInt8) : x = n ↔ (x.toNat : Int) = (n.toNat : Int) := by
  constructor
  · intro h; rw [h]
  · intro h; exact UInt8.toNat_inj.1 (by omega)
set_option maxRecDepth 20000 in
set_option maxHeartbeats 2000000 in
theorem token_any (w : World) (A : Option Addr) (c n : Nat) (x : UInt8) (t : List UInt8) (hr : Rd w A (x :: t)) (hn : n = (x :: t).length) (hc : n ≤ c) :
    Calls Tryd.prog 20 #[.slice A n c] w (TokE w x t) := by
  obtain ⟨a, rfl, x0⟩ := hr.at_ 0 (by simp)
  simp only [List.getElem_cons_zero] at x0
  rw [show a.add 0 = a from rfl] at x0
  have kc := conv_const Tryd.underlying22 Tryd.underlying5
  have hy := x.toNat_lt
  have l0 := fold_hex
  have i1 : ∀ w, (Instr.index 9 (.string hexS) (.int .u8 ((x.toNat : Int) / 16))).run Tryd.prog w = .ok (.int .u8 (CodeMath.hexN (x.toNat / 16)).toNat) w := fun w => by
    have := run_hex w (x.toNat / 16) (by omega)
    rw [← this]
    congr 3
  have i2 : ∀ w, (Instr.index 9 (.string hexS) (.int .u8 ((x.toNat : Int) % 16))).run Tryd.prog w = .ok (.int .u8 (CodeMath.hexN (x.toNat % 16)).toNat) w := fun w => by
    have := run_hex w (x.toNat % 16) (by omega)
    rw [← this]
    congr 3
  have q15 := and15 (x.toNat : Int)
  by_cases h1 : n = 1
  · subst h1
    have ht : t = [] := by
      cases t with
      | nil => rfl
      | cons b t => simp at hn
    subst ht
    have HR := Lib.hid hr
    clear hr hn
    have hp := pfx2 w (some a) 1 c [x] HR.out rfl hc
    have HP := Lib.hid hp
    have HL : Hid ((([] : List UInt8).isEmpty || CodeMath.crlfAt []) = true) := Lib.hid rfl
    have hC : CodeMath.crlfAt [x] = false := rfl
    rw [hC] at HP
    have HC := Lib.hid hC
    clear hp HR hC
    obtain ⟨T, hT⟩ : ∃ T : List UInt8, T = [] := ⟨_, rfl⟩
    rw [← hT] at HL HC ⊢
    clear hT
    by_cases r1 : (32 : Int) < x.toNat
    · by_cases r2 : (x.toNat : Int) ≤ 126
      · by_cases r3 : (x.toNat : Int) = 61
        · have r4 : ((x.toNat : Int) != 61) = false := by rw [bne_eq_false_iff_eq]; exact r3
          have HT : Hid (CodeMath.tokS x T = CodeMath.hexed x ∧ CodeMath.tokK x T = 1) := Lib.hid (by
            unfold CodeMath.tokS CodeMath.tokK
            rw [HC.out]
            refine ⟨?_, rfl⟩
            simp only [Bool.false_eq_true, if_false]
            unfold CodeMath.tok CodeMath.raw CodeMath.isBl
            rw [HL.out]
            have e61 : x = 61 ↔ (x.toNat : Int) = 61 := u8i x 61
            have e32 : x = 32 ↔ (x.toNat : Int) = 32 := u8i x 32
            have e9 : x = 9 ↔ (x.toNat : Int) = 9 := u8i x 9
            have hx : x = 61 := e61.2 r3; simp [hx])
          clear r3
          go_enter Tryd.func20, Tryd.ntmps20
          go_wp2_with fail
          refine HP.out.mono ?_
          rintro e w1 ⟨rfl, hb⟩
          have HB := Lib.hid hb
          clear hb
          go_wp2_with fail
          refine Stu.wp_region_stu _ (Stu.mkT [(6, clitS w1.heap.size 2 5 #[.int .u8 (CodeMath.hexN (x.toNat / 16)).toNat, .int .u8 (CodeMath.hexN (x.toNat % 16)).toNat]), (7, cvaS (.string ⟨#[CodeMath.hexN (x.toNat / 16), CodeMath.hexN (x.toNat % 16)]⟩))]) (fun _ => True) [] CB.refl (fun _ _ _ => CB.trans) (fun _ _ h => h) (fun _ _ _ _ => trivial) trivial (Stu.mkT_ks _ (by show List.Nodup [6, 7]; decide) _ rfl) (by kernel_rfl) (by kernel_rfl) (by kernel_rfl) ?_
          repeat (refine Stu.wpR_plain ?_ (by rfl) (by rfl) (fun K hK => ?_); (focus (first | (simp only [Region.wanted]; done) | (go_simp; done))); apply Exists.intro; refine ⟨fun W hW => ?_, ?_⟩; (go_simp; (try simp only [Stu.plainUpon_value, true_and]); rfl); go_simp; refine hK _ ?_; clear hK K)
          (refine Stu.wpR_spg (by rfl) (by rfl) ?_ ?_ (fun W hW hF => ?_) (fun K v hv hK => ?_); (focus (first | (simp only [Region.wanted]; done) | (go_simp; done))); (focus (exact ⟨_, 0, rfl⟩)); (go_simp; exact clit_rel hW.size _); (obtain ⟨g5, rfl⟩ := hv); go_simp; refine hK _ ?_; clear hK K)
          (refine Stu.wpR_spg (by rfl) (by rfl) ?_ ?_ (fun W hW hF => ?_) (fun K v hv hK => ?_); (focus (first | (simp only [Region.wanted]; done) | (go_simp; done))); (focus (exact ⟨_, rfl⟩)); (exact cstr_rel rfl rfl (lit_sl (hF 6 rfl)) rfl _); (cases hv); go_simp; refine hK _ ?_; clear hK K)
          repeat (refine Stu.wpR_plain ?_ (by rfl) (by rfl) (fun K hK => ?_); (focus (first | (simp only [Region.wanted]; done) | (go_simp; done))); apply Exists.intro; refine ⟨fun W hW => ?_, ?_⟩; (go_simp; (try simp only [Stu.plainUpon_value, true_and]); rfl); go_simp; refine hK _ ?_; clear hK K)
          refine Stu.wpR_nil (fun W hW hU hF => ?_)
          have HBF : Hid (Below w.heap.size w W) := Lib.hid (below_then HB.out HB.out.size ((Below.drew (Below.refl _ w1)).trans hW))
          clear hF hW hU HB
          go_wp2
          go_ret2
          exact ⟨tokv (by rw [HT.out.1]; exact hexv x _ rfl) (by rw [HT.out.2]; rfl), HBF.out⟩
        · have r4 : ((x.toNat : Int) != 61) = true := by rw [bne_iff_ne]; exact r3
          have HT : Hid (CodeMath.tokS x T = [x] ∧ CodeMath.tokK x T = 1) := Lib.hid (by
            unfold CodeMath.tokS CodeMath.tokK
            rw [HC.out]
            refine ⟨?_, rfl⟩
            simp only [Bool.false_eq_true, if_false]
            unfold CodeMath.tok CodeMath.raw CodeMath.isBl
            rw [HL.out]
            have e61 : x = 61 ↔ (x.toNat : Int) = 61 := u8i x 61
            have e32 : x = 32 ↔ (x.toNat : Int) = 32 := u8i x 32
            have e9 : x = 9 ↔ (x.toNat : Int) = 9 := u8i x 9
            have hx : x ≠ 61 := fun h => r3 (e61.1 h); simp [hx]; omega)
          have HE := Lib.hid (enc1 x r2)
          go_enter Tryd.func20, Tryd.ntmps20
          go_wp2_with fail
          refine HP.out.mono ?_
          rintro e w1 ⟨rfl, hb⟩
          have HB := Lib.hid hb
          clear hb
          go_wp2
          go_ret2
          exact ⟨tokv (by rw [HT.out.1, HE.out]) (by rw [HT.out.2]; rfl), HB.out⟩
      · have HT : Hid (CodeMath.tokS x T = CodeMath.hexed x ∧ CodeMath.tokK x T = 1) := Lib.hid (by
  unfold CodeMath.tokS CodeMath.tokK
  rw [HC.out]
  refine ⟨?_, rfl⟩
  simp only [Bool.false_eq_true, if_false]
  unfold CodeMath.tok CodeMath.raw CodeMath.isBl
  rw [HL.out]
  have e61 : x = 61 ↔ (x.toNat : Int) = 61 := u8i x 61
  have e32 : x = 32 ↔ (x.toNat : Int) = 32 := u8i x 32
  have e9 : x = 9 ↔ (x.toNat : Int) = 9 := u8i x 9
  have hx : x ≠ 32 ∧ x ≠ 9 := ⟨fun h => by have := e32.1 h; omega, fun h => by have := e9.1 h; omega⟩; simp [hx.1, hx.2]; omega)
        go_enter Tryd.func20, Tryd.ntmps20
        go_wp2_with fail
        refine HP.out.mono ?_
        rintro e w1 ⟨rfl, hb⟩
        have HB := Lib.hid hb
        clear hb
        go_wp2_with fail
        refine Stu.wp_region_stu _ (Stu.mkT [(6, clitS w1.heap.size 2 5 #[.int .u8 (CodeMath.hexN (x.toNat / 16)).toNat, .int .u8 (CodeMath.hexN (x.toNat % 16)).toNat]), (7, cvaS (.string ⟨#[CodeMath.hexN (x.toNat / 16), CodeMath.hexN (x.toNat % 16)]⟩))]) (fun _ => True) [] CB.refl (fun _ _ _ => CB.trans) (fun _ _ h => h) (fun _ _ _ _ => trivial) trivial (Stu.mkT_ks _ (by show List.Nodup [6, 7]; decide) _ rfl) (by kernel_rfl) (by kernel_rfl) (by kernel_rfl) ?_
        repeat (refine Stu.wpR_plain ?_ (by rfl) (by rfl) (fun K hK => ?_); (focus (first | (simp only [Region.wanted]; done) | (go_simp; done))); apply Exists.intro; refine ⟨fun W hW => ?_, ?_⟩; (go_simp; (try simp only [Stu.plainUpon_value, true_and]); rfl); go_simp; refine hK _ ?_; clear hK K)
        (refine Stu.wpR_spg (by rfl) (by rfl) ?_ ?_ (fun W hW hF => ?_) (fun K v hv hK => ?_); (focus (first | (simp only [Region.wanted]; done) | (go_simp; done))); (focus (exact ⟨_, 0, rfl⟩)); (go_simp; exact clit_rel hW.size _); (obtain ⟨g5, rfl⟩ := hv); go_simp; refine hK _ ?_; clear hK K)
        (refine Stu.wpR_spg (by rfl) (by rfl) ?_ ?_ (fun W hW hF => ?_) (fun K v hv hK => ?_); (focus (first | (simp only [Region.wanted]; done) | (go_simp; done))); (focus (exact ⟨_, rfl⟩)); (exact cstr_rel rfl rfl (lit_sl (hF 6 rfl)) rfl _); (cases hv); go_simp; refine hK _ ?_; clear hK K)
        repeat (refine Stu.wpR_plain ?_ (by rfl) (by rfl) (fun K hK => ?_); (focus (first | (simp only [Region.wanted]; done) | (go_simp; done))); apply Exists.intro; refine ⟨fun W hW => ?_, ?_⟩; (go_simp; (try simp only [Stu.plainUpon_value, true_and]); rfl); go_simp; refine hK _ ?_; clear hK K)
        refine Stu.wpR_nil (fun W hW hU hF => ?_)
        have HBF : Hid (Below w.heap.size w W) := Lib.hid (below_then HB.out HB.out.size ((Below.drew (Below.refl _ w1)).trans hW))
        clear hF hW hU HB
        go_wp2
        go_ret2
        exact ⟨tokv (by rw [HT.out.1]; exact hexv x _ rfl) (by rw [HT.out.2]; rfl), HBF.out⟩
    · by_cases b32 : (x.toNat : Int) = 32
      · have k32 : ((x.toNat : Int) == 32) = true := by rw [beq_iff_eq]; exact b32
        have b9 : ¬ (x.toNat : Int) = 9 := by omega
        have HT : Hid (CodeMath.tokS x T = CodeMath.hexed x ∧ CodeMath.tokK x T = 1) := Lib.hid (by
          unfold CodeMath.tokS CodeMath.tokK
          rw [HC.out]
          refine ⟨?_, rfl⟩
          simp only [Bool.false_eq_true, if_false]
          unfold CodeMath.tok CodeMath.raw CodeMath.isBl
          rw [HL.out]
          have e61 : x = 61 ↔ (x.toNat : Int) = 61 := u8i x 61
          have e32 : x = 32 ↔ (x.toNat : Int) = 32 := u8i x 32
          have e9 : x = 9 ↔ (x.toNat : Int) = 9 := u8i x 9
          simp [e61, e32, e9, b32, b9]; try omega)
        clear b32 b9
        go_enter Tryd.func20, Tryd.ntmps20
        go_wp2_with fail
        refine HP.out.mono ?_
        rintro e w1 ⟨rfl, hb⟩
        have HB := Lib.hid hb
        clear hb
        go_wp2_with fail
        refine Stu.wp_region_stu _ (Stu.mkT [(6, clitS w1.heap.size 2 5 #[.int .u8 (CodeMath.hexN (x.toNat / 16)).toNat, .int .u8 (CodeMath.hexN (x.toNat % 16)).toNat]), (7, cvaS (.string ⟨#[CodeMath.hexN (x.toNat / 16), CodeMath.hexN (x.toNat % 16)]⟩))]) (fun _ => True) [] CB.refl (fun _ _ _ => CB.trans) (fun _ _ h => h) (fun _ _ _ _ => trivial) trivial (Stu.mkT_ks _ (by show List.Nodup [6, 7]; decide) _ rfl) (by kernel_rfl) (by kernel_rfl) (by kernel_rfl) ?_
        repeat (refine Stu.wpR_plain ?_ (by rfl) (by rfl) (fun K hK => ?_); (focus (first | (simp only [Region.wanted]; done) | (go_simp; done))); apply Exists.intro; refine ⟨fun W hW => ?_, ?_⟩; (go_simp; (try simp only [Stu.plainUpon_value, true_and]); rfl); go_simp; refine hK _ ?_; clear hK K)
        (refine Stu.wpR_spg (by rfl) (by rfl) ?_ ?_ (fun W hW hF => ?_) (fun K v hv hK => ?_); (focus (first | (simp only [Region.wanted]; done) | (go_simp; done))); (focus (exact ⟨_, 0, rfl⟩)); (go_simp; exact clit_rel hW.size _); (obtain ⟨g5, rfl⟩ := hv); go_simp; refine hK _ ?_; clear hK K)
        (refine Stu.wpR_spg (by rfl) (by rfl) ?_ ?_ (fun W hW hF => ?_) (fun K v hv hK => ?_); (focus (first | (simp only [Region.wanted]; done) | (go_simp; done))); (focus (exact ⟨_, rfl⟩)); (exact cstr_rel rfl rfl (lit_sl (hF 6 rfl)) rfl _); (cases hv); go_simp; refine hK _ ?_; clear hK K)
        repeat (refine Stu.wpR_plain ?_ (by rfl) (by rfl) (fun K hK => ?_); (focus (first | (simp only [Region.wanted]; done) | (go_simp; done))); apply Exists.intro; refine ⟨fun W hW => ?_, ?_⟩; (go_simp; (try simp only [Stu.plainUpon_value, true_and]); rfl); go_simp; refine hK _ ?_; clear hK K)
        refine Stu.wpR_nil (fun W hW hU hF => ?_)
        have HBF : Hid (Below w.heap.size w W) := Lib.hid (below_then HB.out HB.out.size ((Below.drew (Below.refl _ w1)).trans hW))
        clear hF hW hU HB
        go_wp2
        go_ret2
        exact ⟨tokv (by rw [HT.out.1]; exact hexv x _ rfl) (by rw [HT.out.2]; rfl), HBF.out⟩
      · have k32 : ((x.toNat : Int) == 32) = false := by rw [beq_eq_false_iff_ne]; exact b32
        by_cases b9 : (x.toNat : Int) = 9
        · have k9 : ((x.toNat : Int) == 9) = true := by rw [beq_iff_eq]; exact b9
          have HT : Hid (CodeMath.tokS x T = CodeMath.hexed x ∧ CodeMath.tokK x T = 1) := Lib.hid (by
            unfold CodeMath.tokS CodeMath.tokK
            rw [HC.out]
            refine ⟨?_, rfl⟩
            simp only [Bool.false_eq_true, if_false]
            unfold CodeMath.tok CodeMath.raw CodeMath.isBl
            rw [HL.out]
            have e61 : x = 61 ↔ (x.toNat : Int) = 61 := u8i x 61
            have e32 : x = 32 ↔ (x.toNat : Int) = 32 := u8i x 32
            have e9 : x = 9 ↔ (x.toNat : Int) = 9 := u8i x 9
            simp [e61, e32, e9, b32, b9]; try omega)
          clear b32 b9
          go_enter Tryd.func20, Tryd.ntmps20
          go_wp2_with fail
          refine HP.out.mono ?_
          rintro e w1 ⟨rfl, hb⟩
          have HB := Lib.hid hb
          clear hb
          go_wp2_with fail
          refine Stu.wp_region_stu _ (Stu.mkT [(6, clitS w1.heap.size 2 5 #[.int .u8 (CodeMath.hexN (x.toNat / 16)).toNat, .int .u8 (CodeMath.hexN (x.toNat % 16)).toNat]), (7, cvaS (.string ⟨#[CodeMath.hexN (x.toNat / 16), CodeMath.hexN (x.toNat % 16)]⟩))]) (fun _ => True) [] CB.refl (fun _ _ _ => CB.trans) (fun _ _ h => h) (fun _ _ _ _ => trivial) trivial (Stu.mkT_ks _ (by show List.Nodup [6, 7]; decide) _ rfl) (by kernel_rfl) (by kernel_rfl) (by kernel_rfl) ?_
          repeat (refine Stu.wpR_plain ?_ (by rfl) (by rfl) (fun K hK => ?_); (focus (first | (simp only [Region.wanted]; done) | (go_simp; done))); apply Exists.intro; refine ⟨fun W hW => ?_, ?_⟩; (go_simp; (try simp only [Stu.plainUpon_value, true_and]); rfl); go_simp; refine hK _ ?_; clear hK K)
          (refine Stu.wpR_spg (by rfl) (by rfl) ?_ ?_ (fun W hW hF => ?_) (fun K v hv hK => ?_); (focus (first | (simp only [Region.wanted]; done) | (go_simp; done))); (focus (exact ⟨_, 0, rfl⟩)); (go_simp; exact clit_rel hW.size _); (obtain ⟨g5, rfl⟩ := hv); go_simp; refine hK _ ?_; clear hK K)
          (refine Stu.wpR_spg (by rfl) (by rfl) ?_ ?_ (fun W hW hF => ?_) (fun K v hv hK => ?_); (focus (first | (simp only [Region.wanted]; done) | (go_simp; done))); (focus (exact ⟨_, rfl⟩)); (exact cstr_rel rfl rfl (lit_sl (hF 6 rfl)) rfl _); (cases hv); go_simp; refine hK _ ?_; clear hK K)
          repeat (refine Stu.wpR_plain ?_ (by rfl) (by rfl) (fun K hK => ?_); (focus (first | (simp only [Region.wanted]; done) | (go_simp; done))); apply Exists.intro; refine ⟨fun W hW => ?_, ?_⟩; (go_simp; (try simp only [Stu.plainUpon_value, true_and]); rfl); go_simp; refine hK _ ?_; clear hK K)
          refine Stu.wpR_nil (fun W hW hU hF => ?_)
          have HBF : Hid (Below w.heap.size w W) := Lib.hid (below_then HB.out HB.out.size ((Below.drew (Below.refl _ w1)).trans hW))
          clear hF hW hU HB
          go_wp2
          go_ret2
          exact ⟨tokv (by rw [HT.out.1]; exact hexv x _ rfl) (by rw [HT.out.2]; rfl), HBF.out⟩
        · have k9 : ((x.toNat : Int) == 9) = false := by rw [beq_eq_false_iff_ne]; exact b9
          have HT : Hid (CodeMath.tokS x T = CodeMath.hexed x ∧ CodeMath.tokK x T = 1) := Lib.hid (by
            unfold CodeMath.tokS CodeMath.tokK
            rw [HC.out]
            refine ⟨?_, rfl⟩
            simp only [Bool.false_eq_true, if_false]
            unfold CodeMath.tok CodeMath.raw CodeMath.isBl
            rw [HL.out]
            have e61 : x = 61 ↔ (x.toNat : Int) = 61 := u8i x 61
            have e32 : x = 32 ↔ (x.toNat : Int) = 32 := u8i x 32
            have e9 : x = 9 ↔ (x.toNat : Int) = 9 := u8i x 9
            simp [e61, e32, e9, b32, b9]; omega)
          go_enter Tryd.func20, Tryd.ntmps20
          go_wp2_with fail
          refine HP.out.mono ?_
          rintro e w1 ⟨rfl, hb⟩
          have HB := Lib.hid hb
          clear hb
          go_wp2_with fail
          refine Stu.wp_region_stu _ (Stu.mkT [(6, clitS w1.heap.size 2 5 #[.int .u8 (CodeMath.hexN (x.toNat / 16)).toNat, .int .u8 (CodeMath.hexN (x.toNat % 16)).toNat]), (7, cvaS (.string ⟨#[CodeMath.hexN (x.toNat / 16), CodeMath.hexN (x.toNat % 16)]⟩))]) (fun _ => True) [] CB.refl (fun _ _ _ => CB.trans) (fun _ _ h => h) (fun _ _ _ _ => trivial) trivial (Stu.mkT_ks _ (by show List.Nodup [6, 7]; decide) _ rfl) (by kernel_rfl) (by kernel_rfl) (by kernel_rfl) ?_
          repeat (refine Stu.wpR_plain ?_ (by rfl) (by rfl) (fun K hK => ?_); (focus (first | (simp only [Region.wanted]; done) | (go_simp; done))); apply Exists.intro; refine ⟨fun W hW => ?_, ?_⟩; (go_simp; (try simp only [Stu.plainUpon_value, true_and]); rfl); go_simp; refine hK _ ?_; clear hK K)
          (refine Stu.wpR_spg (by rfl) (by rfl) ?_ ?_ (fun W hW hF => ?_) (fun K v hv hK => ?_); (focus (first | (simp only [Region.wanted]; done) | (go_simp; done))); (focus (exact ⟨_, 0, rfl⟩)); (go_simp; exact clit_rel hW.size _); (obtain ⟨g5, rfl⟩ := hv); go_simp; refine hK _ ?_; clear hK K)
          (refine Stu.wpR_spg (by rfl) (by rfl) ?_ ?_ (fun W hW hF => ?_) (fun K v hv hK => ?_); (focus (first | (simp only [Region.wanted]; done) | (go_simp; done))); (focus (exact ⟨_, rfl⟩)); (exact cstr_rel rfl rfl (lit_sl (hF 6 rfl)) rfl _); (cases hv); go_simp; refine hK _ ?_; clear hK K)
          repeat (refine Stu.wpR_plain ?_ (by rfl) (by rfl) (fun K hK => ?_); (focus (first | (simp only [Region.wanted]; done) | (go_simp; done))); apply Exists.intro; refine ⟨fun W hW => ?_, ?_⟩; (go_simp; (try simp only [Stu.plainUpon_value, true_and]); rfl); go_simp; refine hK _ ?_; clear hK K)
          refine Stu.wpR_nil (fun W hW hU hF => ?_)
          have HBF : Hid (Below w.heap.size w W) := Lib.hid (below_then HB.out HB.out.size ((Below.drew (Below.refl _ w1)).trans hW))
          clear hF hW hU HB
          go_wp2
          go_ret2
          exact ⟨tokv (by rw [HT.out.1]; exact hexv x _ rfl) (by rw [HT.out.2]; rfl), HBF.out⟩
  · have h2 : 2 ≤ n := by have := hn; simp at this; omega
    have h2i : (1 : Int) ≤ n := by omega
    have h1c : 1 ≤ c := by omega
    have h1ci : (1 : Int) ≤ c := by omega
    have hn1 : ((n : Int) == 1) = false := by rw [beq_eq_false_iff_ne]; omega
    have hlt : t.length = n - 1 := by rw [hn]; rfl
    have hd : t.isEmpty = false := by
      cases t with
      | nil => simp at hlt; omega
      | cons b t => rfl
    have HP : Hid _ := Lib.hid (pfx2 w (some (a.add 1)) (n - 1) (c - 1) t (hr.drop 1) hlt (by omega))
    have HP2 : Hid _ := Lib.hid (fun w0 (hb0 : Below w.heap.size w w0) => pfx2 w0 (some a) n c (x :: t) (hr.below hb0) hn.symm hc)
    generalize hbt : CodeMath.crlfAt t = bt at *
    generalize hbc : CodeMath.crlfAt (x :: t) = bc at *
    have HC := Lib.hid hbc
    have HL : Hid ((t.isEmpty || CodeMath.crlfAt t) = bt) := Lib.hid (by rw [hd, hbt]; rfl)
    obtain ⟨T, hT⟩ : ∃ T : List UInt8, T = t := ⟨_, rfl⟩
    rw [← hT] at HL HC ⊢
    clear hbt hbc hd hlt hn hr hT
    cases bc with
    | true =>
      have HT : Hid (CodeMath.tokS x T = [13, 10] ∧ CodeMath.tokK x T = 2) := Lib.hid (by unfold CodeMath.tokS CodeMath.tokK; rw [HC.out]; exact ⟨rfl, rfl⟩)
      go_enter Tryd.func20, Tryd.ntmps20
      go_wp2_with fail
      refine HP.out.mono ?_
      rintro e w0 ⟨rfl, hb0⟩
      have hp2 := HP2.out w0 hb0
      have HB0 := Lib.hid hb0
      have HPW := Lib.hid hp2
      clear hb0 hp2
      go_wp2_with fail
      refine HPW.out.mono ?_
      rintro e w1 ⟨rfl, hb⟩
      have HB : Hid (Below w.heap.size w w1) := Lib.hid (below_then HB0.out HB0.out.size hb)
      clear hb HPW
      go_wp2
      go_ret2
      exact ⟨tokv (by rw [HT.out.1]) (by rw [HT.out.2]; rfl), HB.out⟩
    | false =>
      cases bt with
      | true =>
        by_cases r1 : (32 : Int) < x.toNat
        · by_cases r2 : (x.toNat : Int) ≤ 126
          · by_cases r3 : (x.toNat : Int) = 61
            · have r4 : ((x.toNat : Int) != 61) = false := by rw [bne_eq_false_iff_eq]; exact r3
              have HT : Hid (CodeMath.tokS x T = CodeMath.hexed x ∧ CodeMath.tokK x T = 1) := Lib.hid (by
                unfold CodeMath.tokS CodeMath.tokK
                rw [HC.out]
                refine ⟨?_, rfl⟩
                simp only [Bool.false_eq_true, if_false]
                unfold CodeMath.tok CodeMath.raw CodeMath.isBl
                rw [HL.out]
                have e61 : x = 61 ↔ (x.toNat : Int) = 61 := u8i x 61
                have e32 : x = 32 ↔ (x.toNat : Int) = 32 := u8i x 32
                have e9 : x = 9 ↔ (x.toNat : Int) = 9 := u8i x 9
                have hx : x = 61 := e61.2 r3; simp [hx])
              clear r3
              go_enter Tryd.func20, Tryd.ntmps20
              go_wp2_with fail
              refine HP.out.mono ?_
              rintro e w0 ⟨rfl, hb0⟩
              have hp2 := HP2.out w0 hb0
              have HB0 := Lib.hid hb0
              have HPW := Lib.hid hp2
              clear hb0 hp2
              go_wp2_with fail
              refine HPW.out.mono ?_
              rintro e w1 ⟨rfl, hb⟩
              have HB : Hid (Below w.heap.size w w1) := Lib.hid (below_then HB0.out HB0.out.size hb)
              clear hb HPW
              go_wp2_with fail
              refine Stu.wp_region_stu _ (Stu.mkT [(6, clitS w1.heap.size 2 5 #[.int .u8 (CodeMath.hexN (x.toNat / 16)).toNat, .int .u8 (CodeMath.hexN (x.toNat % 16)).toNat]), (7, cvaS (.string ⟨#[CodeMath.hexN (x.toNat / 16), CodeMath.hexN (x.toNat % 16)]⟩))]) (fun _ => True) [] CB.refl (fun _ _ _ => CB.trans) (fun _ _ h => h) (fun _ _ _ _ => trivial) trivial (Stu.mkT_ks _ (by show List.Nodup [6, 7]; decide) _ rfl) (by kernel_rfl) (by kernel_rfl) (by kernel_rfl) ?_
              repeat (refine Stu.wpR_plain ?_ (by rfl) (by rfl) (fun K hK => ?_); (focus (first | (simp only [Region.wanted]; done) | (go_simp; done))); apply Exists.intro; refine ⟨fun W hW => ?_, ?_⟩; (go_simp; (try simp only [Stu.plainUpon_value, true_and]); rfl); go_simp; refine hK _ ?_; clear hK K)
              (refine Stu.wpR_spg (by rfl) (by rfl) ?_ ?_ (fun W hW hF => ?_) (fun K v hv hK => ?_); (focus (first | (simp only [Region.wanted]; done) | (go_simp; done))); (focus (exact ⟨_, 0, rfl⟩)); (go_simp; exact clit_rel hW.size _); (obtain ⟨g5, rfl⟩ := hv); go_simp; refine hK _ ?_; clear hK K)
              (refine Stu.wpR_spg (by rfl) (by rfl) ?_ ?_ (fun W hW hF => ?_) (fun K v hv hK => ?_); (focus (first | (simp only [Region.wanted]; done) | (go_simp; done))); (focus (exact ⟨_, rfl⟩)); (exact cstr_rel rfl rfl (lit_sl (hF 6 rfl)) rfl _); (cases hv); go_simp; refine hK _ ?_; clear hK K)
              repeat (refine Stu.wpR_plain ?_ (by rfl) (by rfl) (fun K hK => ?_); (focus (first | (simp only [Region.wanted]; done) | (go_simp; done))); apply Exists.intro; refine ⟨fun W hW => ?_, ?_⟩; (go_simp; (try simp only [Stu.plainUpon_value, true_and]); rfl); go_simp; refine hK _ ?_; clear hK K)
              refine Stu.wpR_nil (fun W hW hU hF => ?_)
              have HBF : Hid (Below w.heap.size w W) := Lib.hid (below_then HB.out HB.out.size ((Below.drew (Below.refl _ w1)).trans hW))
              clear hF hW hU HB
              go_wp2
              go_ret2
              exact ⟨tokv (by rw [HT.out.1]; exact hexv x _ rfl) (by rw [HT.out.2]; rfl), HBF.out⟩
            · have r4 : ((x.toNat : Int) != 61) = true := by rw [bne_iff_ne]; exact r3
              have HT : Hid (CodeMath.tokS x T = [x] ∧ CodeMath.tokK x T = 1) := Lib.hid (by
                unfold CodeMath.tokS CodeMath.tokK
                rw [HC.out]
                refine ⟨?_, rfl⟩
                simp only [Bool.false_eq_true, if_false]
                unfold CodeMath.tok CodeMath.raw CodeMath.isBl
                rw [HL.out]
                have e61 : x = 61 ↔ (x.toNat : Int) = 61 := u8i x 61
                have e32 : x = 32 ↔ (x.toNat : Int) = 32 := u8i x 32
                have e9 : x = 9 ↔ (x.toNat : Int) = 9 := u8i x 9
                have hx : x ≠ 61 := fun h => r3 (e61.1 h); simp [hx]; omega)
              have HE := Lib.hid (enc1 x r2)
              go_enter Tryd.func20, Tryd.ntmps20
              go_wp2_with fail
              refine HP.out.mono ?_
              rintro e w0 ⟨rfl, hb0⟩
              have hp2 := HP2.out w0 hb0
              have HB0 := Lib.hid hb0
              have HPW := Lib.hid hp2
              clear hb0 hp2
              go_wp2_with fail
              refine HPW.out.mono ?_
              rintro e w1 ⟨rfl, hb⟩
              have HB : Hid (Below w.heap.size w w1) := Lib.hid (below_then HB0.out HB0.out.size hb)
              clear hb HPW
              go_wp2
              go_ret2
              exact ⟨tokv (by rw [HT.out.1, HE.out]) (by rw [HT.out.2]; rfl), HB.out⟩
          · have HT : Hid (CodeMath.tokS x T = CodeMath.hexed x ∧ CodeMath.tokK x T = 1) := Lib.hid (by
  unfold CodeMath.tokS CodeMath.tokK
  rw [HC.out]
  refine ⟨?_, rfl⟩
  simp only [Bool.false_eq_true, if_false]
  unfold CodeMath.tok CodeMath.raw CodeMath.isBl
  rw [HL.out]
  have e61 : x = 61 ↔ (x.toNat : Int) = 61 := u8i x 61
  have e32 : x = 32 ↔ (x.toNat : Int) = 32 := u8i x 32
  have e9 : x = 9 ↔ (x.toNat : Int) = 9 := u8i x 9
  have hx : x ≠ 32 ∧ x ≠ 9 := ⟨fun h => by have := e32.1 h; omega, fun h => by have := e9.1 h; omega⟩; simp [hx.1, hx.2]; omega)
            go_enter Tryd.func20, Tryd.ntmps20
            go_wp2_with fail
            refine HP.out.mono ?_
            rintro e w0 ⟨rfl, hb0⟩
            have hp2 := HP2.out w0 hb0
            have HB0 := Lib.hid hb0
            have HPW := Lib.hid hp2
            clear hb0 hp2
            go_wp2_with fail
            refine HPW.out.mono ?_
            rintro e w1 ⟨rfl, hb⟩
            have HB : Hid (Below w.heap.size w w1) := Lib.hid (below_then HB0.out HB0.out.size hb)
            clear hb HPW
            go_wp2_with fail
            refine Stu.wp_region_stu _ (Stu.mkT [(6, clitS w1.heap.size 2 5 #[.int .u8 (CodeMath.hexN (x.toNat / 16)).toNat, .int .u8 (CodeMath.hexN (x.toNat % 16)).toNat]), (7, cvaS (.string ⟨#[CodeMath.hexN (x.toNat / 16), CodeMath.hexN (x.toNat % 16)]⟩))]) (fun _ => True) [] CB.refl (fun _ _ _ => CB.trans) (fun _ _ h => h) (fun _ _ _ _ => trivial) trivial (Stu.mkT_ks _ (by show List.Nodup [6, 7]; decide) _ rfl) (by kernel_rfl) (by kernel_rfl) (by kernel_rfl) ?_
            repeat (refine Stu.wpR_plain ?_ (by rfl) (by rfl) (fun K hK => ?_); (focus (first | (simp only [Region.wanted]; done) | (go_simp; done))); apply Exists.intro; refine ⟨fun W hW => ?_, ?_⟩; (go_simp; (try simp only [Stu.plainUpon_value, true_and]); rfl); go_simp; refine hK _ ?_; clear hK K)
            (refine Stu.wpR_spg (by rfl) (by rfl) ?_ ?_ (fun W hW hF => ?_) (fun K v hv hK => ?_); (focus (first | (simp only [Region.wanted]; done) | (go_simp; done))); (focus (exact ⟨_, 0, rfl⟩)); (go_simp; exact clit_rel hW.size _); (obtain ⟨g5, rfl⟩ := hv); go_simp; refine hK _ ?_; clear hK K)
            (refine Stu.wpR_spg (by rfl) (by rfl) ?_ ?_ (fun W hW hF => ?_) (fun K v hv hK => ?_); (focus (first | (simp only [Region.wanted]; done) | (go_simp; done))); (focus (exact ⟨_, rfl⟩)); (exact cstr_rel rfl rfl (lit_sl (hF 6 rfl)) rfl _); (cases hv); go_simp; refine hK _ ?_; clear hK K)
            repeat (refine Stu.wpR_plain ?_ (by rfl) (by rfl) (fun K hK => ?_); (focus (first | (simp only [Region.wanted]; done) | (go_simp; done))); apply Exists.intro; refine ⟨fun W hW => ?_, ?_⟩; (go_simp; (try simp only [Stu.plainUpon_value, true_and]); rfl); go_simp; refine hK _ ?_; clear hK K)
            refine Stu.wpR_nil (fun W hW hU hF => ?_)
            have HBF : Hid (Below w.heap.size w W) := Lib.hid (below_then HB.out HB.out.size ((Below.drew (Below.refl _ w1)).trans hW))
            clear hF hW hU HB
            go_wp2
            go_ret2
            exact ⟨tokv (by rw [HT.out.1]; exact hexv x _ rfl) (by rw [HT.out.2]; rfl), HBF.out⟩
        · by_cases b32 : (x.toNat : Int) = 32
          · have k32 : ((x.toNat : Int) == 32) = true := by rw [beq_iff_eq]; exact b32
            have b9 : ¬ (x.toNat : Int) = 9 := by omega
            have HT : Hid (CodeMath.tokS x T = CodeMath.hexed x ∧ CodeMath.tokK x T = 1) := Lib.hid (by
              unfold CodeMath.tokS CodeMath.tokK
              rw [HC.out]
              refine ⟨?_, rfl⟩
              simp only [Bool.false_eq_true, if_false]
              unfold CodeMath.tok CodeMath.raw CodeMath.isBl
              rw [HL.out]
              have e61 : x = 61 ↔ (x.toNat : Int) = 61 := u8i x 61
              have e32 : x = 32 ↔ (x.toNat : Int) = 32 := u8i x 32
              have e9 : x = 9 ↔ (x.toNat : Int) = 9 := u8i x 9
              simp [e61, e32, e9, b32, b9]; try omega)
            clear b32 b9
            go_enter Tryd.func20, Tryd.ntmps20
            go_wp2_with fail
            refine HP.out.mono ?_
            rintro e w0 ⟨rfl, hb0⟩
            have hp2 := HP2.out w0 hb0
            have HB0 := Lib.hid hb0
            have HPW := Lib.hid hp2
            clear hb0 hp2
            go_wp2_with fail
            refine HPW.out.mono ?_
            rintro e w1 ⟨rfl, hb⟩
            have HB : Hid (Below w.heap.size w w1) := Lib.hid (below_then HB0.out HB0.out.size hb)
            clear hb HPW
            go_wp2_with fail
            refine Stu.wp_region_stu _ (Stu.mkT [(6, clitS w1.heap.size 2 5 #[.int .u8 (CodeMath.hexN (x.toNat / 16)).toNat, .int .u8 (CodeMath.hexN (x.toNat % 16)).toNat]), (7, cvaS (.string ⟨#[CodeMath.hexN (x.toNat / 16), CodeMath.hexN (x.toNat % 16)]⟩))]) (fun _ => True) [] CB.refl (fun _ _ _ => CB.trans) (fun _ _ h => h) (fun _ _ _ _ => trivial) trivial (Stu.mkT_ks _ (by show List.Nodup [6, 7]; decide) _ rfl) (by kernel_rfl) (by kernel_rfl) (by kernel_rfl) ?_
            repeat (refine Stu.wpR_plain ?_ (by rfl) (by rfl) (fun K hK => ?_); (focus (first | (simp only [Region.wanted]; done) | (go_simp; done))); apply Exists.intro; refine ⟨fun W hW => ?_, ?_⟩; (go_simp; (try simp only [Stu.plainUpon_value, true_and]); rfl); go_simp; refine hK _ ?_; clear hK K)
            (refine Stu.wpR_spg (by rfl) (by rfl) ?_ ?_ (fun W hW hF => ?_) (fun K v hv hK => ?_); (focus (first | (simp only [Region.wanted]; done) | (go_simp; done))); (focus (exact ⟨_, 0, rfl⟩)); (go_simp; exact clit_rel hW.size _); (obtain ⟨g5, rfl⟩ := hv); go_simp; refine hK _ ?_; clear hK K)
            (refine Stu.wpR_spg (by rfl) (by rfl) ?_ ?_ (fun W hW hF => ?_) (fun K v hv hK => ?_); (focus (first | (simp only [Region.wanted]; done) | (go_simp; done))); (focus (exact ⟨_, rfl⟩)); (exact cstr_rel rfl rfl (lit_sl (hF 6 rfl)) rfl _); (cases hv); go_simp; refine hK _ ?_; clear hK K)
            repeat (refine Stu.wpR_plain ?_ (by rfl) (by rfl) (fun K hK => ?_); (focus (first | (simp only [Region.wanted]; done) | (go_simp; done))); apply Exists.intro; refine ⟨fun W hW => ?_, ?_⟩; (go_simp; (try simp only [Stu.plainUpon_value, true_and]); rfl); go_simp; refine hK _ ?_; clear hK K)
            refine Stu.wpR_nil (fun W hW hU hF => ?_)
            have HBF : Hid (Below w.heap.size w W) := Lib.hid (below_then HB.out HB.out.size ((Below.drew (Below.refl _ w1)).trans hW))
            clear hF hW hU HB
            go_wp2
            go_ret2
            exact ⟨tokv (by rw [HT.out.1]; exact hexv x _ rfl) (by rw [HT.out.2]; rfl), HBF.out⟩
          · have k32 : ((x.toNat : Int) == 32) = false := by rw [beq_eq_false_iff_ne]; exact b32
            by_cases b9 : (x.toNat : Int) = 9
            · have k9 : ((x.toNat : Int) == 9) = true := by rw [beq_iff_eq]; exact b9
              have HT : Hid (CodeMath.tokS x T = CodeMath.hexed x ∧ CodeMath.tokK x T = 1) := Lib.hid (by
                unfold CodeMath.tokS CodeMath.tokK
                rw [HC.out]
                refine ⟨?_, rfl⟩
                simp only [Bool.false_eq_true, if_false]
                unfold CodeMath.tok CodeMath.raw CodeMath.isBl
                rw [HL.out]
                have e61 : x = 61 ↔ (x.toNat : Int) = 61 := u8i x 61
                have e32 : x = 32 ↔ (x.toNat : Int) = 32 := u8i x 32
                have e9 : x = 9 ↔ (x.toNat : Int) = 9 := u8i x 9
                simp [e61, e32, e9, b32, b9]; try omega)
              clear b32 b9
              go_enter Tryd.func20, Tryd.ntmps20
              go_wp2_with fail
              refine HP.out.mono ?_
              rintro e w0 ⟨rfl, hb0⟩
              have hp2 := HP2.out w0 hb0
              have HB0 := Lib.hid hb0
              have HPW := Lib.hid hp2
              clear hb0 hp2
              go_wp2_with fail
              refine HPW.out.mono ?_
              rintro e w1 ⟨rfl, hb⟩
              have HB : Hid (Below w.heap.size w w1) := Lib.hid (below_then HB0.out HB0.out.size hb)
              clear hb HPW
              go_wp2_with fail
              refine Stu.wp_region_stu _ (Stu.mkT [(6, clitS w1.heap.size 2 5 #[.int .u8 (CodeMath.hexN (x.toNat / 16)).toNat, .int .u8 (CodeMath.hexN (x.toNat % 16)).toNat]), (7, cvaS (.string ⟨#[CodeMath.hexN (x.toNat / 16), CodeMath.hexN (x.toNat % 16)]⟩))]) (fun _ => True) [] CB.refl (fun _ _ _ => CB.trans) (fun _ _ h => h) (fun _ _ _ _ => trivial) trivial (Stu.mkT_ks _ (by show List.Nodup [6, 7]; decide) _ rfl) (by kernel_rfl) (by kernel_rfl) (by kernel_rfl) ?_
              repeat (refine Stu.wpR_plain ?_ (by rfl) (by rfl) (fun K hK => ?_); (focus (first | (simp only [Region.wanted]; done) | (go_simp; done))); apply Exists.intro; refine ⟨fun W hW => ?_, ?_⟩; (go_simp; (try simp only [Stu.plainUpon_value, true_and]); rfl); go_simp; refine hK _ ?_; clear hK K)
              (refine Stu.wpR_spg (by rfl) (by rfl) ?_ ?_ (fun W hW hF => ?_) (fun K v hv hK => ?_); (focus (first | (simp only [Region.wanted]; done) | (go_simp; done))); (focus (exact ⟨_, 0, rfl⟩)); (go_simp; exact clit_rel hW.size _); (obtain ⟨g5, rfl⟩ := hv); go_simp; refine hK _ ?_; clear hK K)
              (refine Stu.wpR_spg (by rfl) (by rfl) ?_ ?_ (fun W hW hF => ?_) (fun K v hv hK => ?_); (focus (first | (simp only [Region.wanted]; done) | (go_simp; done))); (focus (exact ⟨_, rfl⟩)); (exact cstr_rel rfl rfl (lit_sl (hF 6 rfl)) rfl _); (cases hv); go_simp; refine hK _ ?_; clear hK K)
              repeat (refine Stu.wpR_plain ?_ (by rfl) (by rfl) (fun K hK => ?_); (focus (first | (simp only [Region.wanted]; done) | (go_simp; done))); apply Exists.intro; refine ⟨fun W hW => ?_, ?_⟩; (go_simp; (try simp only [Stu.plainUpon_value, true_and]); rfl); go_simp; refine hK _ ?_; clear hK K)
              refine Stu.wpR_nil (fun W hW hU hF => ?_)
              have HBF : Hid (Below w.heap.size w W) := Lib.hid (below_then HB.out HB.out.size ((Below.drew (Below.refl _ w1)).trans hW))
              clear hF hW hU HB
              go_wp2
              go_ret2
              exact ⟨tokv (by rw [HT.out.1]; exact hexv x _ rfl) (by rw [HT.out.2]; rfl), HBF.out⟩
            · have k9 : ((x.toNat : Int) == 9) = false := by rw [beq_eq_false_iff_ne]; exact b9
              have HT : Hid (CodeMath.tokS x T = CodeMath.hexed x ∧ CodeMath.tokK x T = 1) := Lib.hid (by
                unfold CodeMath.tokS CodeMath.tokK
                rw [HC.out]
                refine ⟨?_, rfl⟩
                simp only [Bool.false_eq_true, if_false]
                unfold CodeMath.tok CodeMath.raw CodeMath.isBl
                rw [HL.out]
                have e61 : x = 61 ↔ (x.toNat : Int) = 61 := u8i x 61
                have e32 : x = 32 ↔ (x.toNat : Int) = 32 := u8i x 32
                have e9 : x = 9 ↔ (x.toNat : Int) = 9 := u8i x 9
                simp [e61, e32, e9, b32, b9]; omega)
              go_enter Tryd.func20, Tryd.ntmps20
              go_wp2_with fail
              refine HP.out.mono ?_
              rintro e w0 ⟨rfl, hb0⟩
              have hp2 := HP2.out w0 hb0
              have HB0 := Lib.hid hb0
              have HPW := Lib.hid hp2
              clear hb0 hp2
              go_wp2_with fail
              refine HPW.out.mono ?_
              rintro e w1 ⟨rfl, hb⟩
              have HB : Hid (Below w.heap.size w w1) := Lib.hid (below_then HB0.out HB0.out.size hb)
              clear hb HPW
              go_wp2_with fail
              refine Stu.wp_region_stu _ (Stu.mkT [(6, clitS w1.heap.size 2 5 #[.int .u8 (CodeMath.hexN (x.toNat / 16)).toNat, .int .u8 (CodeMath.hexN (x.toNat % 16)).toNat]), (7, cvaS (.string ⟨#[CodeMath.hexN (x.toNat / 16), CodeMath.hexN (x.toNat % 16)]⟩))]) (fun _ => True) [] CB.refl (fun _ _ _ => CB.trans) (fun _ _ h => h) (fun _ _ _ _ => trivial) trivial (Stu.mkT_ks _ (by show List.Nodup [6, 7]; decide) _ rfl) (by kernel_rfl) (by kernel_rfl) (by kernel_rfl) ?_
              repeat (refine Stu.wpR_plain ?_ (by rfl) (by rfl) (fun K hK => ?_); (focus (first | (simp only [Region.wanted]; done) | (go_simp; done))); apply Exists.intro; refine ⟨fun W hW => ?_, ?_⟩; (go_simp; (try simp only [Stu.plainUpon_value, true_and]); rfl); go_simp; refine hK _ ?_; clear hK K)
              (refine Stu.wpR_spg (by rfl) (by rfl) ?_ ?_ (fun W hW hF => ?_) (fun K v hv hK => ?_); (focus (first | (simp only [Region.wanted]; done) | (go_simp; done))); (focus (exact ⟨_, 0, rfl⟩)); (go_simp; exact clit_rel hW.size _); (obtain ⟨g5, rfl⟩ := hv); go_simp; refine hK _ ?_; clear hK K)
              (refine Stu.wpR_spg (by rfl) (by rfl) ?_ ?_ (fun W hW hF => ?_) (fun K v hv hK => ?_); (focus (first | (simp only [Region.wanted]; done) | (go_simp; done))); (focus (exact ⟨_, rfl⟩)); (exact cstr_rel rfl rfl (lit_sl (hF 6 rfl)) rfl _); (cases hv); go_simp; refine hK _ ?_; clear hK K)
              repeat (refine Stu.wpR_plain ?_ (by rfl) (by rfl) (fun K hK => ?_); (focus (first | (simp only [Region.wanted]; done) | (go_simp; done))); apply Exists.intro; refine ⟨fun W hW => ?_, ?_⟩; (go_simp; (try simp only [Stu.plainUpon_value, true_and]); rfl); go_simp; refine hK _ ?_; clear hK K)
              refine Stu.wpR_nil (fun W hW hU hF => ?_)
              have HBF : Hid (Below w.heap.size w W) := Lib.hid (below_then HB.out HB.out.size ((Below.drew (Below.refl _ w1)).trans hW))
              clear hF hW hU HB
              go_wp2
              go_ret2
              exact ⟨tokv (by rw [HT.out.1]; exact hexv x _ rfl) (by rw [HT.out.2]; rfl), HBF.out⟩
      | false =>
        by_cases r1 : (32 : Int) < x.toNat
        · by_cases r2 : (x.toNat : Int) ≤ 126
          · by_cases r3 : (x.toNat : Int) = 61
            · have r4 : ((x.toNat : Int) != 61) = false := by rw [bne_eq_false_iff_eq]; exact r3
              have HT : Hid (CodeMath.tokS x T = CodeMath.hexed x ∧ CodeMath.tokK x T = 1) := Lib.hid (by
                unfold CodeMath.tokS CodeMath.tokK
                rw [HC.out]
                refine ⟨?_, rfl⟩
                simp only [Bool.false_eq_true, if_false]
                unfold CodeMath.tok CodeMath.raw CodeMath.isBl
                rw [HL.out]
                have e61 : x = 61 ↔ (x.toNat : Int) = 61 := u8i x 61
                have e32 : x = 32 ↔ (x.toNat : Int) = 32 := u8i x 32
                have e9 : x = 9 ↔ (x.toNat : Int) = 9 := u8i x 9
                have hx : x = 61 := e61.2 r3; simp [hx])
              clear r3
              go_enter Tryd.func20, Tryd.ntmps20
              go_wp2_with fail
              refine HP.out.mono ?_
              rintro e w0 ⟨rfl, hb0⟩
              have hp2 := HP2.out w0 hb0
              have HB0 := Lib.hid hb0
              have HPW := Lib.hid hp2
              clear hb0 hp2
              go_wp2_with fail
              refine HPW.out.mono ?_
              rintro e w1 ⟨rfl, hb⟩
              have HB : Hid (Below w.heap.size w w1) := Lib.hid (below_then HB0.out HB0.out.size hb)
              clear hb HPW
              go_wp2_with fail
              refine Stu.wp_region_stu _ (Stu.mkT [(6, clitS w1.heap.size 2 5 #[.int .u8 (CodeMath.hexN (x.toNat / 16)).toNat, .int .u8 (CodeMath.hexN (x.toNat % 16)).toNat]), (7, cvaS (.string ⟨#[CodeMath.hexN (x.toNat / 16), CodeMath.hexN (x.toNat % 16)]⟩))]) (fun _ => True) [] CB.refl (fun _ _ _ => CB.trans) (fun _ _ h => h) (fun _ _ _ _ => trivial) trivial (Stu.mkT_ks _ (by show List.Nodup [6, 7]; decide) _ rfl) (by kernel_rfl) (by kernel_rfl) (by kernel_rfl) ?_
              repeat (refine Stu.wpR_plain ?_ (by rfl) (by rfl) (fun K hK => ?_); (focus (first | (simp only [Region.wanted]; done) | (go_simp; done))); apply Exists.intro; refine ⟨fun W hW => ?_, ?_⟩; (go_simp; (try simp only [Stu.plainUpon_value, true_and]); rfl); go_simp; refine hK _ ?_; clear hK K)
              (refine Stu.wpR_spg (by rfl) (by rfl) ?_ ?_ (fun W hW hF => ?_) (fun K v hv hK => ?_); (focus (first | (simp only [Region.wanted]; done) | (go_simp; done))); (focus (exact ⟨_, 0, rfl⟩)); (go_simp; exact clit_rel hW.size _); (obtain ⟨g5, rfl⟩ := hv); go_simp; refine hK _ ?_; clear hK K)
              (refine Stu.wpR_spg (by rfl) (by rfl) ?_ ?_ (fun W hW hF => ?_) (fun K v hv hK => ?_); (focus (first | (simp only [Region.wanted]; done) | (go_simp; done))); (focus (exact ⟨_, rfl⟩)); (exact cstr_rel rfl rfl (lit_sl (hF 6 rfl)) rfl _); (cases hv); go_simp; refine hK _ ?_; clear hK K)
              repeat (refine Stu.wpR_plain ?_ (by rfl) (by rfl) (fun K hK => ?_); (focus (first | (simp only [Region.wanted]; done) | (go_simp; done))); apply Exists.intro; refine ⟨fun W hW => ?_, ?_⟩; (go_simp; (try simp only [Stu.plainUpon_value, true_and]); rfl); go_simp; refine hK _ ?_; clear hK K)
              refine Stu.wpR_nil (fun W hW hU hF => ?_)
              have HBF : Hid (Below w.heap.size w W) := Lib.hid (below_then HB.out HB.out.size ((Below.drew (Below.refl _ w1)).trans hW))
              clear hF hW hU HB
              go_wp2
              go_ret2
              exact ⟨tokv (by rw [HT.out.1]; exact hexv x _ rfl) (by rw [HT.out.2]; rfl), HBF.out⟩
            · have r4 : ((x.toNat : Int) != 61) = true := by rw [bne_iff_ne]; exact r3
              have HT : Hid (CodeMath.tokS x T = [x] ∧ CodeMath.tokK x T = 1) := Lib.hid (by
                unfold CodeMath.tokS CodeMath.tokK
                rw [HC.out]
                refine ⟨?_, rfl⟩
                simp only [Bool.false_eq_true, if_false]
                unfold CodeMath.tok CodeMath.raw CodeMath.isBl
                rw [HL.out]
                have e61 : x = 61 ↔ (x.toNat : Int) = 61 := u8i x 61
                have e32 : x = 32 ↔ (x.toNat : Int) = 32 := u8i x 32
                have e9 : x = 9 ↔ (x.toNat : Int) = 9 := u8i x 9
                have hx : x ≠ 61 := fun h => r3 (e61.1 h); simp [hx]; omega)
              have HE := Lib.hid (enc1 x r2)
              go_enter Tryd.func20, Tryd.ntmps20
              go_wp2_with fail
              refine HP.out.mono ?_
              rintro e w0 ⟨rfl, hb0⟩
              have hp2 := HP2.out w0 hb0
              have HB0 := Lib.hid hb0
              have HPW := Lib.hid hp2
              clear hb0 hp2
              go_wp2_with fail
              refine HPW.out.mono ?_
              rintro e w1 ⟨rfl, hb⟩
              have HB : Hid (Below w.heap.size w w1) := Lib.hid (below_then HB0.out HB0.out.size hb)
              clear hb HPW
              go_wp2
              go_ret2
              exact ⟨tokv (by rw [HT.out.1, HE.out]) (by rw [HT.out.2]; rfl), HB.out⟩
          · have HT : Hid (CodeMath.tokS x T = CodeMath.hexed x ∧ CodeMath.tokK x T = 1) := Lib.hid (by
  unfold CodeMath.tokS CodeMath.tokK
  rw [HC.out]
  refine ⟨?_, rfl⟩
  simp only [Bool.false_eq_true, if_false]
  unfold CodeMath.tok CodeMath.raw CodeMath.isBl
  rw [HL.out]
  have e61 : x = 61 ↔ (x.toNat : Int) = 61 := u8i x 61
  have e32 : x = 32 ↔ (x.toNat : Int) = 32 := u8i x 32
  have e9 : x = 9 ↔ (x.toNat : Int) = 9 := u8i x 9
  have hx : x ≠ 32 ∧ x ≠ 9 := ⟨fun h => by have := e32.1 h; omega, fun h => by have := e9.1 h; omega⟩; simp [hx.1, hx.2]; omega)
            go_enter Tryd.func20, Tryd.ntmps20
            go_wp2_with fail
            refine HP.out.mono ?_
            rintro e w0 ⟨rfl, hb0⟩
            have hp2 := HP2.out w0 hb0
            have HB0 := Lib.hid hb0
            have HPW := Lib.hid hp2
            clear hb0 hp2
            go_wp2_with fail
            refine HPW.out.mono ?_
            rintro e w1 ⟨rfl, hb⟩
            have HB : Hid (Below w.heap.size w w1) := Lib.hid (below_then HB0.out HB0.out.size hb)
            clear hb HPW
            go_wp2_with fail
            refine Stu.wp_region_stu _ (Stu.mkT [(6, clitS w1.heap.size 2 5 #[.int .u8 (CodeMath.hexN (x.toNat / 16)).toNat, .int .u8 (CodeMath.hexN (x.toNat % 16)).toNat]), (7, cvaS (.string ⟨#[CodeMath.hexN (x.toNat / 16), CodeMath.hexN (x.toNat % 16)]⟩))]) (fun _ => True) [] CB.refl (fun _ _ _ => CB.trans) (fun _ _ h => h) (fun _ _ _ _ => trivial) trivial (Stu.mkT_ks _ (by show List.Nodup [6, 7]; decide) _ rfl) (by kernel_rfl) (by kernel_rfl) (by kernel_rfl) ?_
            repeat (refine Stu.wpR_plain ?_ (by rfl) (by rfl) (fun K hK => ?_); (focus (first | (simp only [Region.wanted]; done) | (go_simp; done))); apply Exists.intro; refine ⟨fun W hW => ?_, ?_⟩; (go_simp; (try simp only [Stu.plainUpon_value, true_and]); rfl); go_simp; refine hK _ ?_; clear hK K)
            (refine Stu.wpR_spg (by rfl) (by rfl) ?_ ?_ (fun W hW hF => ?_) (fun K v hv hK => ?_); (focus (first | (simp only [Region.wanted]; done) | (go_simp; done))); (focus (exact ⟨_, 0, rfl⟩)); (go_simp; exact clit_rel hW.size _); (obtain ⟨g5, rfl⟩ := hv); go_simp; refine hK _ ?_; clear hK K)
            (refine Stu.wpR_spg (by rfl) (by rfl) ?_ ?_ (fun W hW hF => ?_) (fun K v hv hK => ?_); (focus (first | (simp only [Region.wanted]; done) | (go_simp; done))); (focus (exact ⟨_, rfl⟩)); (exact cstr_rel rfl rfl (lit_sl (hF 6 rfl)) rfl _); (cases hv); go_simp; refine hK _ ?_; clear hK K)
            repeat (refine Stu.wpR_plain ?_ (by rfl) (by rfl) (fun K hK => ?_); (focus (first | (simp only [Region.wanted]; done) | (go_simp; done))); apply Exists.intro; refine ⟨fun W hW => ?_, ?_⟩; (go_simp; (try simp only [Stu.plainUpon_value, true_and]); rfl); go_simp; refine hK _ ?_; clear hK K)
            refine Stu.wpR_nil (fun W hW hU hF => ?_)
            have HBF : Hid (Below w.heap.size w W) := Lib.hid (below_then HB.out HB.out.size ((Below.drew (Below.refl _ w1)).trans hW))
            clear hF hW hU HB
            go_wp2
            go_ret2
            exact ⟨tokv (by rw [HT.out.1]; exact hexv x _ rfl) (by rw [HT.out.2]; rfl), HBF.out⟩
        · by_cases b32 : (x.toNat : Int) = 32
          · have k32 : ((x.toNat : Int) == 32) = true := by rw [beq_iff_eq]; exact b32
            have b9 : ¬ (x.toNat : Int) = 9 := by omega
            have HT : Hid (CodeMath.tokS x T = [x] ∧ CodeMath.tokK x T = 1) := Lib.hid (by
              unfold CodeMath.tokS CodeMath.tokK
              rw [HC.out]
              refine ⟨?_, rfl⟩
              simp only [Bool.false_eq_true, if_false]
              unfold CodeMath.tok CodeMath.raw CodeMath.isBl
              rw [HL.out]
              have e61 : x = 61 ↔ (x.toNat : Int) = 61 := u8i x 61
              have e32 : x = 32 ↔ (x.toNat : Int) = 32 := u8i x 32
              have e9 : x = 9 ↔ (x.toNat : Int) = 9 := u8i x 9
              simp [e61, e32, e9, b32, b9])
            have he32 : Utf8.encode 32 = ⟨#[32]⟩ := enc1 32 (by decide)
            have he9 : Utf8.encode 9 = ⟨#[9]⟩ := enc1 9 (by decide)
            have HK := Lib.hid k32
            go_enter Tryd.func20, Tryd.ntmps20
            go_wp2_with fail
            refine HP.out.mono ?_
            rintro e w0 ⟨rfl, hb0⟩
            have hp2 := HP2.out w0 hb0
            have HB0 := Lib.hid hb0
            have HPW := Lib.hid hp2
            clear hb0 hp2
            go_wp2_with fail
            refine HPW.out.mono ?_
            rintro e w1 ⟨rfl, hb⟩
            have HB : Hid (Below w.heap.size w w1) := Lib.hid (below_then HB0.out HB0.out.size hb)
            clear hb HPW
            go_wp2
            go_ret2
            exact ⟨tokv (by rw [HT.out.1]; exact enc2 HK.out (by first | exact he32 | exact he9)) (by rw [HT.out.2]; rfl), HB.out⟩
          · have k32 : ((x.toNat : Int) == 32) = false := by rw [beq_eq_false_iff_ne]; exact b32
            by_cases b9 : (x.toNat : Int) = 9
            · have k9 : ((x.toNat : Int) == 9) = true := by rw [beq_iff_eq]; exact b9
              have HT : Hid (CodeMath.tokS x T = [x] ∧ CodeMath.tokK x T = 1) := Lib.hid (by
                unfold CodeMath.tokS CodeMath.tokK
                rw [HC.out]
                refine ⟨?_, rfl⟩
                simp only [Bool.false_eq_true, if_false]
                unfold CodeMath.tok CodeMath.raw CodeMath.isBl
                rw [HL.out]
                have e61 : x = 61 ↔ (x.toNat : Int) = 61 := u8i x 61
                have e32 : x = 32 ↔ (x.toNat : Int) = 32 := u8i x 32
                have e9 : x = 9 ↔ (x.toNat : Int) = 9 := u8i x 9
                simp [e61, e32, e9, b32, b9])
              have he32 : Utf8.encode 32 = ⟨#[32]⟩ := enc1 32 (by decide)
              have he9 : Utf8.encode 9 = ⟨#[9]⟩ := enc1 9 (by decide)
              have HK := Lib.hid k9
              go_enter Tryd.func20, Tryd.ntmps20
              go_wp2_with fail
              refine HP.out.mono ?_
              rintro e w0 ⟨rfl, hb0⟩
              have hp2 := HP2.out w0 hb0
              have HB0 := Lib.hid hb0
              have HPW := Lib.hid hp2
              clear hb0 hp2
              go_wp2_with fail
              refine HPW.out.mono ?_
              rintro e w1 ⟨rfl, hb⟩
              have HB : Hid (Below w.heap.size w w1) := Lib.hid (below_then HB0.out HB0.out.size hb)
              clear hb HPW
              go_wp2
              go_ret2
              exact ⟨tokv (by rw [HT.out.1]; exact enc2 HK.out (by first | exact he32 | exact he9)) (by rw [HT.out.2]; rfl), HB.out⟩
            · have k9 : ((x.toNat : Int) == 9) = false := by rw [beq_eq_false_iff_ne]; exact b9
              have HT : Hid (CodeMath.tokS x T = CodeMath.hexed x ∧ CodeMath.tokK x T = 1) := Lib.hid (by
                unfold CodeMath.tokS CodeMath.tokK
                rw [HC.out]
                refine ⟨?_, rfl⟩
                simp only [Bool.false_eq_true, if_false]
                unfold CodeMath.tok CodeMath.raw CodeMath.isBl
                rw [HL.out]
                have e61 : x = 61 ↔ (x.toNat : Int) = 61 := u8i x 61
                have e32 : x = 32 ↔ (x.toNat : Int) = 32 := u8i x 32
                have e9 : x = 9 ↔ (x.toNat : Int) = 9 := u8i x 9
                simp [e61, e32, e9, b32, b9]; omega)
              go_enter Tryd.func20, Tryd.ntmps20
              go_wp2_with fail
              refine HP.out.mono ?_
              rintro e w0 ⟨rfl, hb0⟩
              have hp2 := HP2.out w0 hb0
              have HB0 := Lib.hid hb0
              have HPW := Lib.hid hp2
              clear hb0 hp2
              go_wp2_with fail
              refine HPW.out.mono ?_
              rintro e w1 ⟨rfl, hb⟩
              have HB : Hid (Below w.heap.size w w1) := Lib.hid (below_then HB0.out HB0.out.size hb)
              clear hb HPW
              go_wp2_with fail
              refine Stu.wp_region_stu _ (Stu.mkT [(6, clitS w1.heap.size 2 5 #[.int .u8 (CodeMath.hexN (x.toNat / 16)).toNat, .int .u8 (CodeMath.hexN (x.toNat % 16)).toNat]), (7, cvaS (.string ⟨#[CodeMath.hexN (x.toNat / 16), CodeMath.hexN (x.toNat % 16)]⟩))]) (fun _ => True) [] CB.refl (fun _ _ _ => CB.trans) (fun _ _ h => h) (fun _ _ _ _ => trivial) trivial (Stu.mkT_ks _ (by show List.Nodup [6, 7]; decide) _ rfl) (by kernel_rfl) (by kernel_rfl) (by kernel_rfl) ?_
              repeat (refine Stu.wpR_plain ?_ (by rfl) (by rfl) (fun K hK => ?_); (focus (first | (simp only [Region.wanted]; done) | (go_simp; done))); apply Exists.intro; refine ⟨fun W hW => ?_, ?_⟩; (go_simp; (try simp only [Stu.plainUpon_value, true_and]); rfl); go_simp; refine hK _ ?_; clear hK K)
              (refine Stu.wpR_spg (by rfl) (by rfl) ?_ ?_ (fun W hW hF => ?_) (fun K v hv hK => ?_); (focus (first | (simp only [Region.wanted]; done) | (go_simp; done))); (focus (exact ⟨_, 0, rfl⟩)); (go_simp; exact clit_rel hW.size _); (obtain ⟨g5, rfl⟩ := hv); go_simp; refine hK _ ?_; clear hK K)
              (refine Stu.wpR_spg (by rfl) (by rfl) ?_ ?_ (fun W hW hF => ?_) (fun K v hv hK => ?_); (focus (first | (simp only [Region.wanted]; done) | (go_simp; done))); (focus (exact ⟨_, rfl⟩)); (exact cstr_rel rfl rfl (lit_sl (hF 6 rfl)) rfl _); (cases hv); go_simp; refine hK _ ?_; clear hK K)
              repeat (refine Stu.wpR_plain ?_ (by rfl) (by rfl) (fun K hK => ?_); (focus (first | (simp only [Region.wanted]; done) | (go_simp; done))); apply Exists.intro; refine ⟨fun W hW => ?_, ?_⟩; (go_simp; (try simp only [Stu.plainUpon_value, true_and]); rfl); go_simp; refine hK _ ?_; clear hK K)
              refine Stu.wpR_nil (fun W hW hU hF => ?_)
              have HBF : Hid (Below w.heap.size w W) := Lib.hid (below_then HB.out HB.out.size ((Below.drew (Below.refl _ w1)).trans hW))
              clear hF hW hU HB
              go_wp2
              go_ret2
              exact ⟨tokv (by rw [HT.out.1]; exact hexv x _ rfl) (by rw [HT.out.2]; rfl), HBF.out⟩
end Go.Proofs.YtgaccogekmaijaaDoor
