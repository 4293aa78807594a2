/- wal: the header. -/
import Derived.Test.YtbpecfbliglboaaWNu2
import Derived.Test.YtbpecfbliglboaaWZero
namespace WalMath
def hxs (r b e c : Nat) : List Nat := [r, b, e, c, 0]
def hpre (r b e c k : Nat) : List UInt8 := magic ++ ((hxs r b e c).take k).flatMap (RecMath.be 4)
theorem hpre_len (r b e c k : Nat) (hk : k ≤ 5) : (hpre r b e c k).length = 4 + 4 * k := by
  have : ∀ l : List Nat, (l.flatMap (RecMath.be 4)).length = 4 * l.length := by
    intro l
    induction l with
    | nil => rfl
    | cons x l ih => rw [List.flatMap_cons, List.length_append, RecMath.be_length, ih, List.length_cons]; omega
  unfold hpre
  rw [List.length_append, this, List.length_take]
  show 4 + 4 * min k 5 = _
  omega
theorem hpre_succ (r b e c k : Nat) (hk : k < 5) : hpre r b e c (k + 1) = hpre r b e c k ++ RecMath.be 4 ((hxs r b e c).getD k 0) := by
  have hl : k < (hxs r b e c).length := hk
  unfold hpre
  rw [List.take_add_one, List.getElem?_eq_getElem hl, List.flatMap_append, ← List.append_assoc, List.getD_eq_getElem?_getD, List.getElem?_eq_getElem hl]
  simp
theorem hpre_five (r b e c : Nat) : hpre r b e c 5 = head24 r b e c := by
  simp [hpre, hxs, head24, List.append_assoc]
theorem header_eq (r b e c : Nat) : header r b e c = head24 r b e c ++ RecMath.be 4 (crc (head24 r b e c)) ++ List.replicate 484 0 := rfl
end WalMath
namespace Go.Proofs.Ytbpecfbliglboaa
open Go.RowKit
set_option linter.unusedVariables false
set_option linter.unusedSimpArgs false
set_option maxRecDepth 20000 in
set_option maxHeartbeats 4000000 in
theorem header_any (w : World) (r b e c : Nat) (hr : r ≤ 4294967295) (hb : b ≤ 4294967295) (he : e ≤ 4294967295) (hc : c ≤ 4294967295) :
    Calls Try.prog 70 #[.int .i64 r, .int .i64 b, .int .i64 e, .int .i64 c] w fun x w' => ∃ v, x = .returned v ∧ Ob w' w.heap.size 5 v (WalMath.header r b e c) ∧ Below w.heap.size w w' := by
  obtain ⟨W1, hW1⟩ : ∃ W1, W1 = w.alloc (.cells #[.int .u8 70, .int .u8 82, .int .u8 75, .int .u8 49] 5 (4, 5)) := ⟨_, rfl⟩
  obtain ⟨W2, hW2⟩ : ∃ W2, W2 = W1.alloc (.cells #[.int .i64 r, .int .i64 b, .int .i64 e, .int .i64 c, .int .i64 0] 3) := ⟨_, rfl⟩
  have h1s : W1.heap.size = w.heap.size + 1 := by rw [hW1]; exact Array.size_push _
  have hb1 : Below w.heap.size w W1 := by rw [hW1]; exact (Below.refl _ w).alloc (Nat.le_refl _) _
  have hb2 : Below w.heap.size w W2 := by rw [hW2]; exact hb1.alloc (by omega) _
  have hrow : W2.heap[w.heap.size + 1]? = some (.cells #[.int .i64 r, .int .i64 b, .int .i64 e, .int .i64 c, .int .i64 0] 3 (0, 0)) := by rw [hW2]; exact heap_new _ _ _ h1s.symm
  have hob : Ab W2 w.heap.size (.slice (some ⟨w.heap.size, 0, none⟩) 4 4) WalMath.magic := by
    have h0 : W2.heap[w.heap.size]? = some (.cells (bv WalMath.magic) 5 (4, 5)) := by rw [hW2]; exact heap_old (by rw [hW1]; exact heap_new w _ _ rfl)
    exact .inr ⟨_, rfl, Rd.of_block h0 (by decide)⟩
  have HW2 := Lib.hid (show W2 = (w.alloc (.cells #[.int .u8 70, .int .u8 82, .int .u8 75, .int .u8 49] 5 (4, 5))).alloc (.cells #[.int .i64 r, .int .i64 b, .int .i64 e, .int .i64 c, .int .i64 0] 3) from by rw [hW2, hW1])
  have kc := conv_const Try.underlying33 Try.underlying5
  have HROW := Lib.hid hrow; have HOB := Lib.hid hob; have HB2 := Lib.hid hb2
  clear hW1 hW2 h1s hb1 hb2 hrow hob
  go_enter Try.func70, Try.ntmps70
  go_wp2_with fail
  rw [← HW2.out]
  go_loopw [9, 20] (fun vb vi wr => ∃ k : Nat, k ≤ 5 ∧ vi = .int .i64 k ∧ Ab wr w.heap.size vb (WalMath.hpre r b e c k) ∧ (k = 5 → Ob wr w.heap.size 5 vb (WalMath.hpre r b e c k)) ∧ wr.heap[w.heap.size + 1]? = some (.cells #[.int .i64 r, .int .i64 b, .int .i64 e, .int .i64 c, .int .i64 0] 3 (0, 0)) ∧ Below w.heap.size w wr) (fun _ vi _ => 5 - (intOf vi).toNat)
  case atStart => exact ⟨0, by omega, rfl, HOB.out, fun h => by omega, HROW.out, HB2.out⟩
  case round =>
    obtain ⟨k, hk, rfl, ho, hob, hrow, hB⟩ := hrel
    by_cases hlt : k < 5
    · obtain ⟨y, hy⟩ : ∃ y, y = (WalMath.hxs r b e c).getD k 0 := ⟨_, rfl⟩
      have hcell : wr.cell? ⟨w.heap.size + 1, k, none⟩ = some (.int .i64 y) := by
        rw [cell_of_row _ _ k _ _ _ hrow, hy]
        match k, hlt with
        | 0, _ => rfl
        | 1, _ => rfl
        | 2, _ => rfl
        | 3, _ => rfl
        | 4, _ => rfl
      have hy4 : y ≤ 4294967295 := by
        rw [hy]
        match k, hlt with
        | 0, _ => exact hr
        | 1, _ => exact hb
        | 2, _ => exact he
        | 3, _ => exact hc
        | 4, _ => exact Nat.zero_le _
      have hln := WalMath.hpre_len r b e c k hk
      obtain ⟨A, c0, rfl, hc0⟩ := ho.shp
      have hcall := wnumber_any w.heap.size wr _ (WalMath.hpre r b e c k) y (WalMath.hpre r b e c k).length c0 A rfl rfl hy4 ho (by omega) hB.size (by omega)
      rw [hy, ← WalMath.hpre_succ r b e c k hlt, ← hy] at hcall
      rw [hln] at hcall ⊢
      have HC := Lib.hid hcall; have HR := Lib.hid hrow; have HB := Lib.hid hB
      have hk5 : (k : Int) < 5 := by omega
      clear hcall hrow hB ho hob hy hln hc0
      go_wp2_with fail
      refine HC.out.mono ?_
      rintro x w1 ⟨v', rfl, ho1, ht1⟩
      have HO1 := Lib.hid ho1; have HT1 := Lib.hid ht1
      clear ho1 ht1
      go_wp2
      go_roundw
      case rel => exact ⟨k + 1, by omega, by go_num, (.inl HO1.out), fun _ => HO1.out, HT1.out.2 _ _ _ _ (.inl (by decide)) HR.out, HB.out.trans HT1.out.1⟩
      case measure => simp [intOf]; omega
    · have hk5 : ¬ (k : Int) < 5 := by omega
      obtain rfl : k = 5 := by omega
      have ho := hob rfl
      rw [WalMath.hpre_five] at ho
      have hln := WalMath.head24_len r b e c
      obtain ⟨A, c0, rfl, hc0, hrd⟩ := ho.rd
      rw [hln] at hc0 ⊢
      obtain ⟨H, hH⟩ : ∃ H, H = WalMath.head24 r b e c := ⟨_, rfl⟩
      rw [← hH] at ho hrd hln
      rw [hln] at ho
      obtain ⟨W3, hW3⟩ : ∃ W3, W3 = wr.alloc (.cells #[.slice A 24 c0] 33) := ⟨_, rfl⟩
      have hb3 : Below wr.heap.size wr W3 := by rw [hW3]; exact (Below.refl _ wr).alloc (Nat.le_refl _) _
      have hrl : Rdl W3 (some ⟨wr.heap.size, 0, none⟩) [H] := Rdl.of_block (t := 33) (fr := (0, 0)) (vs := [.slice A 24 c0]) (by rw [hW3]; exact heap_new wr _ _ rfl) (by simp) ⟨⟨A, c0, by rw [hln], by omega, hrd.below hb3⟩, trivial⟩
      have hof := crcof_any W3 (some ⟨wr.heap.size, 0, none⟩) 1 [H] hrl
      have hcv : (CrcMath.of [H]).toNat = WalMath.crc H := by rw [CrcMath.of_eq]; simp [WalMath.crc]
      rw [hcv] at hof
      have hcl : WalMath.crc H ≤ 4294967295 := by
        have := WalMath.crc_lt H
        have h2 : (256 : Nat) ^ 4 = 4294967296 := by decide
        omega
      have hcl2 : ((WalMath.crc H : Nat) : Int) ≤ 4294967295 := by omega
      have hwc : IntKind.i64.wrap ((WalMath.crc H : Nat) : Int) = (WalMath.crc H : Nat) := by rw [IntKind.wrap_i64]; omega
      have HF : Hid (WalMath.header r b e c = H ++ RecMath.be 4 (WalMath.crc H) ++ List.replicate 484 0) := by rw [hH]; exact Lib.hid (WalMath.header_eq r b e c)
      generalize hcr : WalMath.crc H = cr at *
      have HCR := Lib.hid hcr; have HW3 := Lib.hid hW3; have HOF := Lib.hid hof; have HO := Lib.hid (ho.below hb3); have HB := Lib.hid (hB.trans (hb3.mono hB.size)); have HLN := Lib.hid hln
      clear hcr hW3 hof ho hB hln hH hrl hb3 hrd hcv hrow
      go_wp2_with fail
      rw [← HW3.out]
      refine HOF.out.mono ?_
      rintro x w1 ⟨rfl, hb1⟩
      have hB1 := HB.out.trans (hb1.mono HB.out.size)
      have hcall := wnumber_any w.heap.size w1 _ H cr 24 c0 A rfl HLN.out.symm hcl (.inl (HO.out.below hb1)) (by omega) hB1.size (by rw [HLN.out]; omega)
      have HC := Lib.hid hcall; have HB1 := Lib.hid hB1
      clear hcall hB1 hb1
      go_wp2_with fail
      refine HC.out.mono ?_
      rintro x w2 ⟨v', rfl, ho2, ht2⟩
      obtain ⟨A2, c2, rfl, hc2, _⟩ := ho2.rd
      have hl2 : (H ++ RecMath.be 4 cr).length = 28 := by rw [List.length_append, HLN.out, RecMath.be_length]
      have hB2 := HB1.out.trans ht2.1
      obtain ⟨v3, w3, hrun, ho3, hb3⟩ := appz_run (k := 484) ho2 (by omega) (by omega) hB2.size (by omega)
      rw [hl2] at hrun ⊢
      have HRUN := Lib.hid hrun; have HO3 := Lib.hid ho3; have HB3 := Lib.hid (hB2.trans hb3)
      obtain ⟨A3, c3, rfl, hc3, _⟩ := ho3.rd
      have hl3 : (H ++ RecMath.be 4 cr ++ List.replicate 484 (0 : UInt8)).length = 512 := by rw [List.length_append, hl2]; simp
      rw [hl3] at HRUN HO3
      clear hrun ho3 hb3 hB2 ho2 ht2 hl2 hl3 hc3 hc2
      go_wp2_with (at_builtin; refine Lib.wpList_append_run _ rfl _ _ _ _ rfl _ _ rfl rfl _ _ HRUN.out ?_)
      go_ret
      exact ⟨_, rfl, by rw [HF.out]; exact HO3.out, HB3.out⟩
end Go.Proofs.Ytbpecfbliglboaa
