/- The reader: take, number. -/
import Derived.Test.YtgaccogekmaijaaKvBytes
namespace KvMath
def takeL (bs : List UInt8) (n : Nat) : List UInt8 := if bs.length < n then [] else bs.take n
def restL (bs : List UInt8) (n : Nat) : List UInt8 := if bs.length < n then [] else bs.drop n
def rd (l : List UInt8) : Nat := l.foldl (fun n c => n * 256 + c.toNat) 0
theorem rd_snoc (l : List UInt8) (c : UInt8) : rd (l ++ [c]) = rd l * 256 + c.toNat := by simp [rd]
theorem rd_lt (l : List UInt8) : rd l < 256 ^ l.length := by
  have h : ∀ m : List UInt8, rd m.reverse < 256 ^ m.length := by
    intro m
    induction m with
    | nil => simp [rd]
    | cons c m ih =>
      rw [List.reverse_cons, rd_snoc, List.length_cons, Nat.pow_succ]
      have := c.toNat_lt
      omega
  have := h l.reverse
  rwa [List.reverse_reverse, List.length_reverse] at this
theorem rd_lt4 (l : List UInt8) (h : l.length ≤ 4) : rd l < 4294967296 := by
  have h1 := rd_lt l
  have h2 : (256 : Nat) ^ l.length ≤ 256 ^ 4 := Nat.pow_le_pow_right (by decide) h
  have h3 : (256 : Nat) ^ 4 = 4294967296 := by decide
  omega
theorem takeL_len (bs : List UInt8) (n : Nat) : (takeL bs n).length ≤ n := by
  unfold takeL
  split
  · simp
  · rw [List.length_take]; omega
end KvMath
namespace Go.Proofs.Ytgaccogekmaijaa
open Go.RowKit
set_option linter.unusedVariables false
set_option linter.unusedSimpArgs false
/-- a reader at r: what is left, whether it is bad -/
def RdS (w0 w : World) (r : Nat) (bs : List UInt8) (bad : Bool) : Prop := ∃ A c, w.heap[r]? = some (.cells #[.slice A bs.length c, .bool bad] 75) ∧ bs.length ≤ c ∧ Chg (· = r) w0 w ∧ ∀ W, Chg (· = r) w0 W → Rd W A bs
theorem RdS.chg {w0 w w1 : World} {r : Nat} {bs : List UInt8} {bad : Bool} (h : RdS w0 w r bs bad) (hb : Below w.heap.size w w1) : RdS w0 w1 r bs bad := by
  obtain ⟨A, c, h1, h2, h4, h3⟩ := h
  exact ⟨A, c, (hb.block r (Array.getElem?_eq_some_iff.1 h1).1).trans h1, h2, h4.trans (Chg.of_below hb), h3⟩
/-- blocks that are new since w0 turn -/
theorem RdS.other {w0 w w1 : World} {r b : Nat} {bs : List UInt8} {bad : Bool} (h : RdS w0 w r bs bad) (hb : Chg (· = b) w w1) (h0 : w0.heap.size ≤ b) (hr : r ≠ b) : RdS w0 w1 r bs bad := by
  obtain ⟨A, c, h1, h2, h4, h3⟩ := h
  exact ⟨A, c, hb.heap h1 hr, h2, ⟨hb.os.trans h4.os, hb.tape.trans h4.tape, hb.output.trans h4.output, Nat.le_trans h4.size hb.size, fun k hk hn => (hb.block k (Nat.lt_of_lt_of_le hk h4.size) (fun e => by have e : k = b := e; omega)).trans (h4.block k hk hn)⟩, h3⟩
theorem RdS.setbad {w0 w : World} {r : Nat} {bs : List UInt8} {bad : Bool} (h : RdS w0 w r bs bad) (b : Bool) : RdS w0 (w.setCell ⟨r, 1, none⟩ (.bool b)) r bs b := by
  obtain ⟨A, c, h1, h2, h4, h3⟩ := h
  exact ⟨A, c, heap_setCell_same w r 1 _ _ (.bool b) h1, h2, h4.trans (Chg.setCell w r 1 _), h3⟩
theorem RdS.ch {w0 w : World} {r : Nat} {bs : List UInt8} {bad : Bool} (h : RdS w0 w r bs bad) : Chg (· = r) w0 w := by obtain ⟨A, c, h1, h2, h4, h3⟩ := h; exact h4
theorem RdS.cells {w0 w : World} {r : Nat} {bs : List UInt8} {bad : Bool} (h : RdS w0 w r bs bad) : r < w.heap.size ∧ (∃ A c, w.cell? ⟨r, 0, none⟩ = some (.slice A bs.length c) ∧ bs.length ≤ c) ∧ w.cell? ⟨r, 1, none⟩ = some (.bool bad) ∧ ∀ i, w.frozen? ⟨r, i, none⟩ = false := by
  obtain ⟨A, c, h1, h2, h4, h3⟩ := h
  exact ⟨(Array.getElem?_eq_some_iff.1 h1).1, ⟨A, c, by rw [cell_of_row _ r 0 _ _ _ h1]; rfl, h2⟩, by rw [cell_of_row _ r 1 _ _ _ h1]; rfl, fun i => frozen_of_row _ r i _ _ h1⟩
theorem Rd.take {w : World} {A : Option Addr} {l : List UInt8} (h : Rd w A l) (k : Nat) : Rd w A (l.take k) :=
  ⟨by have := h.1; rw [List.length_take]; omega, fun hp => by
    rw [List.length_take] at hp
    obtain ⟨a, e, hc⟩ := h.2 (by omega)
    refine ⟨a, e, fun j hj => ?_⟩
    rw [List.length_take] at hj
    rw [List.getElem_take]
    exact hc j (by omega)⟩
theorem Rd.drop {w : World} {A : Option Addr} {l : List UInt8} (h : Rd w A l) (k : Nat) : Rd w (A.map (·.add k)) (l.drop k) :=
  ⟨by have := h.1; rw [List.length_drop]; omega, fun hp => by
    rw [List.length_drop] at hp
    obtain ⟨a, e, hc⟩ := h.2 (by omega)
    subst e
    refine ⟨a.add k, rfl, fun j hj => ?_⟩
    rw [List.length_drop] at hj
    rw [List.getElem_drop, Go.Deep.add_add]
    exact hc _ (by omega)⟩
theorem Rd.none' {w : World} {A : Option Addr} : Rd w A [] := ⟨by simp, fun h => by simp at h⟩
set_option maxRecDepth 20000 in
theorem rd_take (w0 w : World) (r : Nat) (bs : List UInt8) (bad : Bool) (h : RdS w0 w r bs bad) (n : Nat) (hn : n ≤ 4294967296) (hl : bs.length ≤ 140737488351232) :
    Calls Try.prog 46 #[.pointer (some ⟨r, 0, none⟩), .int .i64 n] w fun e w' => ∃ A c, e = .returned (.slice A (KvMath.takeL bs n).length c) ∧ (KvMath.takeL bs n).length ≤ c ∧ (∀ W, Chg (· = r) w0 W → Rd W A (KvMath.takeL bs n)) ∧ RdS w0 w' r (KvMath.restL bs n) (bad || decide (bs.length < n)) ∧ Chg (· = r) w w' := by
  obtain ⟨A, c, h1, h2, h4, h3⟩ := h
  have HC0 := Lib.hid h4
  clear h4
  have c0 : w.cell? ⟨r, 0, none⟩ = some (.slice A bs.length c) := by rw [cell_of_row _ r 0 _ _ _ h1]; rfl
  have c1 : w.cell? ⟨r, 1, none⟩ = some (.bool bad) := by rw [cell_of_row _ r 1 _ _ _ h1]; rfl
  have f0 : ∀ i, w.frozen? ⟨r, i, none⟩ = false := fun i => frozen_of_row _ r i _ _ h1
  have f00 := f0 0; have f01 := f0 1
  obtain ⟨m, hm⟩ : ∃ m, m = bs.length := ⟨_, rfl⟩
  rw [← hm] at c0 h2 hl
  have HM := Lib.hid hm; have H1 := Lib.hid h1; have H3 := Lib.hid h3
  clear h1 h3 f0 hm
  by_cases hlt : m < n
  · have hlti : (m : Int) < n := by omega
    have ht : KvMath.takeL bs n = [] := by unfold KvMath.takeL; rw [if_pos (by rw [← HM.out]; exact hlt)]
    have hr : KvMath.restL bs n = [] := by unfold KvMath.restL; rw [if_pos (by rw [← HM.out]; exact hlt)]
    have hd : decide (bs.length < n) = true := decide_eq_true (by rw [← HM.out]; exact hlt)
    rw [ht, hr, hd]
    clear ht hr hd
    go_enter Try.func46, Try.ntmps46
    go_wp2
    go_ret
    have x1 := heap_setCell_same w r 0 _ _ (.slice none 0 0) H1.out
    have x2 := heap_setCell_same _ r 1 _ _ (.bool true) x1
    refine ⟨_, _, rfl, Nat.le_refl _, fun W _ => Rd.none', ⟨none, 0, ?_, Nat.le_refl _, HC0.out.trans ((Chg.setCell _ _ _ _).trans (Chg.setCell _ _ _ _)), fun W _ => Rd.none'⟩, (Chg.setCell _ _ _ _).trans (Chg.setCell _ _ _ _)⟩
    rw [Bool.or_true]
    exact x2
  · have hlti : ¬ (m : Int) < n := by omega
    have ht : KvMath.takeL bs n = bs.take n := by unfold KvMath.takeL; rw [if_neg (by rw [← HM.out]; exact hlt)]
    have hr : KvMath.restL bs n = bs.drop n := by unfold KvMath.restL; rw [if_neg (by rw [← HM.out]; exact hlt)]
    have hd : decide (bs.length < n) = false := decide_eq_false (by rw [← HM.out]; exact hlt)
    have htl : (bs.take n).length = n := by rw [List.length_take, ← HM.out]; omega
    have hdl : (bs.drop n).length = m - n := by rw [List.length_drop, ← HM.out]
    rw [ht, hr, hd, Bool.or_false, htl]
    have HTL := Lib.hid htl; have HDL := Lib.hid hdl
    have hnc : n ≤ c := by omega
    have hmn : n ≤ m := by omega
    clear ht hr hd htl hdl
    by_cases hcn : c = n
    · subst hcn
      have hmc : m = c := by omega
      have HMC := Lib.hid hmc
      clear hmc
      go_enter Try.func46, Try.ntmps46
      go_wp2
      go_ret
      have hz : (bs.drop c).length = 0 := by rw [HDL.out, HMC.out]; omega
      have x1 := heap_setCell_same w r 0 _ _ (.slice A 0 0) H1.out
      refine ⟨A, c, rfl, Nat.le_refl _, fun W hW => (H3.out W hW).take c, ⟨A, 0, ?_, ?_, HC0.out.trans (Chg.setCell _ _ _ _), fun W hW => ?_⟩, Chg.setCell _ _ _ _⟩
      · rw [hz]; exact x1
      · rw [hz]; exact Nat.le_refl _
      · have : bs.drop c = [] := List.eq_nil_of_length_eq_zero (by rw [HDL.out, HMC.out]; omega)
        rw [this]
        exact Rd.none'
    · go_enter Try.func46, Try.ntmps46
      go_wp2
      go_ret
      have x1 := heap_setCell_same w r 0 _ _ (.slice (A.map (·.add n)) (m - n) (c - n)) H1.out
      refine ⟨A, c, rfl, hnc, fun W hW => (H3.out W hW).take n, ⟨A.map (·.add n), c - n, ?_, ?_, HC0.out.trans (Chg.setCell _ _ _ _), fun W hW => ?_⟩, Chg.setCell _ _ _ _⟩
      · rw [HDL.out]; exact x1
      · rw [HDL.out]; omega
      · exact (H3.out W hW).drop n
end Go.Proofs.Ytgaccogekmaijaa
namespace Go.Proofs.Ytgaccogekmaijaa
open Go.RowKit
set_option linter.unusedVariables false
set_option linter.unusedSimpArgs false
theorem or_step (n : Nat) (b : UInt8) (h : n * 256 + b.toNat < 9223372036854775808) : bits .or .i64 ((n : Int) * 256) (b.toNat : Int) = ((n * 256 + b.toNat : Nat) : Int) := by
  have hb := b.toNat_lt
  rw [bits_join .i64 63 (by decide) (fun n h0 h1 => by rw [IntKind.wrap_i64]; omega) 8 _ _ (by omega) (by omega) (by omega) (by omega) (by omega) (by omega)]
  simp
set_option maxRecDepth 20000 in
set_option maxHeartbeats 1000000 in
theorem rd_number (w0 w : World) (r : Nat) (bs : List UInt8) (bad : Bool) (h : RdS w0 w r bs bad) (size : Nat) (hs : size ≤ 4) (hl : bs.length ≤ 140737488351232) :
    Calls Try.prog 45 #[.pointer (some ⟨r, 0, none⟩), .int .i64 size] w fun e w' => e = .returned (.int .i64 (KvMath.rd (KvMath.takeL bs size))) ∧ RdS w0 w' r (KvMath.restL bs size) (bad || decide (bs.length < size)) ∧ Chg (· = r) w w' := by
  have hcon := Lib.hid (rd_take w0 w r bs bad h size (by omega) hl)
  have hml := KvMath.takeL_len bs size
  clear h
  generalize KvMath.takeL bs size = l at *
  generalize KvMath.restL bs size = rest at *
  generalize (bad || decide (bs.length < size)) = bad2 at *
  go_enter Try.func45, Try.ntmps45
  go_wp2_with fail
  refine hcon.out.mono ?_
  rintro e w1 ⟨A, c, rfl, hc, hrd, hrs, hch⟩
  obtain ⟨n, hnn⟩ : ∃ n, n = l.length := ⟨_, rfl⟩
  rw [← hnn] at hc hml ⊢
  have hr := hrd w1 hrs.ch
  have HN := Lib.hid hnn; have HRS := Lib.hid hrs; have HCh := Lib.hid hch
  clear hnn hrd hrs hch hcon
  go_wp2
  go_loopw [5, 12] (fun x i wr => ∃ k : Nat, k ≤ n ∧ i = .int .i64 k ∧ x = .int .i64 (KvMath.rd (l.take k)) ∧ wr = w1) (fun _ i _ => n - (intOf i).toNat)
  case atStart => exact ⟨0, by omega, rfl, rfl, rfl⟩
  case round =>
    obtain ⟨k, hk, rfl, rfl, rfl⟩ := hrel
    by_cases hlt : k < n
    · obtain ⟨a, rfl, hcell⟩ := hr.at_ k (by rw [← HN.out]; exact hlt)
      obtain ⟨b, hb⟩ : ∃ b, b = l[k]'(by rw [← HN.out]; exact hlt) := ⟨_, rfl⟩
      rw [← hb] at hcell
      have h2 : KvMath.rd (l.take (k + 1)) = KvMath.rd (l.take k) * 256 + b.toNat := by
        rw [take_succ_at l k (by rw [← HN.out]; exact hlt), KvMath.rd_snoc, hb]
      have h3 : KvMath.rd (l.take k) * 256 + b.toNat < 4294967296 := by
        rw [← h2]; exact KvMath.rd_lt4 _ (by rw [List.length_take, ← HN.out]; omega)
      generalize KvMath.rd (l.take k) = X at h2 h3 ⊢
      have HB := Lib.hid hb; clear hb
      have H2 := Lib.hid h2; clear h2
      have hb8 : b.toNat < 256 := b.toNat_lt
      have hws : IntKind.i64.wrap ((X : Int) * 256) = (X : Int) * 256 := by rw [IntKind.wrap_i64]; omega
      have hwk : IntKind.i64.wrap ((k : Int) + 1) = ((k + 1 : Nat) : Int) := by rw [IntKind.wrap_i64]; omega
      go_wp2
      go_roundw
      case rel => exact ⟨k + 1, by omega, by go_num, by rw [H2.out]; exact val_int (or_step X b (by omega)), by first | rfl | trivial⟩
      case measure => simp [intOf]; omega
    · have e : l.take k = l := List.take_of_length_le (by rw [← HN.out]; omega)
      rw [e]
      go_wp2
      go_ret
      exact ⟨rfl, HRS.out, HCh.out⟩
end Go.Proofs.Ytgaccogekmaijaa
