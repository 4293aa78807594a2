/- The walks of the checksum's functions: each returns what CrcMath says. -/
import Derived.Test.YtbpecfbliglboaaProg
import Derived.Test.YtbpecfbliglboaaFw
import Derived.Test.YtbpecfbliglboaaRel
import Derived.Test.YtbpecfbliglboaaCrash
import Derived.Deep.Slices
import Derived.OpenShut
import Derived.Test.YtbpecfbliglboaaCrcMath
import Derived.Deep.WholeRow
import Derived.Deep.MidRow
namespace Go.Proofs.Ytbpecfbliglboaa
set_option linter.unusedVariables false
set_option linter.unusedSimpArgs false
open Go.RowKit

theorem xor32 (x y : CrcMath.W) : bits .xor .u32 (x.toNat : Int) (y.toNat : Int) = ((x ^^^ y).toNat : Int) := by
  simp only [bits, BitVec.ofInt_natCast]
  rw [IntKind.wrap_u32]
  have h : (BitVec.ofNat IntKind.u32.bits x.toNat ^^^ BitVec.ofNat IntKind.u32.bits y.toNat).toNat = (x ^^^ y).toNat := by
    rw [BitVec.toNat_xor, BitVec.toNat_xor, BitVec.toNat_ofNat, BitVec.toNat_ofNat]
    have := x.isLt
    have := y.isLt
    rw [Nat.mod_eq_of_lt (by simpa [IntKind.bits] using x.isLt), Nat.mod_eq_of_lt (by simpa [IntKind.bits] using y.isLt)]
  rw [h]
  have := (x ^^^ y).isLt
  omega
theorem not32 (x : CrcMath.W) : bits .xor .u32 IntKind.u32.max (x.toNat : Int) = ((~~~ x).toNat : Int) := by
  have h : IntKind.u32.max = (((BitVec.allOnes 32 : CrcMath.W).toNat : Nat) : Int) := by decide
  rw [h, xor32, BitVec.allOnes_xor]
theorem byte32 (b : UInt8) : ((b.toNat : Int) % 4294967296) = (((BitVec.ofNat 32 b.toNat : CrcMath.W).toNat : Nat) : Int) := by
  have := b.toNat_lt
  rw [BitVec.toNat_ofNat]
  omega
theorem st_odd (x : CrcMath.W) (h : ((x.toNat : Int) % 2 == 1) = true) : bits .xor .u32 ((x.toNat : Int) / 2) 3988292384 = ((CrcMath.st x).toNat : Int) := by
  have h1 : x.toNat % 2 = 1 := by have := beq_iff_eq.1 h; omega
  have e : ((x.toNat : Int) / (2 : Int)) = (((x >>> 1 : CrcMath.W).toNat : Nat) : Int) := by
    rw [BitVec.toNat_ushiftRight, Nat.shiftRight_eq_div_pow]; omega
  rw [e, show (3988292384 : Int) = (CrcMath.poly.toNat : Int) by decide, xor32]
  unfold CrcMath.st
  rw [if_pos h1]
theorem st_even (x : CrcMath.W) (h : ((x.toNat : Int) % 2 == 1) = false) : ((x.toNat : Int) / (2 : Int)) = ((CrcMath.st x).toNat : Int) := by
  have h1 : ¬ x.toNat % 2 = 1 := by have := beq_eq_false_iff_ne.1 h; omega
  unfold CrcMath.st
  rw [if_neg h1, BitVec.toNat_ushiftRight, Nat.shiftRight_eq_div_pow]; omega
theorem and1 (x : CrcMath.W) : bits .and .u32 (x.toNat : Int) 1 = (x.toNat : Int) % 2 := by
  have := x.isLt
  exact bits_mask .u32 32 (by decide) (fun n h0 h1 => by rw [IntKind.wrap_u32]; omega) 1 (by decide) _ (by omega) (by omega)
theorem and15 (x : CrcMath.W) : bits .and .u32 (x.toNat : Int) 15 = (x.toNat : Int) % 16 := by
  have := x.isLt
  exact bits_mask .u32 32 (by decide) (fun n h0 h1 => by rw [IntKind.wrap_u32]; omega) 4 (by decide) _ (by omega) (by omega)
theorem st_odd' (x : CrcMath.W) (h : (bits .and .u32 (x.toNat : Int) 1 == 1) = true) : bits .xor .u32 ((x.toNat : Int) / 2) 3988292384 = ((CrcMath.st x).toNat : Int) := st_odd x (by rw [and1] at h; exact h)
theorem st_even' (x : CrcMath.W) (h : (bits .and .u32 (x.toNat : Int) 1 == 1) = false) : ((x.toNat : Int) / (2 : Int)) = ((CrcMath.st x).toNat : Int) := st_even x (by rw [and1] at h; exact h)
theorem sh4 (x : CrcMath.W) : ((x.toNat : Int) / (16 : Int)) = (((x >>> 4 : CrcMath.W).toNat : Nat) : Int) := by
  rw [BitVec.toNat_ushiftRight, Nat.shiftRight_eq_div_pow]; omega

/-! ### the document's reckoning -/
/-! ### the table -/
def tabCells (k : Nat) : Array Value := Array.ofFn (n := 16) fun i => if i.val < k then .int .u32 (CrcMath.tab i.val).toNat else .int .u32 0
theorem tabCells_size (k : Nat) : (tabCells k).size = 16 := by simp [tabCells]
theorem tabCells_at (k i : Nat) (h : i < 16) : (tabCells k)[i]? = some (if i < k then .int .u32 (CrcMath.tab i).toNat else .int .u32 0) := by
  rw [Array.getElem?_eq_getElem (by rw [tabCells_size]; exact h)]
  simp [tabCells]
theorem tabCells_set (k : Nat) : (tabCells k).setIfInBounds k (.int .u32 (CrcMath.tab k).toNat) = tabCells (k + 1) := by
  apply Array.ext_getElem?
  intro i
  rw [Array.getElem?_setIfInBounds, tabCells_size]
  by_cases hi : i < 16
  · rw [tabCells_at _ _ hi, tabCells_at _ _ hi]
    by_cases e : k = i
    · subst e
      simp [hi]
    · rw [if_neg e]
      have : (i < k) ↔ (i < k + 1) := by omega
      simp only [this]
  · have h1 : (tabCells k)[i]? = none := Array.getElem?_eq_none (by rw [tabCells_size]; omega)
    have h2 : (tabCells (k + 1))[i]? = none := Array.getElem?_eq_none (by rw [tabCells_size]; omega)
    rw [h1, h2]
    split
    · rw [if_neg (by omega)]
    · rfl
theorem tabCells_zero : tabCells 0 = #[.int .u32 0, .int .u32 0, .int .u32 0, .int .u32 0, .int .u32 0, .int .u32 0, .int .u32 0, .int .u32 0, .int .u32 0, .int .u32 0, .int .u32 0, .int .u32 0, .int .u32 0, .int .u32 0, .int .u32 0, .int .u32 0] := by
  apply Array.ext_getElem?
  intro i
  by_cases hi : i < 16
  · rw [tabCells_at _ _ hi]
    have : i = 0 ∨ i = 1 ∨ i = 2 ∨ i = 3 ∨ i = 4 ∨ i = 5 ∨ i = 6 ∨ i = 7 ∨ i = 8 ∨ i = 9 ∨ i = 10 ∨ i = 11 ∨ i = 12 ∨ i = 13 ∨ i = 14 ∨ i = 15 := by omega
    rcases this with rfl | rfl | rfl | rfl | rfl | rfl | rfl | rfl | rfl | rfl | rfl | rfl | rfl | rfl | rfl | rfl <;> rfl
  · rw [Array.getElem?_eq_none (by rw [tabCells_size]; omega), Array.getElem?_eq_none (by simp; omega)]
theorem tabCells_one (k : Nat) : (tabCells k).all (·.oneCell') = true := by
  apply Array.all_eq_true_iff_forall_mem.2
  intro x hx
  obtain ⟨i, hi, rfl⟩ := Array.mem_iff_getElem.1 hx
  have := tabCells_at k i (by rw [tabCells_size] at hi; exact hi)
  rw [Array.getElem?_eq_getElem hi] at this
  rw [Option.some.inj this]
  split <;> rfl
attribute [irreducible] tabCells

theorem below_setRow' {B g : Nat} {w0 w : World} (hb : Below B w0 w) (hBg : B ≤ g) (cs : Array Value) : Below B w0 (w.setRow g cs) :=
  hb.trans ⟨rfl, rfl, rfl, by simp, fun k hk => setRow_other w g k cs (by omega)⟩
theorem wpList_store_row' {P : Program} {ops : Array Oper} {rest : List Oper} {o : Oper} {a : Act} {w : World} {Q : Exit → Act → World → Prop} (hgd : o.guard = none) (ty : TypeId) (x y : Operand) (ho : o.op = .store ty x y)
    (g : Nat) (cells : Array Value) (hx : a.eval x = .pointer (some ⟨g, 0, none⟩)) (hy : a.eval y = .agg cells)
    (t : TypeId) (old : Array Value) (hg : w.heap[g]? = some (.cells old t (0, 0))) (hi : (P.info? ty).map (·.size) = some cells.size)
    (hold : old.size = cells.size) (h1 : cells.all (·.oneCell') = true)
    (h : wpList P ops Q rest (a.put o.dst undef) (w.setRow g cells)) : wpList P ops Q (o :: rest) a w :=
  wpList_plain hgd fun _ hK => wp_store_row ty x y ho g cells hx hy t old hg hi hold h1 (hK _ _ h)

theorem table_any (w : World) : Calls Try.prog 74 #[] w fun e w' => e = .returned (.agg (tabCells 16)) ∧ Below w.heap.size w w' := by
  go_enter Try.func74, Try.ntmps74
  go_wp2
  go_loopw [4] (fun i wr => ∃ k : Nat, k ≤ 16 ∧ i = .int .i64 k ∧ wr.heap[w.heap.size + 1]? = some (.cells (tabCells k) 116 (0, 0)) ∧ wr.heap[w.heap.size]? = some (.cells (tabCells 0) 116 (0, 0)) ∧ Below w.heap.size w wr) (fun i _ => 16 - (intOf i).toNat)
  case atStart =>
    refine ⟨0, by omega, rfl, ?_, ?_, ?_⟩
    · rw [tabCells_zero]; exact heap_alloc2_new _ _ _
    · rw [tabCells_zero]; exact heap_alloc2_old _ _ _
    · exact ((Below.refl _ w).alloc (Nat.le_refl _) _).alloc (by simp) _
  case round =>
    obtain ⟨k, hk, rfl, h1, h0, hB⟩ := hrel
    by_cases hlt : k < 16
    · have hcell : wr.cell? ⟨w.heap.size + 1, k, none⟩ = some (if k < k then .int .u32 (CrcMath.tab k).toNat else .int .u32 0) := by
        rw [cell_of_row wr _ k _ _ _ h1]; exact tabCells_at k k hlt
      rw [if_neg (by omega)] at hcell
      have hfz := frozen_of_row wr _ k _ _ h1
      have H1 := Lib.hid h1; clear h1
      have H0 := Lib.hid h0; clear h0
      have HB := Lib.hid hB; clear hB
      go_wp2
      go_loop [3, 9] (fun x i => ∃ j : Nat, j ≤ 4 ∧ i = .int .i64 j ∧ x = .int .u32 (CrcMath.sts j (BitVec.ofNat 32 k)).toNat) (fun _ i => 4 - (intOf i).toNat)
      case atStart => exact ⟨0, by omega, rfl, val_int (by show _ = (((BitVec.ofNat 32 k : CrcMath.W).toNat : Nat) : Int); rw [BitVec.toNat_ofNat]; omega)⟩
      case round =>
        obtain ⟨j, hj, rfl, rfl⟩ := hrel
        generalize hZ : CrcMath.sts j (BitVec.ofNat 32 k) = Z
        have hZ2 := Z.isLt
        have HZ := Lib.hid hZ; clear hZ
        by_cases hj4 : j < 4
        · go_wp2
          · go_round
            case rel => exact ⟨j + 1, by omega, by go_num, by rw [CrcMath.sts_succ, HZ.out]; exact val_int (st_odd' Z (by assumption))⟩
            case measure => simp [intOf]; omega
          · go_round
            case rel => exact ⟨j + 1, by omega, by go_num, by rw [CrcMath.sts_succ, HZ.out]; exact val_int (st_even' Z (by assumption))⟩
            case measure => simp [intOf]; omega
        · go_wp2
          go_roundw
          case rel =>
            obtain rfl : j = 4 := by omega
            refine ⟨k + 1, by omega, by go_num, ?_, ?_, ?_⟩
            · rw [heap_setCell_same wr _ _ _ _ _ H1.out, ← HZ.out]
              show some (Obj.cells ((tabCells k).setIfInBounds k (.int .u32 (CrcMath.tab k).toNat)) _ _) = _
              rw [tabCells_set]
            · rw [heap_setCell_other wr _ _ _ (by simp)]; exact H0.out
            · exact HB.out.setCell (by simp) _
          case measure => simp [intOf]; omega
    · obtain rfl : k = 16 := by omega
      have H1 := Lib.hid h1; clear h1
      have H0 := Lib.hid h0; clear h0
      have HB := Lib.hid hB; clear hB
      go_wp2_with (first | (refine wpList_load_row rfl 116 _ rfl (w.heap.size + 1) rfl 116 (tabCells 16) (0, 0) _ H1.out Try.underlying116 rfl (by rw [tabCells_size]; kernel_rfl) ?_) | (refine wpList_store_row' rfl 116 _ _ rfl w.heap.size (tabCells 16) rfl rfl 116 (tabCells 0) H0.out (by rw [tabCells_size]; kernel_rfl) (by rw [tabCells_size, tabCells_size]) (tabCells_one 16) ?_))
      refine bodyPost_ret (v := .agg (tabCells 16)) ?_ rfl ⟨rfl, ?_⟩
      · exact results_cell_row rfl _ _ w.heap.size 116 (tabCells 16) (0, 0) _ rfl (setRow_heap wr _ _ _ _ _ H0.out) Try.underlying116 rfl (by rw [tabCells_size]; kernel_rfl)
      · exact below_setRow' HB.out (Nat.le_refl _) _

/-! ### a half byte at a time -/
theorem crcadd_any (s : CrcMath.W) (w : World) (A : Option Addr) (c : Nat) (l : List UInt8) (hr : Rd w A l) :
    Calls Try.prog 71 #[.int .u32 s.toNat, .slice A l.length c] w fun e w' => e = .returned (.int .u32 (CrcMath.add s l).toNat) ∧ Below w.heap.size w w' := by
  have hs := s.isLt
  have hn := hr.1
  obtain ⟨n, hnn⟩ : ∃ n, n = l.length := ⟨_, rfl⟩
  rw [← hnn] at hn ⊢
  have HN := Lib.hid hnn; clear hnn
  go_enter Try.func71, Try.ntmps71
  go_wp2_with fail
  refine (table_any _).mono ?_
  rintro e w1 ⟨rfl, hb1⟩
  go_wp2_with (refine wpList_store_row' rfl 116 _ _ rfl w1.heap.size (tabCells 16) rfl rfl 116 _ (heap_alloc_new w1 _) (by rw [tabCells_size]; kernel_rfl) (by rw [tabCells_size]; rfl) (tabCells_one 16) ?_)
  rw [World.setRow_alloc_new]
  have hb2 := hb1.alloc hb1.size (.cells (tabCells 16) 116)
  have hr2 := hr.below hb2
  have hc2 : ∀ i, i < 16 → (w1.alloc (.cells (tabCells 16) 116)).cell? ⟨w1.heap.size, i, none⟩ = some (.int .u32 (CrcMath.tab i).toNat) := by
    intro i hi
    rw [cell_of_row _ _ i _ _ _ (heap_alloc_new w1 _), tabCells_at _ _ hi, if_pos hi]
  generalize w1.alloc (.cells (tabCells 16) 116) = W at hb2 hr2 hc2 ⊢
  generalize w1.heap.size = g at hc2 ⊢
  have HC := Lib.hid hc2; clear hc2
  go_wp2
  go_loop [6, 14] (fun x i => ∃ k : Nat, k ≤ n ∧ i = .int .i64 k ∧ x = .int .u32 (CrcMath.run (~~~ s) (l.take k)).toNat) (fun _ i => n - (intOf i).toNat)
  case atStart => exact ⟨0, by omega, rfl, val_int (not32 s)⟩
  case round =>
    obtain ⟨k, hk, rfl, rfl⟩ := hrel
    by_cases hlt : k < n
    · obtain ⟨a, rfl, hcell⟩ := hr2.at_ k (by rw [← HN.out]; exact hlt)
      obtain ⟨b, hb⟩ : ∃ b, b = l[k]'(by rw [← HN.out]; exact hlt) := ⟨_, rfl⟩
      rw [← hb] at hcell
      have HB := Lib.hid hb; clear hb
      have hb8 : b.toNat < 256 := b.toNat_lt
      generalize hX : CrcMath.run (~~~ s) (l.take k) = X
      have hX2 := X.isLt
      have HX := Lib.hid hX; clear hX
      obtain ⟨Y, hY⟩ : ∃ Y, Y = X ^^^ BitVec.ofNat 32 b.toNat := ⟨_, rfl⟩
      have e1 : bits BinOp.xor IntKind.u32 ↑(BitVec.toNat X) ↑b.toNat = ↑(BitVec.toNat Y) := by
        rw [hY, ← xor32, ← byte32]; congr 1; omega
      obtain ⟨Z, hZ⟩ : ∃ Z, Z = CrcMath.sts 4 Y := ⟨_, rfl⟩
      have c1 := HC.out (Y.toNat % 16) (by omega)
      have c2 := HC.out (Z.toNat % 16) (by omega)
      obtain ⟨i1, hi1⟩ : ∃ i, i = Y.toNat % 16 := ⟨_, rfl⟩
      obtain ⟨i2, hi2⟩ : ∃ i, i = Z.toNat % 16 := ⟨_, rfl⟩
      rw [← hi1] at c1
      rw [← hi2] at c2
      have a1 : bits BinOp.and IntKind.u32 ↑(BitVec.toNat Y) 15 = ↑i1 := by rw [and15, hi1]; omega
      have a2 : bits BinOp.and IntKind.u32 ↑(BitVec.toNat Z) 15 = ↑i2 := by rw [and15, hi2]; omega
      have n1 : CrcMath.sts 4 Y = (Y >>> 4) ^^^ CrcMath.tab i1 := by rw [hi1]; exact CrcMath.nib Y
      have n2 : CrcMath.sts 4 Z = (Z >>> 4) ^^^ CrcMath.tab i2 := by rw [hi2]; exact CrcMath.nib Z
      generalize CrcMath.tab i1 = T1 at c1 n1
      generalize CrcMath.tab i2 = T2 at c2 n2
      have e2 : bits BinOp.xor IntKind.u32 (↑(BitVec.toNat Y) / 16) ↑(BitVec.toNat T1) = ↑(BitVec.toNat Z) := by rw [hZ, n1, ← xor32, ← sh4]
      obtain ⟨V, hV⟩ : ∃ V, V = CrcMath.sts 4 Z := ⟨_, rfl⟩
      have e3 : bits BinOp.xor IntKind.u32 (↑(BitVec.toNat Z) / 16) ↑(BitVec.toNat T2) = ↑(BitVec.toNat V) := by rw [hV, n2, ← xor32, ← sh4]
      have l1 : i1 < 16 := by omega
      have l2 : i2 < 16 := by omega
      have hYl := Y.isLt
      have hZl := Z.isLt
      have hfin : V = CrcMath.run (~~~ s) (l.take (k + 1)) := by
        rw [take_succ_at l k (by rw [← HN.out]; exact hlt), CrcMath.run_snoc, HX.out, ← HB.out]
        unfold CrcMath.by8
        rw [← hY, show (8 : Nat) = 4 + 4 by rfl, CrcMath.sts_add, ← hZ, hV]
      have HF := Lib.hid hfin
      clear hfin hY hZ hi1 hi2 n1 n2 hV
      go_wp2
      go_round
      case rel => exact ⟨k + 1, by omega, by go_num, by rw [← HF.out]⟩
      case measure => simp [intOf]; omega
    · go_wp2
      go_ret
      refine ⟨ret_int ?_, hb2⟩
      have e : l.take k = l := List.take_of_length_le (by rw [← HN.out]; omega)
      rw [e, not32]; rfl

theorem crcof_any (w : World) (A : Option Addr) (c : Nat) (ls : List (List UInt8)) (hr : Rdl w A ls) :
    Calls Try.prog 63 #[.slice A ls.length c] w fun e w' => e = .returned (.int .u32 (CrcMath.of ls).toNat) ∧ Below w.heap.size w w' := by
  have hn := hr.1
  obtain ⟨n, hnn⟩ : ∃ n, n = ls.length := ⟨_, rfl⟩
  rw [← hnn] at hn ⊢
  have HN := Lib.hid hnn; clear hnn
  go_enter Try.func63, Try.ntmps63
  go_wp2
  go_loopw [3, 8] (fun x i wr => ∃ k : Nat, k ≤ n ∧ i = .int .i64 k ∧ x = .int .u32 (CrcMath.of (ls.take k)).toNat ∧ Below w.heap.size w wr) (fun _ i _ => n - (intOf i).toNat)
  case atStart => exact ⟨0, by omega, rfl, rfl, Below.refl _ _⟩
  case round =>
    obtain ⟨k, hk, rfl, rfl, hB⟩ := hrel
    by_cases hlt : k < n
    · have hk' : k < ls.length := by rw [← HN.out]; exact hlt
      obtain ⟨a, A', c', rfl, hcell, hlc, hrd⟩ := (hr.below hB).at_ k hk'
      obtain ⟨l, hl⟩ : ∃ l, l = ls[k] := ⟨_, rfl⟩
      rw [← hl] at hcell hlc hrd
      generalize hX : CrcMath.of (ls.take k) = X
      have hX2 := X.isLt
      have HX := Lib.hid hX; clear hX
      have HB := Lib.hid hl; clear hl
      go_wp2_with fail
      refine (crcadd_any X _ A' c' l hrd).mono ?_
      rintro e w1 ⟨rfl, hb1⟩
      go_wp2
      go_roundw
      case rel =>
        refine ⟨k + 1, by omega, by go_num, ?_, below_add hB hb1⟩
        rw [take_succ_at ls k hk', ← HB.out]
        unfold CrcMath.of at *
        rw [List.foldl_append, HX.out]; rfl
      case measure => simp [intOf]; omega
    · go_wp2
      go_ret
      refine ⟨ret_int ?_, hB⟩
      have e : ls.take k = ls := List.take_of_length_le (by rw [← HN.out]; omega)
      rw [e]
theorem crcof_rel {B : Nat} (W : World) (g n : Nat) {t : TypeId} {fr : Nat × Nat} (vs : List Value) (ls : List (List UInt8)) (hB : B ≤ W.heap.size) (hg : W.heap[g]? = some (.cells vs.toArray t fr)) (hl : Cellsl W vs ls) (hn : ls.length = n) (hm : n < 100) (x : CrcMath.W) (hx : Hid (x = CrcMath.of ls)) :
    Calls Try.prog 63 #[.slice (some ⟨g, 0, none⟩) n n] W fun e w' => ∃ v, e = .returned v ∧ Gr B W w' ∧ v = .int .u32 x.toNat := by
  rw [hx.out, ← hn]
  refine (crcof_any W _ _ ls (Rdl.of_block hg (by omega) hl)).mono ?_
  rintro e w1 ⟨rfl, h1⟩
  exact ⟨_, rfl, Gr.of_below h1 hB, rfl⟩
theorem crcadd_rel {B : Nat} (W : World) (s : CrcMath.W) (A : Option Addr) (n c : Nat) (l : List UInt8) (hB : B ≤ W.heap.size) (hl : l.length = n) (hr : Rd W A l) (x : CrcMath.W) (hx : Hid (x = CrcMath.add s l)) :
    Calls Try.prog 71 #[.int .u32 s.toNat, .slice A n c] W fun e w' => ∃ v, e = .returned v ∧ Gr B W w' ∧ v = .int .u32 x.toNat := by
  rw [hx.out, ← hl]
  refine (crcadd_any s W A c l hr).mono ?_
  rintro e w1 ⟨rfl, h1⟩
  exact ⟨_, rfl, Gr.of_below h1 hB, rfl⟩
end Go.Proofs.Ytbpecfbliglboaa
