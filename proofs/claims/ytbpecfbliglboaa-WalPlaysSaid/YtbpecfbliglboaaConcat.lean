/- slices.Grow of nothing, slices.Concat of slices of bytes. -/
import Derived.Test.YtbpecfbliglboaaDev2
import Derived.Lib.AppendZerosOnto
import Derived.Lib.SliceRun
import Derived.Lib.Hide
namespace Go.Proofs.Ytbpecfbliglboaa
open Go.RowKit
set_option linter.unusedVariables false
set_option linter.unusedSimpArgs false
theorem grow_nil (w : World) (n : Nat) (h1 : 0 < n) (h2 : n ≤ 1000000000) :
    Calls Try.prog 61 #[.slice none 0 0, .int .i64 n] w fun e w' => ∃ v, e = .returned v ∧ Ob w' w.heap.size 5 v [] ∧ Below w.heap.size w w' := by
  obtain ⟨i0, hi, hz0, hz1, hz2⟩ := info_parts info_u8
  obtain ⟨G, hG⟩ : ∃ G, G = grownCap w n 0 5 := ⟨_, rfl⟩
  have hGn : n ≤ G := by rw [hG]; exact grownCap_ge w _ _ _
  have hGm : G ≤ maxLen := by rw [hG]; exact grownCap_le_maxLen w _ _ _ (by unfold maxLen; omega)
  have hrz : ∀ ty, (Builtin.append_ #[33, 3] ty #[.slice none 0 0, .int .i64 (n : Int)]).run Try.prog w =
      .ok (.slice (some ⟨w.heap.size, 0, none⟩) n G) (w.drew.alloc (.cells (Builtin.zeroCells #[.int .u8 0] n ++ Builtin.zeroCells #[.int .u8 0] (G - n)) 5)) := fun ty => by
    have h := Lib.run_append_grow_zeros w 33 3 ty 5 i0 (.int .u8 0) .i64 .i64 Try.underlying33 Try.underlying3 hi hz0 none 0 0 [] (run_firstCells_none w.drew i0.size 0 0 0) n h1 (by rw [hz1]; decide) (by omega) (by omega) (by rw [hz2]; omega) (by rw [hz2]; exact growslice_fits (by omega) (by omega))
    simp only [Nat.zero_add, ← hG] at h
    rw [h]
    simp [Value.cells]
  obtain ⟨cur, hcur⟩ : ∃ c, c = Builtin.zeroCells #[.int .u8 0] n ++ Builtin.zeroCells #[.int .u8 0] (G - n) := ⟨_, rfl⟩
  have hcs : cur.size = G * 1 := by rw [hcur, Array.size_append, size_zeroCells, size_zeroCells]; simp; omega
  rw [← hcur] at hrz
  have HO : Hid (Ob (w.drew.alloc (.cells cur 5)) w.heap.size 5 (.slice (some ⟨w.heap.size, 0, none⟩) 0 G) []) := Lib.hid (World.ownsRow_made w.drew cur G (Nat.le_refl _) hGm hcs)
  have HB : Hid (Below w.heap.size w (w.drew.alloc (.cells cur 5))) := Lib.hid ((Below.drew (Below.refl _ w)).alloc (Nat.le_refl _) _)
  have hw1 : IntKind.i64.wrap (n : Int) = n := by rw [IntKind.wrap_i64]; omega
  have hg0 : (0 : Int) ≤ G := by omega
  clear hi hz0 hz1 hz2 hcur hcs hG hGm
  go_enter Try.func61, Try.ntmps61
  go_wp2_with (at_builtin; refine Lib.wpList_append_run _ rfl _ _ _ _ rfl _ _ rfl rfl _ _ (hrz _) ?_)
  go_ret
  exact ⟨_, rfl, HO.out, HB.out⟩
def total (ls : List (List UInt8)) : Nat := ls.foldr (fun l n => l.length + n) 0
theorem total_take (ls : List (List UInt8)) (k : Nat) (h : k < ls.length) : total (ls.take (k + 1)) = total (ls.take k) + ls[k].length := by
  induction ls generalizing k with
  | nil => simp at h
  | cons l ls ih =>
    cases k with
    | zero => simp [total]
    | succ k =>
      have := ih k (by simpa using h)
      simp only [List.take_succ_cons, total, List.foldr_cons, List.getElem_cons_succ] at this ⊢
      omega
theorem total_le (ls : List (List UInt8)) (k : Nat) : total (ls.take k) ≤ total ls := by
  induction ls generalizing k with
  | nil => simp [total]
  | cons l ls ih =>
    cases k with
    | zero => simp [total]
    | succ k =>
      have := ih k
      simp only [List.take_succ_cons, total, List.foldr_cons] at this ⊢
      omega
theorem flat_take (ls : List (List UInt8)) (k : Nat) (h : k < ls.length) : (ls.take (k + 1)).flatten = (ls.take k).flatten ++ ls[k] := by
  rw [take_succ_at ls k h, List.flatten_append, List.flatten_cons, List.flatten_nil, List.append_nil]
theorem flat_length (ls : List (List UInt8)) : ls.flatten.length = total ls := by
  induction ls with
  | nil => rfl
  | cons l ls ih => simp [total, List.flatten_cons, ih]
set_option maxHeartbeats 1000000 in
theorem concat_any (w : World) (A : Option Addr) (c : Nat) (ls : List (List UInt8)) (hr : Rdl w A ls) (hc : ls.length ≤ c) (h1 : 0 < total ls) (h2 : total ls ≤ 1000000000) (hn : ls.length ≤ 1000000) :
    Calls Try.prog 48 #[.slice A ls.length c] w fun e w' => ∃ v, e = .returned v ∧ Ob w' w.heap.size 5 v ls.flatten ∧ Below w.heap.size w w' := by
  have ht := Try.underlying33
  have hi := info_u8
  obtain ⟨n, hnn⟩ : ∃ n, n = ls.length := ⟨_, rfl⟩
  obtain ⟨T, hT⟩ : ∃ T, T = total ls := ⟨_, rfl⟩
  rw [← hnn] at hc hn ⊢
  rw [← hT] at h1 h2
  have HN := Lib.hid hnn; have HT := Lib.hid hT
  clear hnn hT
  go_enter Try.func48, Try.ntmps48
  go_wp2
  go_loopw [3, 11] (fun s i wr => ∃ k : Nat, k ≤ n ∧ i = .int .i64 k ∧ s = .int .i64 (total (ls.take k)) ∧ wr = w) (fun _ i _ => n - (intOf i).toNat)
  case atStart => exact ⟨0, by omega, rfl, rfl, rfl⟩
  case round =>
    obtain ⟨k, hk, rfl, rfl, rfl⟩ := hrel
    by_cases hlt : k < n
    · obtain ⟨a, A1, c1, rfl, hcell, hle1, hr1⟩ := hr.at_ k (by rw [← HN.out]; exact hlt)
      have htk := total_take ls k (by rw [← HN.out]; exact hlt)
      have htl := total_le ls (k + 1)
      rw [← HT.out] at htl
      generalize (ls[k]'(by rw [← HN.out]; exact hlt)).length = q at hcell htk
      obtain ⟨S, hS⟩ : ∃ S, S = total (ls.take k) := ⟨_, rfl⟩
      rw [← hS] at htk ⊢
      obtain ⟨S2, hS2⟩ : ∃ S2, S2 = S + q := ⟨_, rfl⟩
      rw [← hS2] at htk
      have hw : IntKind.i64.wrap ((S : Int) + q) = (S2 : Int) := by rw [IntKind.wrap_i64]; omega
      have hw2 : wrap64 ((S : Int) + q) = (S2 : Int) := by unfold wrap64; omega
      have hnn : ¬ ((S2 : Int) < 0) := Int.not_lt.2 (Int.natCast_nonneg _)
      have HK := Lib.hid htk
      clear htk hle1 hr1 hS hS2
      go_wp2
      go_roundw
      case rel => exact ⟨k + 1, by omega, by go_num, by rw [HK.out], trivial⟩
      case measure => simp [intOf]; omega
    · obtain rfl : k = n := by omega
      rename World => w0
      rw [show ls.take k = ls from List.take_of_length_le (by rw [← HN.out]; exact Nat.le_refl _), ← HT.out]
      go_wp2_with fail
      refine (grow_nil _ T h1 h2).mono ?_
      rintro e w2 ⟨v2, rfl, ho2, hb2⟩
      have HO := Lib.hid ho2; have HB := Lib.hid hb2
      clear ho2 hb2
      go_wp2_with fail
      go_loopw [6, 27] (fun b i wr => ∃ j : Nat, j ≤ k ∧ i = .int .i64 j ∧ Ob wr w0.heap.size 5 b ((ls.take j).flatten) ∧ Below w0.heap.size w0 wr) (fun _ i _ => k - (intOf i).toNat)
      case atStart => exact ⟨0, by omega, rfl, HO.out, HB.out⟩
      case round =>
        obtain ⟨j, hj, rfl, ho, hb⟩ := hrel
        by_cases hlt : j < k
        · obtain ⟨a, A1, c1, rfl, hcell, hle1, hr1⟩ := hr.at_ j (by rw [← HN.out]; exact hlt)
          have hfl := flat_take ls j (by rw [← HN.out]; exact hlt)
          have htl := total_le ls (j + 1)
          have htk := total_take ls j (by rw [← HN.out]; exact hlt)
          rw [← HT.out] at htl
          have hfn := flat_length (ls.take j)
          obtain ⟨lk, hlk⟩ : ∃ lk, lk = ls[j]'(by rw [← HN.out]; exact hlt) := ⟨_, rfl⟩
          rw [← hlk] at hcell hle1 hr1 hfl htk
          obtain ⟨q, hq⟩ : ∃ q, q = lk.length := ⟨_, rfl⟩
          rw [← hq] at hcell htk
          have hbd : ((ls.take j).flatten).length + q ≤ 140737488355328 := by rw [hfn]; omega
          have hc1 := cell_below hb hcell
          have hr2 := hr1.below hb
          have HO := Lib.hid ho; have HB := Lib.hid hb; have HQ := Lib.hid hq; have HR := Lib.hid hr2; have HF := Lib.hid hfl; have HBd := Lib.hid hbd
          have hsz := hb.size
          clear ho hb hq hr1 hr2 hfl htl htk hfn hlk hcell hle1 hbd
          go_wp2_with (at_builtin; go_loud (refine wpList_appn (w0 := w0) w0.heap.size rfl (.tmp 31) (.tmp 32) 33 5 rfl ht hi _ ((ls.take j).flatten) lk A1 q c1 rfl rfl HQ.out.symm HO.out HR.out HB.out hsz HBd.out ?_))
          intro v3 w3 ho3 hb3 _ _
          rw [← HF.out] at ho3
          have HO3 := Lib.hid ho3; have HB3 := Lib.hid hb3
          clear ho3 hb3 hc1
          go_wp2
          go_roundw
          case rel => exact ⟨j + 1, by omega, by go_num, HO3.out, HB3.out⟩
          case measure => simp [intOf]; omega
        · obtain rfl : j = k := by omega
          rw [show ls.take j = ls from List.take_of_length_le (by rw [← HN.out]; exact Nat.le_refl _)] at ho
          have HO := Lib.hid ho; have HB := Lib.hid hb
          clear ho hb
          go_wp2
          go_ret
          exact ⟨_, rfl, HO.out, HB.out⟩
end Go.Proofs.Ytbpecfbliglboaa
