/- Small letters. -/
import Derived.Test.YtgaccogekmaijaaDoorCoBk
namespace CodeMath
def foldB (c : UInt8) : UInt8 := if 65 ≤ c.toNat ∧ c.toNat ≤ 90 then UInt8.ofNat (c.toNat + 32) else c
def foldP (l : List UInt8) (k : Nat) : List UInt8 := (l.take k).map foldB ++ l.drop k
theorem foldP_len (l : List UInt8) (k : Nat) : (foldP l k).length = l.length := by
  unfold foldP
  rw [List.length_append, List.length_map, List.length_take, List.length_drop]; omega
theorem foldP_at (l : List UInt8) (k : Nat) (h : k < l.length) : (foldP l k)[k]'(by rw [foldP_len]; exact h) = l[k] := by
  unfold foldP
  rw [List.getElem_append_right (by rw [List.length_map, List.length_take]; omega)]
  simp only [List.length_map, List.length_take, List.getElem_drop]
  congr 1
  omega
theorem foldP_set (l : List UInt8) (k : Nat) (h : k < l.length) : (foldP l k).set k (foldB l[k]) = foldP l (k + 1) := by
  unfold foldP
  have hl : ((l.take k).map foldB).length = k := by rw [List.length_map, List.length_take]; omega
  rw [List.set_append_right _ _ (by omega), hl, Nat.sub_self, List.drop_eq_getElem_cons h, List.set_cons_zero, List.take_succ_eq_append_getElem h, List.map_append]
  simp
theorem foldP_all (l : List UInt8) : foldP l l.length = l.map foldB := by
  unfold foldP
  rw [List.take_length, List.drop_length, List.append_nil]
end CodeMath
namespace Go.Proofs.YtgaccogekmaijaaDoor
open Go.RowKit Go.Maps
set_option linter.unusedVariables false
set_option linter.unusedSimpArgs false
/-- bytes that are written, in a block with room behind them -/
def Mf (w : World) (g : Nat) (l : List UInt8) : Prop := l.length ≤ 9223372036854775807 ∧ ∃ cur, w.heap[g]? = some (.cells cur 5 (cur.size, cur.size + 1)) ∧ l.length ≤ cur.size ∧ ∀ j, (h : j < l.length) → cur[j]? = some (.int .u8 (l[j].toNat : Int))
theorem Mf.cell {w : World} {g : Nat} {l : List UInt8} (h : Mf w g l) (j : Nat) (hj : j < l.length) : w.cell? ⟨g, j, none⟩ = some (.int .u8 (l[j].toNat : Int)) ∧ w.frozen? ⟨g, j, none⟩ = false := by
  obtain ⟨_, cur, h1, h2, h3⟩ := h
  refine ⟨by rw [cell_of_row w g j _ _ _ h1]; exact h3 j hj, ?_⟩
  simp only [World.frozen?, h1]
  simp
  omega
theorem Mf.lt {w : World} {g : Nat} {l : List UInt8} (h : Mf w g l) : g < w.heap.size := by
  obtain ⟨_, cur, h1, _⟩ := h
  exact (Array.getElem?_eq_some_iff.1 h1).1
theorem Mf.set {w : World} {g : Nat} {l : List UInt8} (h : Mf w g l) (j : Nat) (b : UInt8) : Mf (w.setCell ⟨g, j, none⟩ (.int .u8 (b.toNat : Int))) g (l.set j b) := by
  obtain ⟨h0, cur, h1, h2, h3⟩ := h
  refine ⟨by simpa using h0, cur.setIfInBounds j (.int .u8 (b.toNat : Int)), ?_, by simpa using h2, fun i hi => ?_⟩
  · rw [setCell_eq_setRow w g j cur _ _ _ h1]
    simpa using setRow_heap w g cur (cur.setIfInBounds j (.int .u8 (b.toNat : Int))) _ _ h1
  · rw [Array.getElem?_setIfInBounds, List.getElem_set]
    have hi' : i < l.length := by simpa using hi
    by_cases e1 : j = i
    · subst e1
      simp; omega
    · simp only [e1, if_false]
      exact h3 i hi'
theorem Mf.same {w : World} {g : Nat} {l : List UInt8} (h : Mf w g l) (j : Nat) {b : UInt8} (hc : w.cell? ⟨g, j, none⟩ = some (.int .u8 (b.toNat : Int))) : Mf w g (l.set j b) := by
  obtain ⟨h0, cur, h1, h2, h3⟩ := h
  refine ⟨by simpa using h0, cur, h1, by simpa using h2, fun i hi => ?_⟩
  rw [List.getElem_set]
  have hi' : i < l.length := by simpa using hi
  by_cases e1 : j = i
  · subst e1
    rw [if_pos rfl, ← cell_of_row w g j _ _ _ h1]; exact hc
  · rw [if_neg e1]; exact h3 i hi'
theorem Mf.rd {w : World} {g : Nat} {l : List UInt8} (h : Mf w g l) : Rd w (some ⟨g, 0, none⟩) l :=
  ⟨h.1, fun _ => ⟨_, rfl, fun j hj => by
    have : (⟨g, 0, none⟩ : Addr).add j = ⟨g, j, none⟩ := by unfold Addr.add; split <;> simp_all
    rw [this]; exact (h.cell j hj).1⟩⟩
theorem str_mf (w : World) (s : ByteArray) (hl : s.size ≤ 140737488351232) : ∃ c W, (convert 9 22 (.string s)).run Tryd.prog w = .ok (.slice (some ⟨w.heap.size, 0, none⟩) s.size c) W ∧ Mf W w.heap.size s.data.toList ∧ Below w.heap.size w W := by
  refine ⟨_, _, run_bytes_of_string w 9 22 5 s Tryd.underlying9 Tryd.underlying22 Tryd.underlying5, ?_, (Below.drew (Below.refl _ w)).alloc (Nat.le_refl _) _⟩
  have hnew : ∀ C fr, (w.drew.alloc (.cells C 5 fr)).heap[w.heap.size]? = some (.cells C 5 fr) := fun C fr => heap_new w.drew _ _ rfl
  have hg := grownCap_ge w s.size 0 5
  have hss : s.data.size = s.size := rfl
  refine ⟨by simpa using Nat.le_trans hl (by decide), _, hnew _ _, ?_, fun j hj => ?_⟩
  · simp [bytesRow]
  · have hj2 : j < s.size := by simpa using hj
    have hj3 : j < s.data.size := hj2
    simp [bytesRow, Array.getElem?_append, hj3]
    rw [if_pos hj2, Array.getElem?_eq_getElem hj3]
    rfl
set_option maxRecDepth 20000 in
set_option maxHeartbeats 4000000 in
theorem small_any (w : World) (s : ByteArray) (hl : s.size ≤ 140737488351232) :
    Calls Tryd.prog 27 #[.string s] w fun e w' => e = .returned (.string ⟨(s.data.toList.map CodeMath.foldB).toArray⟩) ∧ Below w.heap.size w w' := by
  obtain ⟨cc, W0, hcv, hm0, hb0⟩ := str_mf w s hl
  obtain ⟨n, hn⟩ : ∃ n, n = s.size := ⟨_, rfl⟩
  have hsd : s.data.toList.length = n := by rw [hn, Array.length_toList]; rfl
  rw [← hn] at hcv
  obtain ⟨l, hle⟩ : ∃ l, l = s.data.toList := ⟨_, rfl⟩
  rw [← hle] at hsd hm0
  have HSD := Lib.hid hsd; have HM0 := Lib.hid hm0; have HB0 := Lib.hid hb0; have HLE := Lib.hid hle
  have hl9 : n ≤ 140737488351232 := by rw [hn]; exact hl
  clear hsd hm0 hb0 hle hn hl
  go_enter Tryd.func27, Tryd.ntmps27
  go_wp2_with fail
  go_loopw [4, 5, 10] (fun _ _ vi wr => ∃ k : Nat, k ≤ n ∧ vi = .int .i64 k ∧ Mf wr w.heap.size (CodeMath.foldP l k) ∧ Below w.heap.size w wr) (fun _ _ vi _ => n - (intOf vi).toNat)
  case atStart => exact ⟨0, Nat.zero_le _, rfl, HM0.out, HB0.out⟩
  case round =>
    obtain ⟨k, hk, rfl, hmf, hb⟩ := hrel
    by_cases hlt : k < n
    · have hlti : (k : Int) < n := by omega
      have hwk : IntKind.i64.wrap ((k : Int) + 1) = ((k + 1 : Nat) : Int) := by rw [IntKind.wrap_i64]; omega
      have hkl : k < l.length := by rw [HSD.out]; exact hlt
      obtain ⟨hcell, hfz⟩ := hmf.cell k (by rw [CodeMath.foldP_len]; exact hkl)
      rw [CodeMath.foldP_at l k hkl] at hcell
      have hset := CodeMath.foldP_set l k hkl
      have hgx := hmf.lt
      generalize l[k] = x at *
      have HSET := Lib.hid hset; have HMF := Lib.hid hmf; have HB := Lib.hid hb
      clear hset hmf hb hkl
      have hx8 := x.toNat_lt
      by_cases r1 : (65 : Int) ≤ x.toNat
      · by_cases r2 : (x.toNat : Int) ≤ 90
        · have hf : CodeMath.foldB x = UInt8.ofNat (x.toNat + 32) := by unfold CodeMath.foldB; rw [if_pos ⟨by omega, by omega⟩]
          obtain ⟨y, hy⟩ : ∃ y, y = CodeMath.foldB x := ⟨_, rfl⟩
          have hyn : (y.toNat : Int) = (x.toNat : Int) + 32 := by rw [hy, hf, UInt8.toNat_ofNat']; omega
          have HMS : Hid (Mf (wr.setCell ⟨w.heap.size, k, none⟩ (.int .u8 ((x.toNat : Int) + 32))) w.heap.size (CodeMath.foldP l (k + 1))) := Lib.hid (by
            rw [← HSET.out, ← hy, ← hyn]; exact HMF.out.set k y)
          have HBS : Hid (Below w.heap.size w (wr.setCell ⟨w.heap.size, k, none⟩ (.int .u8 ((x.toNat : Int) + 32)))) := Lib.hid (HB.out.setCell (Nat.le_refl w.heap.size) _)
          have q1 : IntKind.u8.wrap ((x.toNat : Int) + 97) = (x.toNat : Int) + 97 := by rw [IntKind.wrap_u8]; omega
          have q2 : IntKind.u8.wrap ((x.toNat : Int) + 97 - 65) = (x.toNat : Int) + 32 := by rw [IntKind.wrap_u8]; omega
          have q3 : IntKind.u8.wrap ((x.toNat : Int) + 32) = (x.toNat : Int) + 32 := by rw [IntKind.wrap_u8]; omega
          clear hf hy hyn HSET
          go_wp2
          go_roundw
          case rel => exact ⟨k + 1, by omega, by go_num, HMS.out, HBS.out⟩
          case measure => simp [intOf]; omega
        · have HMS : Hid (Mf wr w.heap.size (CodeMath.foldP l (k + 1))) := Lib.hid (by
            have hf : CodeMath.foldB x = x := by unfold CodeMath.foldB; rw [if_neg (by omega)]
            rw [← HSET.out, hf]; exact HMF.out.same k hcell)
          go_wp2
          go_roundw
          case rel => exact ⟨k + 1, by omega, by go_num, HMS.out, HB.out⟩
          case measure => simp [intOf]; omega
      · have HMS : Hid (Mf wr w.heap.size (CodeMath.foldP l (k + 1))) := Lib.hid (by
          have hf : CodeMath.foldB x = x := by unfold CodeMath.foldB; rw [if_neg (by omega)]
          rw [← HSET.out, hf]; exact HMF.out.same k hcell)
        go_wp2
        go_roundw
        case rel => exact ⟨k + 1, by omega, by go_num, HMS.out, HB.out⟩
        case measure => simp [intOf]; omega
    · have hlti : ¬ (k : Int) < n := by omega
      have hkn : k = n := by omega
      have hst : (convert 22 9 (.slice (some ⟨w.heap.size, 0, none⟩) n cc)).run Tryd.prog wr = .ok (.string ⟨(l.map CodeMath.foldB).toArray⟩) wr := by
        have h := hmf.rd
        rw [hkn, ← HSD.out, CodeMath.foldP_all] at h
        exact h.str n cc (by rw [List.length_map, HSD.out])
      have HB := Lib.hid hb
      clear hmf hb
      go_wp2
      go_ret
      exact ⟨by rw [← HLE.out]; rfl, HB.out⟩
set_option maxRecDepth 20000 in
set_option maxHeartbeats 4000000 in
theorem fold_any (w : World) (s : ByteArray) (hl : s.size ≤ 140737488351232) :
    Calls Tryd.prog 32 #[.string s] w fun e w' => e = .returned (.string ⟨(s.data.toList.map CodeMath.foldB).toArray⟩) ∧ Below w.heap.size w w' := by
  obtain ⟨cc, W0, hcv, hm0, hb0⟩ := str_mf w s hl
  obtain ⟨n, hn⟩ : ∃ n, n = s.size := ⟨_, rfl⟩
  have hsd : s.data.toList.length = n := by rw [hn, Array.length_toList]; rfl
  rw [← hn] at hcv
  obtain ⟨l, hle⟩ : ∃ l, l = s.data.toList := ⟨_, rfl⟩
  rw [← hle] at hsd hm0
  have HSD := Lib.hid hsd; have HM0 := Lib.hid hm0; have HB0 := Lib.hid hb0; have HLE := Lib.hid hle
  have hl9 : n ≤ 140737488351232 := by rw [hn]; exact hl
  clear hsd hm0 hb0 hle hn hl
  go_enter Tryd.func32, Tryd.ntmps32
  go_wp2_with fail
  go_loopw [4] (fun vi wr => ∃ k : Nat, k ≤ n ∧ vi = .int .i64 k ∧ Mf wr w.heap.size (CodeMath.foldP l k) ∧ Below w.heap.size w wr) (fun vi _ => n - (intOf vi).toNat)
  case atStart => exact ⟨0, Nat.zero_le _, rfl, HM0.out, HB0.out⟩
  case round =>
    obtain ⟨k, hk, rfl, hmf, hb⟩ := hrel
    by_cases hlt : k < n
    · have hlti : (k : Int) < n := by omega
      have hwk : IntKind.i64.wrap ((k : Int) + 1) = ((k + 1 : Nat) : Int) := by rw [IntKind.wrap_i64]; omega
      have hkl : k < l.length := by rw [HSD.out]; exact hlt
      obtain ⟨hcell, hfz⟩ := hmf.cell k (by rw [CodeMath.foldP_len]; exact hkl)
      rw [CodeMath.foldP_at l k hkl] at hcell
      have hset := CodeMath.foldP_set l k hkl
      have hgx := hmf.lt
      generalize l[k] = x at *
      have HSET := Lib.hid hset; have HMF := Lib.hid hmf; have HB := Lib.hid hb
      clear hset hmf hb hkl
      have hx8 := x.toNat_lt
      by_cases r1 : (65 : Int) ≤ x.toNat
      · by_cases r2 : (x.toNat : Int) ≤ 90
        · have hf : CodeMath.foldB x = UInt8.ofNat (x.toNat + 32) := by unfold CodeMath.foldB; rw [if_pos ⟨by omega, by omega⟩]
          obtain ⟨y, hy⟩ : ∃ y, y = CodeMath.foldB x := ⟨_, rfl⟩
          have hyn : (y.toNat : Int) = (x.toNat : Int) + 32 := by rw [hy, hf, UInt8.toNat_ofNat']; omega
          have HMS : Hid (Mf (wr.setCell ⟨w.heap.size, k, none⟩ (.int .u8 ((x.toNat : Int) + 32))) w.heap.size (CodeMath.foldP l (k + 1))) := Lib.hid (by
            rw [← HSET.out, ← hy, ← hyn]; exact HMF.out.set k y)
          have HBS : Hid (Below w.heap.size w (wr.setCell ⟨w.heap.size, k, none⟩ (.int .u8 ((x.toNat : Int) + 32)))) := Lib.hid (HB.out.setCell (Nat.le_refl w.heap.size) _)
          have q1 : IntKind.u8.wrap ((x.toNat : Int) + 97) = (x.toNat : Int) + 97 := by rw [IntKind.wrap_u8]; omega
          have q2 : IntKind.u8.wrap ((x.toNat : Int) + 97 - 65) = (x.toNat : Int) + 32 := by rw [IntKind.wrap_u8]; omega
          have q3 : IntKind.u8.wrap ((x.toNat : Int) + 32) = (x.toNat : Int) + 32 := by rw [IntKind.wrap_u8]; omega
          clear hf hy hyn HSET
          go_wp2
          go_roundw
          case rel => exact ⟨k + 1, by omega, by go_num, HMS.out, HBS.out⟩
          case measure => simp [intOf]; omega
        · have HMS : Hid (Mf wr w.heap.size (CodeMath.foldP l (k + 1))) := Lib.hid (by
            have hf : CodeMath.foldB x = x := by unfold CodeMath.foldB; rw [if_neg (by omega)]
            rw [← HSET.out, hf]; exact HMF.out.same k hcell)
          go_wp2
          go_roundw
          case rel => exact ⟨k + 1, by omega, by go_num, HMS.out, HB.out⟩
          case measure => simp [intOf]; omega
      · have HMS : Hid (Mf wr w.heap.size (CodeMath.foldP l (k + 1))) := Lib.hid (by
          have hf : CodeMath.foldB x = x := by unfold CodeMath.foldB; rw [if_neg (by omega)]
          rw [← HSET.out, hf]; exact HMF.out.same k hcell)
        go_wp2
        go_roundw
        case rel => exact ⟨k + 1, by omega, by go_num, HMS.out, HB.out⟩
        case measure => simp [intOf]; omega
    · have hlti : ¬ (k : Int) < n := by omega
      have hkn : k = n := by omega
      have hst : (convert 22 9 (.slice (some ⟨w.heap.size, 0, none⟩) n cc)).run Tryd.prog wr = .ok (.string ⟨(l.map CodeMath.foldB).toArray⟩) wr := by
        have h := hmf.rd
        rw [hkn, ← HSD.out, CodeMath.foldP_all] at h
        exact h.str n cc (by rw [List.length_map, HSD.out])
      have HB := Lib.hid hb
      clear hmf hb
      go_wp2
      go_ret
      exact ⟨by rw [← HLE.out]; rfl, HB.out⟩
end Go.Proofs.YtgaccogekmaijaaDoor
