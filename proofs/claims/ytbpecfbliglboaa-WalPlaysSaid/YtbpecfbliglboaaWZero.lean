/- append(b, make([]byte, k)...) to a row of the call's own. -/
import Derived.Test.YtbpecfbliglboaaApb
namespace Go.Proofs.Ytbpecfbliglboaa
open Go.RowKit Go.Maps
set_option linter.unusedVariables false
set_option linter.unusedSimpArgs false
theorem zeroCells_u8 (k : Nat) : Builtin.zeroCells (Value.int .u8 0).cells k = (bvl (List.replicate k 0)).toArray := by
  have hc : (Value.int IntKind.u8 0).cells = #[.int .u8 0] := rfl
  rw [hc]
  apply Array.ext'
  apply List.ext_getElem
  · simp [Builtin.zeroCells, bvl]
  · intro i h1 h2
    simp [Builtin.zeroCells, bvl, Nat.mod_one]
theorem appz_run {W : World} {base : Nat} {v : Value} {l : List UInt8} {k : Nat} (HO : Ob W base 5 v l) (hl : 1 ≤ l.length) (hk : 1 ≤ k) (hB : base ≤ W.heap.size) (hlen : l.length + k ≤ 1000000000) :
    ∃ v' W', (Builtin.append_ #[33, 3] 33 #[v, .int .i64 k]).run Try.prog W = .ok v' W' ∧ Ob W' base 5 v' (l ++ List.replicate k 0) ∧ Below base W W' := by
  obtain ⟨i, hi, hzz⟩ := Option.map_eq_some_iff.1 info_u8b
  simp only [Prod.mk.injEq] at hzz
  obtain ⟨hz, hsize, hby⟩ := hzz
  have hbl : (bvl (List.replicate k 0)).length = k := by rw [bvl_length, List.length_replicate]
  have hll : (l ++ List.replicate k (0 : UInt8)).length = l.length + k := by rw [List.length_append, List.length_replicate]
  rcases HO.2 with ⟨rfl, h0⟩ | ⟨g, cap, cur, rfl, hbg, hg, hnc, hcm, hcs, htk⟩
  · omega
  · have hcs' : cur.size = cap := by simpa using hcs
    have htk' : cur.toList.take l.length = bvl l := by simpa using htk
    by_cases hroom : l.length + k ≤ cap
    · have hst := run_storeCells_at Try.prog g l.length 5 (bvl (List.replicate k 0)) 0 cur W hg (by rw [hbl]; omega) (bvl_one _)
      simp only [Nat.add_zero, hbl] at hst
      have hw : IntKind.i64.wrap (k : Int) = k := by rw [IntKind.wrap_i64]; omega
      have hneg : ¬ ((k : Int) < 0) := by omega
      have h48i : ¬ (281474976710656 < (k : Int)) := by omega
      have hk0 : k ≠ 0 := by omega
      have hr : (Builtin.append_ #[33, 3] 33 #[.slice (some ⟨g, 0, none⟩) l.length cap, .int .i64 k]).run Try.prog W = .ok (.slice (some ⟨g, 0, none⟩) (l.length + k) cap) (W.setRow g (cur.toList.take l.length ++ bvl (List.replicate k 0) ++ cur.toList.drop (l.length + k)).toArray) := by
        simp [Builtin.append_, run_underlying Try.underlying33, run_underlying Try.underlying3, sizeOf, typeInfo, zeroValue, hi, hz, hsize, hby, asInt, asIntOf, hw, hneg, h48i, hk0, hroom, zeroCells_u8, Addr.add_lit, hst]
      refine ⟨_, _, hr, ⟨?_, .inr ⟨g, cap, _, ?_, hbg, setRow_heap W g cur _ 5 _ hg, ?_, hcm, ?_, ?_⟩⟩, ⟨rfl, rfl, rfl, by simp, fun j hj => setRow_other W g j _ (fun e => by omega)⟩⟩
      · rw [bvl_length]; simp
      · rw [hll]
      · rw [hll]; exact hroom
      · simp only [List.size_toArray, List.length_append, List.length_take, List.length_drop, Array.length_toList, hbl]
        omega
      · rw [htk', bvl_append, hll, Nat.mul_one]
        exact List.take_left' (by rw [List.length_append, bvl_length, hbl])
    · have holds : ∀ j u, (bvl l)[j]? = some u → W.cell? ((⟨g, 0, none⟩ : Addr).add j) = some u := World.ownsRow.cells (g := g) HO rfl
      have hf := run_firstCells_some (P := Try.prog) W.drew 1 l.length ⟨g, 0, none⟩ l.length cap (bvl l) (by rw [bvl_length]; omega) (by simpa using holds)
      have hr := Lib.run_append_grow_zeros (P := Try.prog) W 33 3 33 5 i (.int .u8 0) .i64 .i64 Try.underlying33 Try.underlying3 hi hz (some ⟨g, 0, none⟩) l.length cap (bvl l) (by rw [hsize]; exact hf) k hk (by omega) (by omega) (by omega) (by rw [hby]; omega) (by rw [hby]; exact growslice_fits (by omega) (by omega))
      have hge := grownCap_ge W (l.length + k) cap 5
      have hcm2 : grownCap W (l.length + k) cap 5 ≤ maxLen := grownCap_le_maxLen W (l.length + k) cap 5 (by simp only [maxLen]; omega)
      refine ⟨_, _, hr, ⟨?_, .inr ⟨W.heap.size, _, _, ?_, hB, heap_alloc_new W.drew _, ?_, hcm2, ?_, ?_⟩⟩, ⟨rfl, rfl, rfl, by simp, fun j hj => heap_alloc_old W.drew _ (Nat.lt_of_lt_of_le hj hB)⟩⟩
      · rw [bvl_length]; simp
      · rw [hll]
      · rw [hll]; exact hge
      · rw [zeroCells_u8, zeroCells_u8]
        simp only [Array.size_append, List.size_toArray, bvl_length, List.length_replicate]
        omega
      · rw [zeroCells_u8, zeroCells_u8, bvl_append, hll, Nat.mul_one]
        simp only [Array.toList_append]
        exact List.take_left' (by rw [List.length_append, bvl_length, hbl])
end Go.Proofs.Ytbpecfbliglboaa
