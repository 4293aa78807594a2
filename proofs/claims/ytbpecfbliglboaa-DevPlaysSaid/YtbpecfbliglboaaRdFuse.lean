/- The reference's device: Fuse. -/
import Derived.Test.YtbpecfbliglboaaRdFlush
namespace Go.Proofs.Ytbpecfbliglboaa
open Go.RowKit Go.Maps
set_option linter.unusedVariables false
set_option linter.unusedSimpArgs false
set_option maxRecDepth 20000 in
set_option maxHeartbeats 1000000 in
theorem ref_fuse (w : World) (B r : Nat) (rf : Int) (vs vl vk : Value) (d : DevMath.Dev) (ss : List ByteArray) (ws : List (Int × ByteArray)) (h : RdM w B r rf vs vl vk d ss ws) (calls torn : Int) (A : Option Addr) (c : Nat) (keep : List Int) (hk : IntR w (.slice A keep.length c) keep) (hkl : keep.length ≤ 1000000) (wfc : (Lit.int .i64 calls).wf = true) :
    Calls Try.prog 31 #[.pointer (some ⟨r, 0, none⟩), .int .i64 calls, .slice A keep.length c, .int .i64 torn] w fun e w' => e = .returned (.tuple #[]) ∧ (∃ rf' vk', RdM w' B r rf' vs vl vk' (d.fused calls keep torn) ss ws) ∧ Chg (OwnR r vs) w w' := by
  obtain ⟨_, h1, _⟩ := h.cells
  unfold DevMath.Dev.fused
  cases hoff : d.off with
  | true =>
    rw [hoff] at h1
    rw [if_pos rfl]
    have HD := Lib.hid h
    clear h hk
    generalize keep.length = n at *
    go_enter Try.func31, Try.ntmps31
    go_wp2
    refine bodyPost_ret (results_none rfl _ _ _) rfl ?_
    exact ⟨rfl, ⟨_, _, HD.out⟩, Chg.refl _ _⟩
  | false =>
    rw [hoff] at h1
    rw [if_neg (by decide)]
    have ht := Try.underlying30
    have hi : (Try.prog.info? 3).map (fun i => (i.zero, i.size, i.bytes)) = some (some (.int .i64 0), 1, 8) := by kernel_rfl
    obtain ⟨A', c', e, hc, hr⟩ := hk
    injection e with e1 _ e2
    subst e1; subst e2
    have hsrc : Src (w.alloc (.cells #[] 3)) A (ivl keep) := fun hp => by
      simp [ivl] at hp
      obtain ⟨a', e, hcell⟩ := hr hp
      subst e
      refine ⟨a', rfl, fun j u hu => ?_⟩
      have hj : j < keep.length := by have := (List.getElem?_eq_some_iff.1 hu).1; simpa [ivl] using this
      have : u = .int .i64 keep[j] := by simp [ivl, hj] at hu; exact hu.symm
      rw [this]
      exact cell_alloc _ (hcell j hj)
    obtain ⟨n, hnn⟩ : ∃ n, n = keep.length := ⟨_, rfl⟩
    rw [← hnn] at hkl hc ⊢
    have HN := Lib.hid hnn; have HS := Lib.hid hsrc; have HD := Lib.hid h
    clear hnn hc hr hsrc h
    go_enter Try.func31, Try.ntmps31
    go_wp2_with (at_builtin; go_loud (refine wpList_app (w0 := w) w.heap.size rfl (.tmp 16) (.tmp 17) 30 3 (.int .i64 0) 1 8 rfl ht hi rfl (by decide) (by decide) _ 0 [] (ivl keep) A n c rfl rfl (World.ownsRow_made w #[] 0 (Nat.le_refl _) (Nat.zero_le _) rfl) (by rw [HN.out]; simp [ivl]) HS.out (by intro u hu; obtain ⟨k, _, rfl⟩ := List.mem_map.1 hu; rfl) ((Below.refl _ w).alloc (Nat.le_refl _) _) (by simp) (by omega) ?_))
    intro v1 w1 ho hb _ _
    have hdw := HD.out.tr (TR.of_below hb)
    obtain ⟨_, _, _, _, c4, c5, c6, f0⟩ := hdw.cells
    have f4 := f0 4; have f5 := f0 5; have f6 := f0 6
    have hke : IntV w1 v1 keep := IntV.of_row (by simpa using ho) HN.out
    obtain ⟨Av, cv, hv1, _⟩ : ∃ Av cv, v1 = .slice Av n cv ∧ True := by
      obtain ⟨Av, cv, e, _⟩ := hke
      exact ⟨Av, cv, by rw [e, HN.out], trivial⟩
    subst hv1
    have HKE := Lib.hid hke; have HDW := Lib.hid hdw; have HB := Lib.hid hb
    clear hke hdw hb ho f0
    go_wp2
    go_end0
    have x1 := heap_setCell_same w1 r 4 _ _ (.int .i64 calls) HDW.out.st
    have x2 := heap_setCell_same _ r 5 _ _ (.slice Av n cv) x1
    have x3 := heap_setCell_same _ r 6 _ _ (.int .i64 torn) x2
    have hc3 : Chg (· = r) w1 (((w1.setCell ⟨r, 4, none⟩ (.int .i64 calls)).setCell ⟨r, 5, none⟩ (.slice Av n cv)).setCell ⟨r, 6, none⟩ (.int .i64 torn)) := ((Chg.setCell _ _ _ _).trans (Chg.setCell _ _ _ _)).trans (Chg.setCell _ _ _ _)
    have hrw := HDW.out.rows hc3
    have hkv := HKE.out.chg hc3 (fun k e cs fr hk => by
      subst e
      rw [HDW.out.st] at hk
      injection hk with hk
      injection hk with _ hk
      exact absurd hk (by decide))
    unfold rdCells at x3
    rw [hoff] at x3
    refine ⟨rfl, ⟨calls, .slice Av n cv, ?_⟩, (Chg.of_below HB.out).trans (hc3.imp fun k hk => .inl hk)⟩
    exact HDW.out.turn hc3 x3 rfl rfl hrw.1 hkv HDW.out.cw rfl wfc
end Go.Proofs.Ytbpecfbliglboaa
