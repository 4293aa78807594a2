/- The document's functions of records. -/
import Derived.Test.YthhdkhgafeaehaaRecRef
import Derived.Deep.Cut
import Derived.Deep.CutRange
namespace Go.Proofs.Ythhdkhgafeaehaa
open Go.RowKit
set_option linter.unusedVariables false
set_option linter.unusedSimpArgs false

attribute [local irreducible] wpR relOp
def getTbl3 (U X : Nat) : Nat → Option Sp
  | 9 => some (.val (.int .u64 U))
  | 14 => some (.val (.int .u32 X))
  | _ => none
theorem from_rel {B : Nat} (W : World) (A : Option Addr) (n c : Nat) (l : List UInt8) (V : Nat) (hr : Rd W A l) (h8 : l.length = n) (hn : n ≤ 8) (hV : Hid (V = RecMath.rd l)) :
    Calls Try.prog 29 #[.slice A n c] W fun e w' => ∃ v, e = .returned v ∧ Gr B W w' ∧ v = .int .u64 V := by
  rw [hV.out, ← h8]
  refine (from_any W A c l hr (by omega)).mono ?_
  rintro e w1 ⟨rfl, rfl⟩
  exact ⟨_, rfl, Gr.refl _ _, rfl⟩
theorem refcrc_rel {B : Nat} (W : World) (A : Option Addr) (n c : Nat) (l : List UInt8) (X : CrcMath.W) (hr : Rd W A l) (h8 : l.length = n) (hX : Hid (X = CrcMath.add 0 l)) :
    Calls Try.prog 12 #[.int .u32 0, .slice A n c] W fun e w' => ∃ v, e = .returned v ∧ Gr B W w' ∧ v = .int .u32 X.toNat := by
  rw [hX.out, ← h8]
  refine (refcrc_any 0 W A c l hr).mono ?_
  rintro e w1 ⟨rfl, rfl⟩
  exact ⟨_, rfl, Gr.refl _ _, rfl⟩
set_option maxHeartbeats 2000000 in
theorem getrec_any (w : World) (A : Option Addr) (c : Nat) (l : List UInt8) (hr : Rd w A l) (hc : l.length ≤ c) (hl : l.length ≤ 140737488351232) :
    Calls Try.prog 19 #[.slice A l.length c] w (GotIs (RecMath.get l) w) := by
  unfold GotIs
  obtain ⟨n, hnn⟩ : ∃ n, n = l.length := ⟨_, rfl⟩
  rw [← hnn] at hl hc ⊢
  have HN := Lib.hid hnn
  by_cases h4 : n < 4
  · have hg : RecMath.get l = ⟨0, [], 0, 8⟩ := by unfold RecMath.get; rw [if_pos (by omega)]
    rw [hg]; clear hg hnn
    go_enter Try.func19, Try.ntmps19
    go_wp2
    ((try simp only [Exit.inBlock, Exit.then]); refine bodyPost_ret_by (by rw [results_cell3 rfl]; go_simp; rfl) rfl ?_)
    exact ⟨_, rfl, Sl.nil _, (Below.refl _ w).alloc (Nat.le_refl _) _⟩
  · obtain ⟨S, hS⟩ : ∃ S, S = RecMath.rd (l.take 4) := ⟨_, rfl⟩
    have hS32 : S < 4294967296 := by
      rw [hS]
      have := RecMath.rd_lt (l.take 4)
      rw [List.length_take, Nat.min_eq_left (by omega)] at this
      exact this
    have ht4 : (l.take 4).length = 4 := by rw [List.length_take]; omega
    have hT4 := Lib.hid ht4
    have hc4 : 4 ≤ c := by omega
    obtain ⟨a, rfl⟩ := hr.some (by omega)
    by_cases h2 : 200000 < S
    · have hg : RecMath.get l = ⟨0, [], 0, 3⟩ := by unfold RecMath.get; rw [if_neg (by omega), ← hS, if_pos h2]
      have HS := Lib.hid hS
      rw [hg]; clear hg hnn hS ht4
      go_enter Try.func19, Try.ntmps19
      go_wp2_with fail
      have hrd := from_any (w.alloc (.cells #[.int .i64 0, .slice none 0 0] 40)) (some a) c (l.take 4) ((hr.take 4).alloc _) (by rw [hT4.out]; omega)
      rw [hT4.out, ← HS.out] at hrd
      refine hrd.mono ?_
      rintro e w1 ⟨rfl, rfl⟩
      go_wp2
      ((try simp only [Exit.inBlock, Exit.then]); refine bodyPost_ret_by (by rw [results_cell3 rfl]; go_simp; rfl) rfl ?_)
      exact ⟨_, rfl, Sl.nil _, (Below.refl _ w).alloc (Nat.le_refl _) _⟩
    · by_cases h16 : n < 16 + S
      · have hg : RecMath.get l = ⟨0, [], 0, 8⟩ := by unfold RecMath.get; rw [if_neg (by omega), ← hS, if_neg h2, if_pos (by omega)]
        have HS := Lib.hid hS
        rw [hg]; clear hg hnn hS ht4
        go_enter Try.func19, Try.ntmps19
        go_wp2_with fail
        have hrd := from_any (w.alloc (.cells #[.int .i64 0, .slice none 0 0] 40)) (some a) c (l.take 4) ((hr.take 4).alloc _) (by rw [hT4.out]; omega)
        rw [hT4.out, ← HS.out] at hrd
        refine hrd.mono ?_
        rintro e w1 ⟨rfl, rfl⟩
        go_wp2
        ((try simp only [Exit.inBlock, Exit.then]); refine bodyPost_ret_by (by rw [results_cell3 rfl]; go_simp; rfl) rfl ?_)
        exact ⟨_, rfl, Sl.nil _, (Below.refl _ w).alloc (Nat.le_refl _) _⟩
      · obtain ⟨V, hV⟩ : ∃ V, V = RecMath.rd ((l.drop 4).take 8) := ⟨_, rfl⟩
        have hl8 : ((l.drop 4).take 8).length = 8 := by rw [List.length_take, List.length_drop]; omega
        have hV64 : V < 18446744073709551616 := by rw [hV]; exact rd_lt8 _ (by omega)
        obtain ⟨U, hU⟩ : ∃ U, U = RecMath.rd ((l.drop (12 + S)).take 4) := ⟨_, rfl⟩
        have hlU : ((l.drop (12 + S)).take 4).length = 4 := by rw [List.length_take, List.length_drop]; omega
        have hU32 : U < 4294967296 := by
          rw [hU]
          have := RecMath.rd_lt ((l.drop (12 + S)).take 4)
          rw [hlU] at this
          exact this
        obtain ⟨X, hX⟩ : ∃ X, X = CrcMath.add 0 (l.take (12 + S)) := ⟨_, rfl⟩
        have hX2 := X.isLt
        have hlB : ((l.drop 12).take S).length = S := by rw [List.length_take, List.length_drop]; omega
        have hlX : (l.take (12 + S)).length = 12 + S := by rw [List.length_take]; omega
        have hg : RecMath.get l = if RecMath.i64 V < 1 ∨ U ≠ X.toNat then ⟨0, [], 0, 3⟩ else ⟨RecMath.i64 V, (l.drop 12).take S, 16 + S, 0⟩ := by
          unfold RecMath.get; rw [if_neg (by omega), ← hS, if_neg h2, if_neg (by omega), ← hV, ← hU, ← hX]
        have hwV := i64_wrap V hV64
        obtain ⟨num, hnum⟩ : ∃ num, num = RecMath.i64 V := ⟨_, rfl⟩
        rw [← hnum] at hwV hg
        generalize RecMath.get l = g at hg ⊢
        have HG := Lib.hid hg
        have HS := Lib.hid hS; have HV := Lib.hid hV; have HU := Lib.hid hU; have HX := Lib.hid hX
        have hXo : X = CrcMath.of [l.take (12 + S)] := by rw [CrcMath.of_eq, hX]; simp
        have HXo := Lib.hid hXo
        have HB := Lib.hid hlB; have HLX := Lib.hid hlX; have HLU := Lib.hid hlU; have HLV := Lib.hid hl8
        clear hg hXo hS hV hU hX hnum hlB hlX hlU hl8 hnn ht4
        obtain ⟨W0, hW0⟩ : ∃ W0, W0 = w.alloc (.cells #[.int .i64 0, .slice none 0 0] 40) := ⟨_, rfl⟩
        have hB0 : Below w.heap.size w W0 := by rw [hW0]; exact (Below.refl _ w).alloc (Nat.le_refl _) _
        have b1 : (12 : Int) ≤ c := by omega
        have b2 : ¬ c = 4 := by omega
        have b3 : ¬ c = 12 := by omega
        have b4 : 12 + (S : Int) ≤ c := by omega
        have b5 : (12 : Int) ≤ 12 + S := by omega
        have b6 : 16 + (S : Int) ≤ c := by omega
        have b7 : ¬ c = 12 + S := by omega
        have b9 : IntKind.i64.wrap (12 + (S : Int)) = ((12 + S : Nat) : Int) := by rw [IntKind.wrap_i64]; omega
        have b9' : 12 + (S : Int) = ((12 + S : Nat) : Int) := by omega
        have b10 : ((12 + S : Nat) : Int).toNat = 12 + S := by omega
        have b11 : 12 + S - 12 = S := by omega
        have b12 : (12 : Int) ≤ ((12 + S : Nat) : Int) := by omega
        have b13 : ((12 + S : Nat) : Int) ≤ c := by omega
        have b14 : max ((12 + S : Nat) : Int) 0 = ((12 + S : Nat) : Int) := by omega
        have b15 : 0 ≤ ((12 + S : Nat) : Int) := by omega
        have b16 : 0 ≤ 16 + (S : Int) := by omega
        have b17 : (16 + (S : Int)).toNat = 12 + S + 4 := by omega
        have c1 : IntKind.i64.wrap ((S : Int) + 12) = ((12 + S : Nat) : Int) := by rw [IntKind.wrap_i64]; omega
        have c2 : IntKind.i64.wrap ((S : Int) + 16) = ((16 + S : Nat) : Int) := by rw [IntKind.wrap_i64]; omega
        have c3 : max ((16 + S : Nat) : Int) 0 = ((16 + S : Nat) : Int) := by omega
        have c4 : ((16 + S : Nat) : Int) ≤ c := by omega
        have c5 : ((12 + S : Nat) : Int) ≤ ((16 + S : Nat) : Int) := by omega
        have c6 : (16 + S) - (12 + S) = 4 := by omega
        have c7 : 12 + S ≤ 16 + S := by omega
        have c8 : 0 ≤ ((16 + S : Nat) : Int) := by omega
        generalize hR : 16 + S = R at *
        generalize hQ : 12 + S = Q at *
        have hwS : IntKind.i64.wrap (S : Int) = S := by rw [IntKind.wrap_i64]; omega
        go_enter Try.func19, Try.ntmps19
        go_wp2_with fail
        rw [← hW0]
        have hrd := from_any W0 (some a) c (l.take 4) ((hr.take 4).below hB0) (by rw [hT4.out]; omega)
        rw [hT4.out, ← HS.out] at hrd
        refine hrd.mono ?_
        rintro e w1 ⟨rfl, rfl⟩
        have hh0 : W0.heap[w.heap.size]? = some (.cells #[.int .i64 0, .slice none 0 0] 40 (0, 0)) := by rw [hW0]; exact heap_new w _ _ rfl
        have HH0 := Lib.hid hh0
        have HB0 := Lib.hid hB0
        clear hW0 hh0 hB0
        go_wp2_with fail
        have hrd2 := from_any W0 (some (a.add 4)) (c - 4) ((l.drop 4).take 8) (((hr.drop 4).take 8).below HB0.out) (by rw [HLV.out]; omega)
        rw [HLV.out, ← HV.out] at hrd2
        refine hrd2.mono ?_
        rintro e w1 ⟨rfl, rfl⟩
        go_wp2_with fail
        have w2W : ∀ W, Gr W0.heap.size W0.drew W → Below w.heap.size w W := fun W h => below_then HB0.out HB0.out.size (Below.trans (Below.drew (Below.refl _ W0)) h.1)
        have hcell2 : ∀ W, Gr W0.heap.size W0.drew W → W.heap[w.heap.size]? = some (.cells #[.int .i64 0, .slice none 0 0] 40 (0, 0)) := fun W h => by
          rw [h.1.block _ (by have := Array.getElem?_eq_some_iff.1 HH0.out; obtain ⟨h, _⟩ := this; exact h)]; exact HH0.out
        have HC := Lib.hid hcell2; have HW := Lib.hid w2W
        clear hcell2 w2W
        have ht := Try.underlying22
        have hi := info_u8
        by_cases hn1 : num < 1
        · have hb1 : decide (num < 1) = true := decide_eq_true hn1
          refine wp_region_tbl _ (getTbl3 U X.toNat) (W0.heap.size) (by kernel_rfl) (by kernel_rfl) (by kernel_rfl) ?_
          (refine wpR_plain ?_ (by rfl) (fun K hK => ?_); (focus (first | (simp only [Region.wanted]; done) | (go_simp; done))); apply Exists.intro; refine ⟨fun W hW => ?_, ?_⟩; (go_simp; (try simp only [plainUpon_value, true_and]); rfl); go_simp; refine hK _ ?_; clear hK K)
          repeat (first
            | (refine wpR_plain ?_ (by rfl) (fun K hK => ?_); (focus (first | (simp only [Region.wanted]; done) | (go_simp; done))); apply Exists.intro; refine ⟨fun W hW => ?_, ?_⟩; (go_simp; (try simp only [plainUpon_value, true_and]); rfl); go_simp; refine hK _ ?_; clear hK K)
            | (refine wpR_skip ?_ (fun K hK => ?_); (focus (first | (simp only [Region.wanted]; done) | (go_simp; done))); go_simp; refine hK _ ?_; clear hK K))
          refine wpR_nil (fun W hW hF => ?_)
          clear hF
          have hh3 := HC.out W hW
          have k1 : W.cell? ⟨w.heap.size, 0, none⟩ = some (.int .i64 0) := by rw [cell_of_row W w.heap.size 0 _ _ _ hh3]; rfl
          have k2 : W.cell? ⟨w.heap.size, 1, none⟩ = some (.slice none 0 0) := by rw [cell_of_row W w.heap.size 1 _ _ _ hh3]; rfl
          have k3 : W.frozen? ⟨w.heap.size, 0, none⟩ = false := frozen_of_row W w.heap.size 0 _ _ hh3
          have k4 : W.frozen? ⟨w.heap.size, 1, none⟩ = false := frozen_of_row W w.heap.size 1 _ _ hh3
          have hbb := (HW.out W hW)
          clear hW hh3
          go_wp2
          ((try simp only [Exit.inBlock, Exit.then]); refine bodyPost_ret_by (by rw [results_cell3 rfl]; go_simp; rfl) rfl ?_)
          rw [HG.out, if_pos (.inl hn1)]
          exact ⟨_, rfl, Sl.nil _, (hbb.setCell (p := ⟨w.heap.size, 0, none⟩) (Nat.le_refl _) _).setCell (p := ⟨w.heap.size, 1, none⟩) (Nat.le_refl _) _⟩
        · have hwX : IntKind.u64.wrap (X.toNat : Int) = X.toNat := u64_wrap_id _ (by omega) (by omega)
          have hb1 : decide (num < 1) = false := decide_eq_false hn1
          refine wp_region_tbl _ (getTbl3 U X.toNat) (W0.heap.size) (by kernel_rfl) (by kernel_rfl) (by kernel_rfl) ?_
          iterate 9 (refine wpR_plain ?_ (by rfl) (fun K hK => ?_); (focus (first | (simp only [Region.wanted]; done) | (go_simp; done))); apply Exists.intro; refine ⟨fun W hW => ?_, ?_⟩; (go_simp; (try simp only [plainUpon_value, true_and]); rfl); go_simp; refine hK _ ?_; clear hK K)
          (refine wpR_val (by rfl) ?_ (fun W hW hF => ?_) (fun K hK => ?_); (focus (first | (simp only [Region.wanted]; done) | (go_simp; done))); (go_simp; simp only [relUpon_enter]; exact from_rel W (some (a.add Q)) 4 (c - Q) ((l.drop Q).take 4) U (((hr.drop Q).take 4).below (HW.out W hW)) HLU.out (by decide) HU); go_simp; refine hK _ ?_; clear hK K)
          iterate 4 (refine wpR_plain ?_ (by rfl) (fun K hK => ?_); (focus (first | (simp only [Region.wanted]; done) | (go_simp; done))); apply Exists.intro; refine ⟨fun W hW => ?_, ?_⟩; (go_simp; (try simp only [plainUpon_value, true_and]); rfl); go_simp; refine hK _ ?_; clear hK K)
          (refine wpR_val (by rfl) ?_ (fun W hW hF => ?_) (fun K hK => ?_); (focus (first | (simp only [Region.wanted]; done) | (go_simp; done))); (go_simp; simp only [relUpon_enter]; exact refcrc_rel W (some a) Q c (l.take Q) X ((hr.take Q).below (HW.out W hW)) HLX.out HX); go_simp; refine hK _ ?_; clear hK K)
          (refine wpR_plain ?_ (by rfl) (fun K hK => ?_); (focus (first | (simp only [Region.wanted]; done) | (go_simp; done))); apply Exists.intro; refine ⟨fun W hW => ?_, ?_⟩; (go_simp; (try simp only [plainUpon_value, true_and]); rfl); go_simp; refine hK _ ?_; clear hK K)
          by_cases hUX : U = X.toNat
          · have hne : ((U : Int) != (X.toNat : Int)) = false := by simp [hUX]
            have hne3 : ((X.toNat : Int) != (X.toNat : Int)) = false := by simp
            iterate 2 (refine wpR_plain ?_ (by rfl) (fun K hK => ?_); (focus (first | (simp only [Region.wanted]; done) | (go_simp; done))); apply Exists.intro; refine ⟨fun W hW => ?_, ?_⟩; (go_simp; (try simp only [plainUpon_value, true_and]); rfl); go_simp; refine hK _ ?_; clear hK K)
            refine wpR_nil (fun W hW hF => ?_)
            clear hF
            have hh3 := HC.out W hW
            have k1 : W.cell? ⟨w.heap.size, 0, none⟩ = some (.int .i64 0) := by rw [cell_of_row W w.heap.size 0 _ _ _ hh3]; rfl
            have k2 : W.cell? ⟨w.heap.size, 1, none⟩ = some (.slice none 0 0) := by rw [cell_of_row W w.heap.size 1 _ _ _ hh3]; rfl
            have k3 : W.frozen? ⟨w.heap.size, 0, none⟩ = false := frozen_of_row W w.heap.size 0 _ _ hh3
            have k4 : W.frozen? ⟨w.heap.size, 1, none⟩ = false := frozen_of_row W w.heap.size 1 _ _ hh3
            have hbb := (HW.out W hW)
            have HH3 := Lib.hid hh3
            clear hW hh3
            go_wp2_with (at_builtin; go_loud (refine wpList_appn (w0 := W) W.heap.size rfl (.tmp 48) (.tmp 52) 22 5 rfl ht hi _ [] ((l.drop 12).take S) (some (a.add 12)) S (c - 12) rfl rfl HB.out (Ob.empty W _ _ (Nat.le_refl _)) (((hr.drop 12).take S).below (hbb.alloc hbb.size _)) ((Below.refl _ W).alloc (Nat.le_refl _) _) (by simp) (by simp; omega) ?_))
            intro v1 w1 ho hb _ _
            obtain ⟨A9, c9, rfl, hle9, hrd9⟩ := ho.rd
            have hSl : Sl w1 (.slice A9 S c9) ((l.drop 12).take S) := by have h := ho.sl; rw [HB.out] at h; exact h
            rw [HB.out] at hle9 ⊢
            have hlt : w.heap.size < W.heap.size := (Array.getElem?_eq_some_iff.1 HH3.out).1
            have k1' := cell_below hb k1
            have k2' := cell_below hb k2
            have k3' : w1.frozen? ⟨w.heap.size, 0, none⟩ = false := (hb.frozen (p := ⟨w.heap.size, 0, none⟩) hlt).trans k3
            have k4' : w1.frozen? ⟨w.heap.size, 1, none⟩ = false := (hb.frozen (p := ⟨w.heap.size, 1, none⟩) hlt).trans k4
            have hh4 : w1.heap[w.heap.size]? = some (.cells #[.int .i64 0, .slice none 0 0] 40 (0, 0)) := (hb.block _ hlt).trans HH3.out
            have HH4 := Lib.hid hh4
            have HS9 := Lib.hid hSl
            have HB9 := Lib.hid (below_then hbb hbb.size hb)
            clear ho hb hrd9 hSl hh4 k1 k2 k3 k4
            go_wp2
            ((try simp only [Exit.inBlock, Exit.then]); refine bodyPost_ret_by (by rw [results_cell3 rfl]; go_simp; rfl) rfl ?_)
            rw [HG.out, if_neg (by omega)]
            refine ⟨_, rfl, HS9.out.keep (by rw [HH4.out]; simp) (by intro k _ hk; rw [heap_setCell_other _ _ _ _ hk, heap_setCell_other _ _ _ _ hk]), (HB9.out.setCell (p := ⟨w.heap.size, 0, none⟩) (Nat.le_refl _) _).setCell (p := ⟨w.heap.size, 1, none⟩) (Nat.le_refl _) _⟩
          · have hne : ((U : Int) != (X.toNat : Int)) = true := by simp; omega
            have hne2 : ((U : Int) == (X.toNat : Int)) = false := by simp; omega
            iterate 2 (refine wpR_plain ?_ (by rfl) (fun K hK => ?_); (focus (first | (simp only [Region.wanted]; done) | (go_simp; done))); apply Exists.intro; refine ⟨fun W hW => ?_, ?_⟩; (go_simp; (try simp only [plainUpon_value, true_and]); rfl); go_simp; refine hK _ ?_; clear hK K)
            refine wpR_nil (fun W hW hF => ?_)
            clear hF
            have hh3 := HC.out W hW
            have k1 : W.cell? ⟨w.heap.size, 0, none⟩ = some (.int .i64 0) := by rw [cell_of_row W w.heap.size 0 _ _ _ hh3]; rfl
            have k2 : W.cell? ⟨w.heap.size, 1, none⟩ = some (.slice none 0 0) := by rw [cell_of_row W w.heap.size 1 _ _ _ hh3]; rfl
            have k3 : W.frozen? ⟨w.heap.size, 0, none⟩ = false := frozen_of_row W w.heap.size 0 _ _ hh3
            have k4 : W.frozen? ⟨w.heap.size, 1, none⟩ = false := frozen_of_row W w.heap.size 1 _ _ hh3
            have hbb := (HW.out W hW)
            clear hW hh3
            go_wp2
            ((try simp only [Exit.inBlock, Exit.then]); refine bodyPost_ret_by (by rw [results_cell3 rfl]; go_simp; rfl) rfl ?_)
            rw [HG.out, if_pos (.inr hUX)]
            exact ⟨_, rfl, Sl.nil _, (hbb.setCell (p := ⟨w.heap.size, 0, none⟩) (Nat.le_refl _) _).setCell (p := ⟨w.heap.size, 1, none⟩) (Nat.le_refl _) _⟩
end Go.Proofs.Ythhdkhgafeaehaa
