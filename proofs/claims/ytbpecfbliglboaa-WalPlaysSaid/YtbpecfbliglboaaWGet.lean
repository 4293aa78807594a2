/- rec.Get and the document's GetRec. -/
import Derived.Test.YtbpecfbliglboaaWRec
import Derived.Test.YtbpecfbliglboaaRelTail
import Derived.Laws.ResultCell
import Derived.Laws.NewBlocks
namespace Go.Proofs.Ytbpecfbliglboaa
open Go.RowKit
set_option linter.unusedVariables false
set_option linter.unusedSimpArgs false
theorem results_cell3 {fn : Func} {p u x : Tmp} {ty : TypeId} (h : fn.results = #[.cell p ty, .tmp u, .tmp x]) (tmps : Array Value) (P : Program) (w : World) :
    (results fn tmps).run P w =
      ((asAddr (tmps.getD p undef)).run P w).andThen fun a w₁ => ((loadVar ty a).run P w₁).andThen fun v w₂ => .ok (.tuple #[v, tmps.getD u undef, tmps.getD x undef]) w₂ := by
  simp only [results, h]
  simp [Sem.run_bind, Result.andThen]
theorem i64_wrap (V : Nat) (h : V < 18446744073709551616) : IntKind.i64.wrap (V : Int) = RecMath.i64 V := by
  rw [IntKind.wrap_i64]; unfold RecMath.i64; split <;> omega
def GotIs (g : RecMath.Got) (w : World) (e : Ending) (w' : World) : Prop :=
  ∃ vb, e = .returned (.tuple #[.agg #[.int .i64 g.num, vb], .int .i64 g.n, .int .i64 g.err]) ∧ Sl w' vb g.body ∧ Below w.heap.size w w'
theorem Rd.some {w : World} {A : Option Addr} {l : List UInt8} (h : Rd w A l) (hp : 0 < l.length) : ∃ a, A = some a := by
  obtain ⟨a, e, _⟩ := h.2 hp
  exact ⟨a, e⟩
attribute [local irreducible] wpR relOp
def getTbl (V S : Nat) (B : List UInt8) : Nat → Option Sp
  | 2 => some (.val (.int .u64 V))
  | 8 => some (slSp S B)
  | _ => none
theorem read_rel {B : Nat} (W : World) (A : Option Addr) (n c : Nat) (l : List UInt8) (V : Nat) (hr : Rd W A l) (h8 : l.length = n) (hn : n ≤ 8) (hV : Hid (V = RecMath.rd l)) :
    Calls Try.prog 75 #[.slice A n c] W fun e w' => ∃ v, e = .returned v ∧ Gr B W w' ∧ v = .int .u64 V := by
  rw [hV.out, ← h8]
  refine (recread_any W A c l hr (by omega)).mono ?_
  rintro e w1 ⟨rfl, rfl⟩
  exact ⟨_, rfl, Gr.refl _ _, rfl⟩
theorem clone_rel {B : Nat} (W : World) (A : Option Addr) (n c : Nat) (l : List UInt8) (hB : B ≤ W.heap.size) (hr : Rd W A l) (hn : l.length = n) (hl : n ≤ 140737488351232) :
    Calls Try.prog 44 #[.slice A n c] W fun e w' => ∃ v, e = .returned v ∧ Gr B W w' ∧ (∃ A' c', v = .slice A' n c' ∧ n ≤ c') ∧ Sl w' v l := by
  subst hn
  refine (clone_any W A c l hr (by omega)).mono ?_
  rintro e w1 ⟨v, rfl, h1, h2⟩
  obtain ⟨A', c', rfl, h3, h4⟩ := h1.rd
  exact ⟨_, rfl, Gr.of_below h2 hB, ⟨A', c', rfl, h3⟩, h1.sl⟩
def getTbl2 (U X : Nat) : Nat → Option Sp
  | 9 => some (.val (.int .u64 U))
  | 14 => some (.lit 33)
  | 15 => some (.val (.int .u32 X))
  | _ => none
set_option maxHeartbeats 2000000 in
theorem get_any (w : World) (A : Option Addr) (c : Nat) (l : List UInt8) (hr : Rd w A l) (hc : l.length ≤ c) (hl : l.length ≤ 140737488351232) :
    Calls Try.prog 72 #[.slice A l.length c] w (GotIs (RecMath.get l) w) := by
  unfold GotIs
  obtain ⟨n, hnn⟩ : ∃ n, n = l.length := ⟨_, rfl⟩
  rw [← hnn] at hl hc ⊢
  have HN := Lib.hid hnn
  by_cases h4 : n < 4
  · have hg : RecMath.get l = ⟨0, [], 0, 8⟩ := by unfold RecMath.get; rw [if_pos (by omega)]
    rw [hg]; clear hg hnn
    go_enter Try.func72, Try.ntmps72
    go_wp2
    ((try simp only [Exit.inBlock, Exit.then]); refine bodyPost_ret_by (by rw [results_cell3 rfl]; go_simp; rfl) rfl ?_)
    exact ⟨_, rfl, Sl.nil _, (Below.refl _ w).alloc (Nat.le_refl _) _⟩
  · obtain ⟨S, hS⟩ : ∃ S, S = RecMath.rd (l.take 4) := ⟨_, rfl⟩
    have hS32 : S < 4294967296 := by
      rw [hS]
      have := RecMath.rd_lt (l.take 4)
      rw [List.length_take, Nat.min_eq_left (by omega)] at this
      exact this
    have ht4 : (l.take 4).length = 4 := by rw [List.length_take]; omega
    have hT4 := Lib.hid ht4
    have hc4 : 4 ≤ c := by omega
    obtain ⟨a, rfl⟩ := hr.some (by omega)
    by_cases h2 : 200000 < S
    · have hg : RecMath.get l = ⟨0, [], 0, 3⟩ := by unfold RecMath.get; rw [if_neg (by omega), ← hS, if_pos h2]
      have HS := Lib.hid hS
      rw [hg]; clear hg hnn hS ht4
      go_enter Try.func72, Try.ntmps72
      go_wp2_with fail
      have hrd := recread_any (w.alloc (.cells #[.int .i64 0, .slice none 0 0] 91)) (some a) c (l.take 4) ((hr.take 4).alloc _) (by rw [hT4.out]; omega)
      rw [hT4.out, ← HS.out] at hrd
      refine hrd.mono ?_
      rintro e w1 ⟨rfl, rfl⟩
      go_wp2
      ((try simp only [Exit.inBlock, Exit.then]); refine bodyPost_ret_by (by rw [results_cell3 rfl]; go_simp; rfl) rfl ?_)
      exact ⟨_, rfl, Sl.nil _, (Below.refl _ w).alloc (Nat.le_refl _) _⟩
    · by_cases h16 : n < 16 + S
      · have hg : RecMath.get l = ⟨0, [], 0, 8⟩ := by unfold RecMath.get; rw [if_neg (by omega), ← hS, if_neg h2, if_pos (by omega)]
        have HS := Lib.hid hS
        rw [hg]; clear hg hnn hS ht4
        go_enter Try.func72, Try.ntmps72
        go_wp2_with fail
        have hrd := recread_any (w.alloc (.cells #[.int .i64 0, .slice none 0 0] 91)) (some a) c (l.take 4) ((hr.take 4).alloc _) (by rw [hT4.out]; omega)
        rw [hT4.out, ← HS.out] at hrd
        refine hrd.mono ?_
        rintro e w1 ⟨rfl, rfl⟩
        go_wp2
        ((try simp only [Exit.inBlock, Exit.then]); refine bodyPost_ret_by (by rw [results_cell3 rfl]; go_simp; rfl) rfl ?_)
        exact ⟨_, rfl, Sl.nil _, (Below.refl _ w).alloc (Nat.le_refl _) _⟩
      · obtain ⟨V, hV⟩ : ∃ V, V = RecMath.rd ((l.drop 4).take 8) := ⟨_, rfl⟩
        have hl8 : ((l.drop 4).take 8).length = 8 := by rw [List.length_take, List.length_drop]; omega
        have hV64 : V < 18446744073709551616 := by rw [hV]; exact rd_lt8 _ (by omega)
        obtain ⟨U, hU⟩ : ∃ U, U = RecMath.rd ((l.drop (12 + S)).take 4) := ⟨_, rfl⟩
        have hlU : ((l.drop (12 + S)).take 4).length = 4 := by rw [List.length_take, List.length_drop]; omega
        have hU32 : U < 4294967296 := by
          rw [hU]
          have := RecMath.rd_lt ((l.drop (12 + S)).take 4)
          rw [hlU] at this
          exact this
        obtain ⟨X, hX⟩ : ∃ X, X = CrcMath.add 0 (l.take (12 + S)) := ⟨_, rfl⟩
        have hX2 := X.isLt
        have hlB : ((l.drop 12).take S).length = S := by rw [List.length_take, List.length_drop]; omega
        have hlX : (l.take (12 + S)).length = 12 + S := by rw [List.length_take]; omega
        have hg : RecMath.get l = if RecMath.i64 V < 1 ∨ U ≠ X.toNat then ⟨0, [], 0, 3⟩ else ⟨RecMath.i64 V, (l.drop 12).take S, 16 + S, 0⟩ := by
          unfold RecMath.get; rw [if_neg (by omega), ← hS, if_neg h2, if_neg (by omega), ← hV, ← hU, ← hX]
        have hwV := i64_wrap V hV64
        obtain ⟨num, hnum⟩ : ∃ num, num = RecMath.i64 V := ⟨_, rfl⟩
        rw [← hnum] at hwV hg
        generalize RecMath.get l = g at hg ⊢
        have HG := Lib.hid hg
        have HS := Lib.hid hS; have HV := Lib.hid hV; have HU := Lib.hid hU; have HX := Lib.hid hX
        have hXo : X = CrcMath.of [l.take (12 + S)] := by rw [CrcMath.of_eq, hX]; simp
        have HXo := Lib.hid hXo
        have HB := Lib.hid hlB; have HLX := Lib.hid hlX; have HLU := Lib.hid hlU; have HLV := Lib.hid hl8
        clear hg hXo hS hV hU hX hnum hlB hlX hlU hl8 hnn ht4
        obtain ⟨W0, hW0⟩ : ∃ W0, W0 = w.alloc (.cells #[.int .i64 0, .slice none 0 0] 91) := ⟨_, rfl⟩
        have hB0 : Below w.heap.size w W0 := by rw [hW0]; exact (Below.refl _ w).alloc (Nat.le_refl _) _
        go_enter Try.func72, Try.ntmps72
        go_wp2_with fail
        rw [← hW0]
        have hrd := recread_any W0 (some a) c (l.take 4) ((hr.take 4).below hB0) (by rw [hT4.out]; omega)
        rw [hT4.out, ← HS.out] at hrd
        refine hrd.mono ?_
        rintro e w1 ⟨rfl, rfl⟩
        have hh0 : W0.heap[w.heap.size]? = some (.cells #[.int .i64 0, .slice none 0 0] 91 (0, 0)) := by rw [hW0]; exact heap_new w _ _ rfl
        clear hW0
        go_wp2_with fail
        have hs0 := hB0.size
        have b1 : (12 : Int) ≤ c := by omega
        have b2 : ¬ c = 4 := by omega
        have b3 : ¬ c = 12 := by omega
        have b4 : 12 + (S : Int) ≤ c := by omega
        have b5 : (12 : Int) ≤ 12 + S := by omega
        have b6 : 16 + (S : Int) ≤ c := by omega
        have b7 : ¬ c = 12 + S := by omega
        have b8 : 16 + (S : Int) - 4 = 12 + S := by omega
        have b9 : IntKind.i64.wrap (12 + (S : Int)) = ((12 + S : Nat) : Int) := by rw [IntKind.wrap_i64]; omega
        have b10 : ((12 + S : Nat) : Int).toNat = 12 + S := by omega
        have b11 : 12 + S - 12 = S := by omega
        have b12 : (12 : Int) ≤ ((12 + S : Nat) : Int) := by omega
        have b13 : ((12 + S : Nat) : Int) ≤ c := by omega
        have b14 : max ((12 + S : Nat) : Int) 0 = ((12 + S : Nat) : Int) := by omega
        have b15 : 0 ≤ ((12 + S : Nat) : Int) := by omega
        have b16 : 0 ≤ 16 + (S : Int) := by omega
        have b17 : (16 + (S : Int)).toNat = 12 + S + 4 := by omega
        generalize hQ : 12 + S = Q at *
        (refine wp_region_tbl_tail _ 10 (getTbl V S ((l.drop 12).take S)) W0.heap.size (by kernel_rfl) (by kernel_rfl) (by kernel_rfl) ?_; simp only [List.take_succ_cons, List.take_zero, List.drop_succ_cons, List.drop_zero])
        have w0W : ∀ W, Gr W0.heap.size W0.drew W → Below w.heap.size w W := fun W h => below_then hB0 hs0 (Below.trans (Below.drew (Below.refl _ W0)) h.1)
        have hsW : ∀ W, Gr W0.heap.size W0.drew W → W0.heap.size ≤ W.heap.size := fun W h => h.size
        (refine wpR_plain ?_ (by rfl) (fun K hK => ?_); (focus (first | (simp only [Region.wanted]; done) | (go_simp; done))); apply Exists.intro; refine ⟨fun W hW => ?_, ?_⟩; (go_simp; (try simp only [plainUpon_value, true_and]); rfl); go_simp; refine hK _ ?_; clear hK K)
        (refine wpR_plain ?_ (by rfl) (fun K hK => ?_); (focus (first | (simp only [Region.wanted]; done) | (go_simp; done))); apply Exists.intro; refine ⟨fun W hW => ?_, ?_⟩; (go_simp; (try simp only [plainUpon_value, true_and]); rfl); go_simp; refine hK _ ?_; clear hK K)
        (refine wpR_val (by rfl) ?_ (fun W hW hF => ?_) (fun K hK => ?_); (focus (first | (simp only [Region.wanted]; done) | (go_simp; done))); (go_simp; simp only [relUpon_enter]; exact read_rel W (some (a.add 4)) 8 (c - 4) ((l.drop 4).take 8) V (((hr.drop 4).take 8).below (w0W W hW)) HLV.out (by decide) HV); go_simp; refine hK _ ?_; clear hK K)
        (refine wpR_plain ?_ (by rfl) (fun K hK => ?_); (focus (first | (simp only [Region.wanted]; done) | (go_simp; done))); apply Exists.intro; refine ⟨fun W hW => ?_, ?_⟩; (go_simp; (try simp only [plainUpon_value, true_and]); rfl); go_simp; refine hK _ ?_; clear hK K)
        (refine wpR_plain ?_ (by rfl) (fun K hK => ?_); (focus (first | (simp only [Region.wanted]; done) | (go_simp; done))); apply Exists.intro; refine ⟨fun W hW => ?_, ?_⟩; (go_simp; (try simp only [plainUpon_value, true_and]); rfl); go_simp; refine hK _ ?_; clear hK K)
        (refine wpR_plain ?_ (by rfl) (fun K hK => ?_); (focus (first | (simp only [Region.wanted]; done) | (go_simp; done))); apply Exists.intro; refine ⟨fun W hW => ?_, ?_⟩; (go_simp; (try simp only [plainUpon_value, true_and]); rfl); go_simp; refine hK _ ?_; clear hK K)
        (refine wpR_plain ?_ (by rfl) (fun K hK => ?_); (focus (first | (simp only [Region.wanted]; done) | (go_simp; done))); apply Exists.intro; refine ⟨fun W hW => ?_, ?_⟩; (go_simp; (try simp only [plainUpon_value, true_and]); rfl); go_simp; refine hK _ ?_; clear hK K)
        (refine wpR_plain ?_ (by rfl) (fun K hK => ?_); (focus (first | (simp only [Region.wanted]; done) | (go_simp; done))); apply Exists.intro; refine ⟨fun W hW => ?_, ?_⟩; (go_simp; (try simp only [plainUpon_value, true_and]); rfl); go_simp; refine hK _ ?_; clear hK K)
        (refine wpR_prop (by rfl) ?_ (fun W hW hF => ?_) (fun K v hv hK => ?_); (focus (first | (simp only [Region.wanted]; done) | (go_simp; done))); (go_simp; simp only [relUpon_enter]; exact clone_rel W (some (a.add 12)) S (c - 12) ((l.drop 12).take S) (hsW W hW) (((hr.drop 12).take S).below (w0W W hW)) HB.out (by omega)); obtain ⟨AB, cB, rfl, hBc⟩ := hv; go_simp; refine hK _ ?_; clear hK K)
        (refine wpR_plain ?_ (by rfl) (fun K hK => ?_); (focus (first | (simp only [Region.wanted]; done) | (go_simp; done))); apply Exists.intro; refine ⟨fun W hW => ?_, ?_⟩; (go_simp; (try simp only [plainUpon_value, true_and]); rfl); go_simp; refine hK _ ?_; clear hK K)
        refine wpR_nil (fun W hW hF => ?_)
        have hSl : Sl W (.slice AB S cB) ((l.drop 12).take S) := hF 8
        clear hF
        have hh1 : W.heap[w.heap.size]? = some (.cells #[.int .i64 0, .slice none 0 0] 91 (0, 0)) := by
          rw [hW.1.block _ (by have := Array.getElem?_eq_some_iff.1 hh0; obtain ⟨h, _⟩ := this; exact h)]; exact hh0
        have k1 : W.cell? ⟨w.heap.size, 0, none⟩ = some (.int .i64 0) := by rw [cell_of_row W w.heap.size 0 _ _ _ hh1]; rfl
        have k2 : W.cell? ⟨w.heap.size, 1, none⟩ = some (.slice none 0 0) := by rw [cell_of_row W w.heap.size 1 _ _ _ hh1]; rfl
        have k3 : W.frozen? ⟨w.heap.size, 0, none⟩ = false := frozen_of_row W w.heap.size 0 _ _ hh1
        have k4 : W.frozen? ⟨w.heap.size, 1, none⟩ = false := frozen_of_row W w.heap.size 1 _ _ hh1
        have HSl := Lib.hid hSl
        have HWb := Lib.hid (w0W W hW)
        have HH1 := Lib.hid hh1
        clear hSl hW hh1 hh0 w0W hsW hs0 hB0
        go_wp2_with fail
        obtain ⟨W2, hW2⟩ : ∃ W2, W2 = (W.setCell ⟨w.heap.size, 0, none⟩ (.int .i64 num)).setCell ⟨w.heap.size, 1, none⟩ (.slice AB S cB) := ⟨_, rfl⟩
        rw [← hW2]
        have hh2 : W2.heap[w.heap.size]? = some (.cells #[.int .i64 num, .slice AB S cB] 91 (0, 0)) := by
          rw [hW2, heap_setCell_same _ _ _ _ _ _ (heap_setCell_same _ _ _ _ _ _ HH1.out)]; rfl
        have hbW2 : Below w.heap.size w W2 := by rw [hW2]; exact (HWb.out.setCell (p := ⟨w.heap.size, 0, none⟩) (Nat.le_refl _) _).setCell (p := ⟨w.heap.size, 1, none⟩) (Nat.le_refl _) _
        have hSl2 : Sl W2 (.slice AB S cB) ((l.drop 12).take S) := HSl.out.keep (by rw [HH1.out]; simp) (by intro k _ hk; rw [hW2, heap_setCell_other _ _ _ _ hk, heap_setCell_other _ _ _ _ hk])
        clear hW2 k1 k2 k3 k4 HH1 HWb HSl
        have HS2 := Lib.hid hSl2; have HB2 := Lib.hid hbW2; have HH2 := Lib.hid hh2
        have hs2 := hbW2.size
        clear hSl2 hbW2 hh2
        have hcW : ∀ W, Gr W2.heap.size W2.drew W → W.cell? ⟨w.heap.size, 0, none⟩ = some (.int .i64 num) := fun W h => cell_gr h (by show W2.cell? _ = _; rw [cell_of_row W2 w.heap.size 0 _ _ _ HH2.out]; rfl)
        have w2W : ∀ W, Gr W2.heap.size W2.drew W → Below w.heap.size w W := fun W h => below_then HB2.out hs2 (Below.trans (Below.drew (Below.refl _ W2)) h.1)
        have hs2W : ∀ W, Gr W2.heap.size W2.drew W → W2.heap.size ≤ W.heap.size := fun W h => h.size
        have hcell2 : ∀ W, Gr W2.heap.size W2.drew W → W.heap[w.heap.size]? = some (.cells #[.int .i64 num, .slice AB S cB] 91 (0, 0)) := fun W h => by
          rw [h.1.block _ (by have := Array.getElem?_eq_some_iff.1 HH2.out; obtain ⟨h, _⟩ := this; exact h)]; exact HH2.out
        have HC := Lib.hid hcell2; have HW := Lib.hid w2W
        clear hcell2
        by_cases hn1 : num < 1
        · refine wp_region_tbl _ (getTbl2 U X.toNat) (W2.heap.size) (by kernel_rfl) (by kernel_rfl) (by kernel_rfl) ?_
          (refine wpR_plain ?_ (by rfl) (fun K hK => ?_); (focus (first | (simp only [Region.wanted]; done) | (go_simp; done))); apply Exists.intro; refine ⟨fun W hW => ?_, ?_⟩; (go_simp; (try simp only [plainUpon_value, true_and]); rfl); go_simp; refine hK _ ?_; clear hK K)
          (refine wpR_plain ?_ (by rfl) (fun K hK => ?_); (focus (first | (simp only [Region.wanted]; done) | (go_simp; done))); apply Exists.intro; refine ⟨fun W hW => ?_, ?_⟩; (have hcw := hcW W hW; go_simp; (try simp only [plainUpon_value, true_and]); rfl); go_simp; refine hK _ ?_; clear hK K)
          repeat (first
            | (refine wpR_plain ?_ (by rfl) (fun K hK => ?_); (focus (first | (simp only [Region.wanted]; done) | (go_simp; done))); apply Exists.intro; refine ⟨fun W hW => ?_, ?_⟩; (go_simp; (try simp only [plainUpon_value, true_and]); rfl); go_simp; refine hK _ ?_; clear hK K)
            | (refine wpR_skip ?_ (fun K hK => ?_); (focus (first | (simp only [Region.wanted]; done) | (go_simp; done))); go_simp; refine hK _ ?_; clear hK K))
          refine wpR_nil (fun W hW hF => ?_)
          clear hF
          have hh3 := HC.out W hW
          have k1 : W.cell? ⟨w.heap.size, 0, none⟩ = some (.int .i64 num) := by rw [cell_of_row W w.heap.size 0 _ _ _ hh3]; rfl
          have k2 : W.cell? ⟨w.heap.size, 1, none⟩ = some (.slice AB S cB) := by rw [cell_of_row W w.heap.size 1 _ _ _ hh3]; rfl
          have k3 : W.frozen? ⟨w.heap.size, 0, none⟩ = false := frozen_of_row W w.heap.size 0 _ _ hh3
          have k4 : W.frozen? ⟨w.heap.size, 1, none⟩ = false := frozen_of_row W w.heap.size 1 _ _ hh3
          have hbb := (HW.out W hW)
          clear hW hh3
          go_wp2
          ((try simp only [Exit.inBlock, Exit.then]); refine bodyPost_ret_by (by rw [results_cell3 rfl]; go_simp; rfl) rfl ?_)
          rw [HG.out, if_pos (.inl hn1)]
          exact ⟨_, rfl, Sl.nil _, (hbb.setCell (p := ⟨w.heap.size, 0, none⟩) (Nat.le_refl _) _).setCell (p := ⟨w.heap.size, 1, none⟩) (Nat.le_refl _) _⟩
        · have hwX : IntKind.u64.wrap (X.toNat : Int) = X.toNat := u64_wrap_id _ (by omega) (by omega)
          have hb1 : decide (num < 1) = false := decide_eq_false hn1
          refine wp_region_tbl _ (getTbl2 U X.toNat) (W2.heap.size) (by kernel_rfl) (by kernel_rfl) (by kernel_rfl) ?_
          (refine wpR_plain ?_ (by rfl) (fun K hK => ?_); (focus (first | (simp only [Region.wanted]; done) | (go_simp; done))); apply Exists.intro; refine ⟨fun W hW => ?_, ?_⟩; (go_simp; (try simp only [plainUpon_value, true_and]); rfl); go_simp; refine hK _ ?_; clear hK K)
          (refine wpR_plain ?_ (by rfl) (fun K hK => ?_); (focus (first | (simp only [Region.wanted]; done) | (go_simp; done))); apply Exists.intro; refine ⟨fun W hW => ?_, ?_⟩; (have hcw := hcW W hW; go_simp; (try simp only [plainUpon_value, true_and]); rfl); go_simp; refine hK _ ?_; clear hK K)
          (refine wpR_plain ?_ (by rfl) (fun K hK => ?_); (focus (first | (simp only [Region.wanted]; done) | (go_simp; done))); apply Exists.intro; refine ⟨fun W hW => ?_, ?_⟩; (go_simp; (try simp only [plainUpon_value, true_and]); rfl); go_simp; refine hK _ ?_; clear hK K)
          (refine wpR_plain ?_ (by rfl) (fun K hK => ?_); (focus (first | (simp only [Region.wanted]; done) | (go_simp; done))); apply Exists.intro; refine ⟨fun W hW => ?_, ?_⟩; (go_simp; (try simp only [plainUpon_value, true_and]); rfl); go_simp; refine hK _ ?_; clear hK K)
          (refine wpR_plain ?_ (by rfl) (fun K hK => ?_); (focus (first | (simp only [Region.wanted]; done) | (go_simp; done))); apply Exists.intro; refine ⟨fun W hW => ?_, ?_⟩; (go_simp; (try simp only [plainUpon_value, true_and]); rfl); go_simp; refine hK _ ?_; clear hK K)
          (refine wpR_plain ?_ (by rfl) (fun K hK => ?_); (focus (first | (simp only [Region.wanted]; done) | (go_simp; done))); apply Exists.intro; refine ⟨fun W hW => ?_, ?_⟩; (go_simp; (try simp only [plainUpon_value, true_and]); rfl); go_simp; refine hK _ ?_; clear hK K)
          (refine wpR_plain ?_ (by rfl) (fun K hK => ?_); (focus (first | (simp only [Region.wanted]; done) | (go_simp; done))); apply Exists.intro; refine ⟨fun W hW => ?_, ?_⟩; (go_simp; (try simp only [plainUpon_value, true_and]); rfl); go_simp; refine hK _ ?_; clear hK K)
          (refine wpR_plain ?_ (by rfl) (fun K hK => ?_); (focus (first | (simp only [Region.wanted]; done) | (go_simp; done))); apply Exists.intro; refine ⟨fun W hW => ?_, ?_⟩; (go_simp; (try simp only [plainUpon_value, true_and]); rfl); go_simp; refine hK _ ?_; clear hK K)
          (refine wpR_plain ?_ (by rfl) (fun K hK => ?_); (focus (first | (simp only [Region.wanted]; done) | (go_simp; done))); apply Exists.intro; refine ⟨fun W hW => ?_, ?_⟩; (go_simp; (try simp only [plainUpon_value, true_and]); rfl); go_simp; refine hK _ ?_; clear hK K)
          (refine wpR_val (by rfl) ?_ (fun W hW hF => ?_) (fun K hK => ?_); (focus (first | (simp only [Region.wanted]; done) | (go_simp; done))); (go_simp; simp only [relUpon_enter]; exact read_rel W (some (a.add Q)) 4 (c - Q) ((l.drop Q).take 4) U (((hr.drop Q).take 4).below (HW.out W hW)) HLU.out (by decide) HU); go_simp; refine hK _ ?_; clear hK K)
          (refine wpR_plain ?_ (by rfl) (fun K hK => ?_); (focus (first | (simp only [Region.wanted]; done) | (go_simp; done))); apply Exists.intro; refine ⟨fun W hW => ?_, ?_⟩; (go_simp; (try simp only [plainUpon_value, true_and]); rfl); go_simp; refine hK _ ?_; clear hK K)
          (refine wpR_plain ?_ (by rfl) (fun K hK => ?_); (focus (first | (simp only [Region.wanted]; done) | (go_simp; done))); apply Exists.intro; refine ⟨fun W hW => ?_, ?_⟩; (go_simp; (try simp only [plainUpon_value, true_and]); rfl); go_simp; refine hK _ ?_; clear hK K)
          (refine wpR_plain ?_ (by rfl) (fun K hK => ?_); (focus (first | (simp only [Region.wanted]; done) | (go_simp; done))); apply Exists.intro; refine ⟨fun W hW => ?_, ?_⟩; (go_simp; (try simp only [plainUpon_value, true_and]); rfl); go_simp; refine hK _ ?_; clear hK K)
          (refine wpR_plain ?_ (by rfl) (fun K hK => ?_); (focus (first | (simp only [Region.wanted]; done) | (go_simp; done))); apply Exists.intro; refine ⟨fun W hW => ?_, ?_⟩; (go_simp; (try simp only [plainUpon_value, true_and]); rfl); go_simp; refine hK _ ?_; clear hK K)
          (refine wpR_lit (by rfl) ?_ (Nat.le_refl _) ?_; (focus (first | (simp only [Region.wanted]; done) | (go_simp; done))); apply Exists.intro; apply Exists.intro; refine ⟨fun W => ?_, ?_, ?_, fun K g hK => ?_⟩; (go_simp; exact ⟨rfl, rfl⟩); rfl; (simp only [Oper.argv, Op.operands]; go_simp); go_simp; refine hK _ ?_; clear hK K)
          (refine wpR_val (by rfl) ?_ (fun W hW hF => ?_) (fun K hK => ?_); (focus (first | (simp only [Region.wanted]; done) | (go_simp; done))); (go_simp; simp only [relUpon_enter]; obtain ⟨fr, hb⟩ := hF 14 rfl; exact crcof_rel W _ 1 [.slice (some a) Q c] [l.take Q] (hs2W W hW) hb ⟨⟨_, _, by rw [HLX.out], by rw [HLX.out]; omega, (hr.take Q).below (HW.out W hW)⟩, trivial⟩ rfl (by decide) X HXo); go_simp; refine hK _ ?_; clear hK K)
          (refine wpR_plain ?_ (by rfl) (fun K hK => ?_); (focus (first | (simp only [Region.wanted]; done) | (go_simp; done))); apply Exists.intro; refine ⟨fun W hW => ?_, ?_⟩; (go_simp; (try simp only [plainUpon_value, true_and]); rfl); go_simp; refine hK _ ?_; clear hK K)
          by_cases hUX : U = X.toNat
          · have hne : ((U : Int) != (X.toNat : Int)) = false := by simp [hUX]
            have hne3 : ((X.toNat : Int) != (X.toNat : Int)) = false := by simp
            (refine wpR_plain ?_ (by rfl) (fun K hK => ?_); (focus (first | (simp only [Region.wanted]; done) | (go_simp; done))); apply Exists.intro; refine ⟨fun W hW => ?_, ?_⟩; (go_simp; (try simp only [plainUpon_value, true_and]); rfl); go_simp; refine hK _ ?_; clear hK K)
            (refine wpR_plain ?_ (by rfl) (fun K hK => ?_); (focus (first | (simp only [Region.wanted]; done) | (go_simp; done))); apply Exists.intro; refine ⟨fun W hW => ?_, ?_⟩; (go_simp; (try simp only [plainUpon_value, true_and]); rfl); go_simp; refine hK _ ?_; clear hK K)
            refine wpR_nil (fun W hW hF => ?_)
            clear hF
            have hh3 := HC.out W hW
            have k1 : W.cell? ⟨w.heap.size, 0, none⟩ = some (.int .i64 num) := by rw [cell_of_row W w.heap.size 0 _ _ _ hh3]; rfl
            have k2 : W.cell? ⟨w.heap.size, 1, none⟩ = some (.slice AB S cB) := by rw [cell_of_row W w.heap.size 1 _ _ _ hh3]; rfl
            have k3 : W.frozen? ⟨w.heap.size, 0, none⟩ = false := frozen_of_row W w.heap.size 0 _ _ hh3
            have k4 : W.frozen? ⟨w.heap.size, 1, none⟩ = false := frozen_of_row W w.heap.size 1 _ _ hh3
            have hbb := (HW.out W hW)
            have hSl3 : Sl W (.slice AB S cB) ((l.drop 12).take S) := HS2.out.gr ((Gr.of_below (Below.drew (Below.refl _ W2)) (Nat.le_refl _)).trans hW)
            have HH3 := Lib.hid hh3
            have HS3 := Lib.hid hSl3
            clear hW hh3 hSl3
            go_wp2
            ((try simp only [Exit.inBlock, Exit.then]); refine bodyPost_ret_by (by rw [results_cell3 rfl]; go_simp; rfl) rfl ?_)
            rw [HG.out, if_neg (by omega)]
            refine ⟨_, rfl, HS3.out.keep (by rw [HH3.out]; simp) (by intro k _ hk; rw [heap_setCell_other _ _ _ _ hk, heap_setCell_other _ _ _ _ hk]), (hbb.setCell (p := ⟨w.heap.size, 0, none⟩) (Nat.le_refl _) _).setCell (p := ⟨w.heap.size, 1, none⟩) (Nat.le_refl _) _⟩
          · have hne : ((U : Int) != (X.toNat : Int)) = true := by simp; omega
            have hne2 : ((U : Int) == (X.toNat : Int)) = false := by simp; omega
            (refine wpR_plain ?_ (by rfl) (fun K hK => ?_); (focus (first | (simp only [Region.wanted]; done) | (go_simp; done))); apply Exists.intro; refine ⟨fun W hW => ?_, ?_⟩; (go_simp; (try simp only [plainUpon_value, true_and]); rfl); go_simp; refine hK _ ?_; clear hK K)
            (refine wpR_plain ?_ (by rfl) (fun K hK => ?_); (focus (first | (simp only [Region.wanted]; done) | (go_simp; done))); apply Exists.intro; refine ⟨fun W hW => ?_, ?_⟩; (go_simp; (try simp only [plainUpon_value, true_and]); rfl); go_simp; refine hK _ ?_; clear hK K)
            refine wpR_nil (fun W hW hF => ?_)
            clear hF
            have hh3 := HC.out W hW
            have k1 : W.cell? ⟨w.heap.size, 0, none⟩ = some (.int .i64 num) := by rw [cell_of_row W w.heap.size 0 _ _ _ hh3]; rfl
            have k2 : W.cell? ⟨w.heap.size, 1, none⟩ = some (.slice AB S cB) := by rw [cell_of_row W w.heap.size 1 _ _ _ hh3]; rfl
            have k3 : W.frozen? ⟨w.heap.size, 0, none⟩ = false := frozen_of_row W w.heap.size 0 _ _ hh3
            have k4 : W.frozen? ⟨w.heap.size, 1, none⟩ = false := frozen_of_row W w.heap.size 1 _ _ hh3
            have hbb := (HW.out W hW)
            clear hW hh3
            go_wp2
            ((try simp only [Exit.inBlock, Exit.then]); refine bodyPost_ret_by (by rw [results_cell3 rfl]; go_simp; rfl) rfl ?_)
            rw [HG.out, if_pos (.inr hUX)]
            exact ⟨_, rfl, Sl.nil _, (hbb.setCell (p := ⟨w.heap.size, 0, none⟩) (Nat.le_refl _) _).setCell (p := ⟨w.heap.size, 1, none⟩) (Nat.le_refl _) _⟩
end Go.Proofs.Ytbpecfbliglboaa
