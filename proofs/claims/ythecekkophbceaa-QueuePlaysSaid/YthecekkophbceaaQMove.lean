/- Move and Ready. -/
import Derived.Test.YthecekkophbceaaQCloses
import Derived.LaidEqlPtr
namespace Go.Proofs.Ythecekkophbceaa
open Go.RowKit Go.Conc
set_option linter.unusedVariables false
set_option linter.unusedSimpArgs false
attribute [local irreducible] wpR relOp
theorem closed_rel {B : Nat} (w : World) (g ch cap : Nat) (ls : List (List UInt8)) (closed : Bool) (h : Qu w g ch cap ls closed) :
    Calls Try.prog 14 #[.pointer (some ⟨g, 0, none⟩)] w fun e w' => ∃ v, e = .returned v ∧ Gr B w w' ∧ v = .bool closed := by
  refine (closed_any w g ch cap ls closed h).mono ?_
  rintro e w1 ⟨rfl, rfl⟩
  exact ⟨_, rfl, Gr.refl _ _, rfl⟩
theorem len_rel {B : Nat} (w : World) (g ch cap : Nat) (ls : List (List UInt8)) (closed : Bool) (h : Qu w g ch cap ls closed) (n : Nat) (hn : n = ls.length) :
    Calls Try.prog 12 #[.pointer (some ⟨g, 0, none⟩)] w fun e w' => ∃ v, e = .returned v ∧ Gr B w w' ∧ v = .int .i64 n := by
  subst hn
  refine (len_any w g ch cap ls closed h).mono ?_
  rintro e w1 ⟨rfl, rfl⟩
  exact ⟨_, rfl, Gr.refl _ _, rfl⟩
def mvTbl (n1 : Nat) (cl2 : Bool) (n2 : Nat) : Nat → Option Sp
  | 5 => some (.val (.int .i64 n1))
  | 10 => some (.val (.bool cl2))
  | 14 => some (.val (.int .i64 n2))
  | _ => none
theorem info_q : ∃ j, Try.prog.info? 49 = some j ∧ j.size ≠ 0 := by
  have h : (Try.prog.info? 49).map (·.size) = some 2 := by rfl
  obtain ⟨i, hi, hb⟩ := Option.map_eq_some_iff.1 h
  exact ⟨i, hi, by rw [hb]; decide⟩
theorem ptr_same (W : World) (g : Nat) : (binOp .eql 24 (.pointer (some ⟨g, 0, none⟩)) (.pointer (some ⟨g, 0, none⟩))).run Try.prog W = .ok (.bool true) W := by
  obtain ⟨j, hj, _⟩ := info_q
  exact run_eql_ptr_same W _ Try.underlying24 hj
theorem ptr_ne {W : World} {g1 ch1 cap1 g2 ch2 cap2 : Nat} {ls1 ls2 : List (List UInt8)} {cl1 cl2 : Bool} (h1 : Qu W g1 ch1 cap1 ls1 cl1) (h2 : Qu W g2 ch2 cap2 ls2 cl2) (hne : g1 ≠ g2) :
    (binOp .eql 24 (.pointer (some ⟨g1, 0, none⟩)) (.pointer (some ⟨g2, 0, none⟩))).run Try.prog W = .ok (.bool false) W := by
  obtain ⟨j, hj, hz⟩ := info_q
  exact run_eql_ptr_other W Try.underlying24 hj hz (by intro e; injection e with e; exact hne e) h1.st h2.st
theorem gr_below {w W : World} (hW : Gr w.heap.size w.drew W) : Below w.heap.size w W := Below.trans (Below.drew (Below.refl w.heap.size w)) hW.1
/-- Move of a queue to itself -/
theorem move_self (w : World) (g : Nat) :
    Calls Try.prog 15 #[.pointer (some ⟨g, 0, none⟩), .pointer (some ⟨g, 0, none⟩)] w fun e w' => e = .returned (.bool false) ∧ Below w.heap.size w w' := by
  have HC : Hid (∀ W, Gr w.heap.size w.drew W → (binOp .eql 24 (.pointer (some ⟨g, 0, none⟩)) (.pointer (some ⟨g, 0, none⟩))).run Try.prog W = .ok (.bool true) W) := Lib.hid fun W _ => ptr_same W g
  go_enter Try.func15, Try.ntmps15
  go_wp2_with fail
  refine wp_region_tbl _ (fun _ => none) (w.heap.size) (by kernel_rfl) (by kernel_rfl) (by kernel_rfl) ?_
  repeat (first
    | (refine wpR_plain ?_ (by rfl) (fun K hK => ?_); (focus (first | (simp only [Region.wanted]; done) | (go_simp; done))); apply Exists.intro; refine ⟨fun W hW => ?_, ?_⟩; (go_simp; (try simp only [plainUpon_value, true_and]); rfl); go_simp; refine hK _ ?_; clear hK K)
    | (refine wpR_plain ?_ (by rfl) (fun K hK => ?_); (focus (first | (simp only [Region.wanted]; done) | (go_simp; done))); apply Exists.intro; refine ⟨fun W hW => ?_, ?_⟩; (have hcw := HC.out W hW; go_simp; (try simp only [plainUpon_value, true_and]); rfl); go_simp; refine hK _ ?_; clear hK K)
    | (refine wpR_skip ?_ (fun K hK => ?_); (focus (first | (simp only [Region.wanted]; done) | (go_simp; done))); go_simp; refine hK _ ?_; clear hK K))
  refine wpR_nil (fun W hW hF => ?_)
  have hbW := gr_below hW
  clear hF hW
  go_wp2
  go_ret
  exact ⟨rfl, hbW⟩
/-- what Move reads of the two -/
theorem mv_facts {w : World} {g1 ch1 cap1 g2 ch2 cap2 : Nat} {ls1 ls2 : List (List UInt8)} {cl1 cl2 : Bool} (h1 : Qu w g1 ch1 cap1 ls1 cl1) (h2 : Qu w g2 ch2 cap2 ls2 cl2) (hne : g1 ≠ g2) :
    Hid (∀ W, Gr w.heap.size w.drew W → (binOp .eql 24 (.pointer (some ⟨g1, 0, none⟩)) (.pointer (some ⟨g2, 0, none⟩))).run Try.prog W = .ok (.bool false) W ∧ W.cell? ⟨g2, 0, none⟩ = some (.chan (some ch2)) ∧ ∀ ty, (Builtin.cap_ #[47] ty #[.chan (some ch2)]).run Try.prog W = .ok (goInt cap2) W) :=
  Lib.hid fun W hW => by
    have q1 := h1.below (gr_below hW)
    have q2 := h2.below (gr_below hW)
    obtain ⟨b, s, r, h3, _⟩ := q2.buf
    exact ⟨ptr_ne q1 q2 hne, q2.cells.1, fun ty => run_cap_chan (P := Try.prog) 47 ty Try.underlying47 h3⟩
theorem move_none (w : World) (g1 ch1 cap1 g2 ch2 cap2 : Nat) (ls2 : List (List UInt8)) (cl1 cl2 : Bool) (h1 : Qu w g1 ch1 cap1 [] cl1) (h2 : Qu w g2 ch2 cap2 ls2 cl2) (hne : g1 ≠ g2) :
    Calls Try.prog 15 #[.pointer (some ⟨g1, 0, none⟩), .pointer (some ⟨g2, 0, none⟩)] w fun e w' => e = .returned (.bool false) ∧ Below w.heap.size w w' := by
  have HC := mv_facts h1 h2 hne
  have HQ1 := Lib.hid h1
  clear h1 h2
  go_enter Try.func15, Try.ntmps15
  go_wp2_with fail
  refine wp_region_tbl _ (mvTbl 0 false 0) (w.heap.size) (by kernel_rfl) (by kernel_rfl) (by kernel_rfl) ?_
  repeat (first
    | (refine wpR_plain ?_ (by rfl) (fun K hK => ?_); (focus (first | (simp only [Region.wanted]; done) | (go_simp; done))); apply Exists.intro; refine ⟨fun W hW => ?_, ?_⟩; (go_simp; (try simp only [plainUpon_value, true_and]); rfl); go_simp; refine hK _ ?_; clear hK K)
    | (refine wpR_plain ?_ (by rfl) (fun K hK => ?_); (focus (first | (simp only [Region.wanted]; done) | (go_simp; done))); apply Exists.intro; refine ⟨fun W hW => ?_, ?_⟩; (have hcw := HC.out W hW; go_simp; (try simp only [plainUpon_value, true_and]); rfl); go_simp; refine hK _ ?_; clear hK K)
    | (refine wpR_skip ?_ (fun K hK => ?_); (focus (first | (simp only [Region.wanted]; done) | (go_simp; done))); go_simp; refine hK _ ?_; clear hK K)
    | (refine wpR_val (by rfl) ?_ (fun W hW hF => ?_) (fun K hK => ?_); (focus (first | (simp only [Region.wanted]; done) | (go_simp; done))); (go_simp; simp only [relUpon_enter]; exact len_rel W g1 ch1 cap1 [] cl1 (HQ1.out.below (gr_below hW)) 0 rfl); go_simp; refine hK _ ?_; clear hK K))
  refine wpR_nil (fun W hW hF => ?_)
  have hbW := gr_below hW
  clear hF hW
  go_wp2
  go_ret
  exact ⟨rfl, hbW⟩
theorem move_closed (w : World) (g1 ch1 cap1 g2 ch2 cap2 n : Nat) (ls1 ls2 : List (List UInt8)) (cl1 : Bool) (h1 : Qu w g1 ch1 cap1 ls1 cl1) (h2 : Qu w g2 ch2 cap2 ls2 true) (hne : g1 ≠ g2) (hn : n = ls1.length) (hp : 0 < n) :
    Calls Try.prog 15 #[.pointer (some ⟨g1, 0, none⟩), .pointer (some ⟨g2, 0, none⟩)] w fun e w' => e = .returned (.bool false) ∧ Below w.heap.size w w' := by
  have HC := mv_facts h1 h2 hne
  have HQ1 := Lib.hid h1; have HQ2 := Lib.hid h2; have HN := Lib.hid hn
  have hz : ((n : Int) == 0) = false := by rw [beq_eq_false_iff_ne]; omega
  clear h1 h2 hn hp
  go_enter Try.func15, Try.ntmps15
  go_wp2_with fail
  refine wp_region_tbl _ (mvTbl n true 0) (w.heap.size) (by kernel_rfl) (by kernel_rfl) (by kernel_rfl) ?_
  repeat (first
    | (refine wpR_plain ?_ (by rfl) (fun K hK => ?_); (focus (first | (simp only [Region.wanted]; done) | (go_simp; done))); apply Exists.intro; refine ⟨fun W hW => ?_, ?_⟩; (go_simp; (try simp only [plainUpon_value, true_and]); rfl); go_simp; refine hK _ ?_; clear hK K)
    | (refine wpR_plain ?_ (by rfl) (fun K hK => ?_); (focus (first | (simp only [Region.wanted]; done) | (go_simp; done))); apply Exists.intro; refine ⟨fun W hW => ?_, ?_⟩; (have hcw := HC.out W hW; go_simp; (try simp only [plainUpon_value, true_and]); rfl); go_simp; refine hK _ ?_; clear hK K)
    | (refine wpR_skip ?_ (fun K hK => ?_); (focus (first | (simp only [Region.wanted]; done) | (go_simp; done))); go_simp; refine hK _ ?_; clear hK K)
    | (refine wpR_val (by rfl) ?_ (fun W hW hF => ?_) (fun K hK => ?_); (focus (first | (simp only [Region.wanted]; done) | (go_simp; done))); (go_simp; simp only [relUpon_enter]; exact len_rel W g1 ch1 cap1 ls1 cl1 (HQ1.out.below (gr_below hW)) n HN.out); go_simp; refine hK _ ?_; clear hK K)
    | (refine wpR_val (by rfl) ?_ (fun W hW hF => ?_) (fun K hK => ?_); (focus (first | (simp only [Region.wanted]; done) | (go_simp; done))); (go_simp; simp only [relUpon_enter]; exact closed_rel W g2 ch2 cap2 ls2 true (HQ2.out.below (gr_below hW))); go_simp; refine hK _ ?_; clear hK K))
  refine wpR_nil (fun W hW hF => ?_)
  have hbW := gr_below hW
  clear hF hW
  go_wp2
  go_ret
  exact ⟨rfl, hbW⟩
theorem move_full (w : World) (g1 ch1 cap1 g2 ch2 n m : Nat) (ls1 ls2 : List (List UInt8)) (cl1 : Bool) (h1 : Qu w g1 ch1 cap1 ls1 cl1) (h2 : Qu w g2 ch2 m ls2 false) (hne : g1 ≠ g2) (hn : n = ls1.length) (hp : 0 < n) (hm : m = ls2.length) :
    Calls Try.prog 15 #[.pointer (some ⟨g1, 0, none⟩), .pointer (some ⟨g2, 0, none⟩)] w fun e w' => e = .returned (.bool false) ∧ Below w.heap.size w w' := by
  have HC := mv_facts h1 h2 hne
  have HQ1 := Lib.hid h1; have HQ2 := Lib.hid h2; have HN := Lib.hid hn; have HM := Lib.hid hm
  have hz : ((n : Int) == 0) = false := by rw [beq_eq_false_iff_ne]; omega
  clear h1 h2 hn hp hm
  go_enter Try.func15, Try.ntmps15
  go_wp2_with fail
  refine wp_region_tbl _ (mvTbl n false m) (w.heap.size) (by kernel_rfl) (by kernel_rfl) (by kernel_rfl) ?_
  repeat (first
    | (refine wpR_plain ?_ (by rfl) (fun K hK => ?_); (focus (first | (simp only [Region.wanted]; done) | (go_simp; done))); apply Exists.intro; refine ⟨fun W hW => ?_, ?_⟩; (go_simp; (try simp only [plainUpon_value, true_and]); rfl); go_simp; refine hK _ ?_; clear hK K)
    | (refine wpR_plain ?_ (by rfl) (fun K hK => ?_); (focus (first | (simp only [Region.wanted]; done) | (go_simp; done))); apply Exists.intro; refine ⟨fun W hW => ?_, ?_⟩; (have hcw := HC.out W hW; go_simp; (try simp only [plainUpon_value, true_and]); rfl); go_simp; refine hK _ ?_; clear hK K)
    | (refine wpR_skip ?_ (fun K hK => ?_); (focus (first | (simp only [Region.wanted]; done) | (go_simp; done))); go_simp; refine hK _ ?_; clear hK K)
    | (refine wpR_val (by rfl) ?_ (fun W hW hF => ?_) (fun K hK => ?_); (focus (first | (simp only [Region.wanted]; done) | (go_simp; done))); (go_simp; simp only [relUpon_enter]; exact len_rel W g1 ch1 cap1 ls1 cl1 (HQ1.out.below (gr_below hW)) n HN.out); go_simp; refine hK _ ?_; clear hK K)
    | (refine wpR_val (by rfl) ?_ (fun W hW hF => ?_) (fun K hK => ?_); (focus (first | (simp only [Region.wanted]; done) | (go_simp; done))); (go_simp; simp only [relUpon_enter]; exact closed_rel W g2 ch2 m ls2 false (HQ2.out.below (gr_below hW))); go_simp; refine hK _ ?_; clear hK K)
    | (refine wpR_val (by rfl) ?_ (fun W hW hF => ?_) (fun K hK => ?_); (focus (first | (simp only [Region.wanted]; done) | (go_simp; done))); (go_simp; simp only [relUpon_enter]; exact len_rel W g2 ch2 m ls2 false (HQ2.out.below (gr_below hW)) m HM.out); go_simp; refine hK _ ?_; clear hK K))
  refine wpR_nil (fun W hW hF => ?_)
  have hbW := gr_below hW
  clear hF hW
  go_wp2
  go_ret
  exact ⟨rfl, hbW⟩
theorem move_yes (w : World) (g1 ch1 cap1 g2 ch2 cap2 n m : Nat) (l : List UInt8) (ls1 ls2 : List (List UInt8)) (cl1 : Bool) (h1 : Qu w g1 ch1 cap1 (l :: ls1) cl1) (h2 : Qu w g2 ch2 cap2 ls2 false) (hne : g1 ≠ g2) (hn : n = ls1.length + 1) (hm : m = ls2.length) (hmc : m < cap2) (hcc : ch1 ≠ ch2) (hl : l.length ≤ 140737488351232) :
    Calls Try.prog 15 #[.pointer (some ⟨g1, 0, none⟩), .pointer (some ⟨g2, 0, none⟩)] w fun e w' => e = .returned (.bool true) ∧ Qu w' g1 ch1 cap1 ls1 cl1 ∧ Qu w' g2 ch2 cap2 (ls2 ++ [l]) false ∧ Chg (fun k => k = ch1 ∨ k = ch2) w w' := by
  have HC := mv_facts h1 h2 hne
  have HQ1 := Lib.hid h1; have HQ2 := Lib.hid h2; have HN := Lib.hid hn; have HM := Lib.hid hm
  have hz : ((n : Int) == 0) = false := by rw [beq_eq_false_iff_ne]; omega
  have hz2 : ((m : Int) == cap2) = false := by rw [beq_eq_false_iff_ne]; omega
  clear h1 h2 hn hm
  go_enter Try.func15, Try.ntmps15
  go_wp2_with fail
  refine wp_region_tbl _ (mvTbl n false m) (w.heap.size) (by kernel_rfl) (by kernel_rfl) (by kernel_rfl) ?_
  repeat (first
    | (refine wpR_plain ?_ (by rfl) (fun K hK => ?_); (focus (first | (simp only [Region.wanted]; done) | (go_simp; done))); apply Exists.intro; refine ⟨fun W hW => ?_, ?_⟩; (go_simp; (try simp only [plainUpon_value, true_and]); rfl); go_simp; refine hK _ ?_; clear hK K)
    | (refine wpR_plain ?_ (by rfl) (fun K hK => ?_); (focus (first | (simp only [Region.wanted]; done) | (go_simp; done))); apply Exists.intro; refine ⟨fun W hW => ?_, ?_⟩; (have hcw := HC.out W hW; go_simp; (try simp only [plainUpon_value, true_and]); rfl); go_simp; refine hK _ ?_; clear hK K)
    | (refine wpR_skip ?_ (fun K hK => ?_); (focus (first | (simp only [Region.wanted]; done) | (go_simp; done))); go_simp; refine hK _ ?_; clear hK K)
    | (refine wpR_val (by rfl) ?_ (fun W hW hF => ?_) (fun K hK => ?_); (focus (first | (simp only [Region.wanted]; done) | (go_simp; done))); (go_simp; simp only [relUpon_enter]; exact len_rel W g1 ch1 cap1 (l :: ls1) cl1 (HQ1.out.below (gr_below hW)) n HN.out); go_simp; refine hK _ ?_; clear hK K)
    | (refine wpR_val (by rfl) ?_ (fun W hW hF => ?_) (fun K hK => ?_); (focus (first | (simp only [Region.wanted]; done) | (go_simp; done))); (go_simp; simp only [relUpon_enter]; exact closed_rel W g2 ch2 cap2 ls2 false (HQ2.out.below (gr_below hW))); go_simp; refine hK _ ?_; clear hK K)
    | (refine wpR_val (by rfl) ?_ (fun W hW hF => ?_) (fun K hK => ?_); (focus (first | (simp only [Region.wanted]; done) | (go_simp; done))); (go_simp; simp only [relUpon_enter]; exact len_rel W g2 ch2 cap2 ls2 false (HQ2.out.below (gr_below hW)) m HM.out); go_simp; refine hK _ ?_; clear hK K))
  refine wpR_nil (fun W hW hF => ?_)
  have hbW := gr_below hW
  have HTake := Lib.hid (take_any W g1 ch1 cap1 l ls1 cl1 (HQ1.out.below hbW))
  have HQ2W := Lib.hid (HQ2.out.below hbW)
  have HBW := Lib.hid hbW
  clear hF hW hbW hz hz2
  go_wp2_with fail
  refine HTake.out.mono ?_
  rintro e w2 ⟨v, rfl, hs, hq1, hc1⟩
  obtain ⟨A3, c3, rfl, _, hr3⟩ := hs.rd
  have hgc : g2 ≠ ch1 := by
    intro e
    obtain ⟨b, s, r, h3, _⟩ := HQ1.out.buf
    have := HQ2.out.st
    rw [e, h3] at this
    injection this with this
    cases this
  have hgc1 : g1 ≠ ch2 := by
    intro e
    obtain ⟨b, s, r, h3, _⟩ := HQ2.out.buf
    have := HQ1.out.st
    rw [e, h3] at this
    injection this with this
    cases this
  have hq2 := HQ2W.out.chg hc1 hgc (fun e => hcc e.symm) (HQ1.out.below HBW.out).not8c
  have hput := put_any w2 g2 ch2 cap2 ls2 false hq2 A3 c3 l hr3 hl
  rw [show may cap2 ls2 false = true by have := HM.out; simp [may]; omega, if_pos rfl] at hput
  have HPut := Lib.hid hput; have HQ1b := Lib.hid hq1; have HC1 := Lib.hid ((Chg.of_below HBW.out).trans hc1); have HQ2b := Lib.hid hq2
  clear hs hr3 hq1 hc1 hq2 hput
  go_wp2_with fail
  refine HPut.out.mono ?_
  rintro e w3 ⟨rfl, hq2c, hc2⟩
  have hq1c := HQ1b.out.chg hc2 hgc1 hcc HQ2b.out.not8c
  have HR := Lib.hid (And.intro hq1c (And.intro hq2c ((HC1.out.imp (T := fun k => k = ch1 ∨ k = ch2) fun k hk => .inl hk).trans (hc2.imp fun k hk => .inr hk))))
  clear hq2c hc2 hq1c
  go_wp2
  go_ret
  exact ⟨rfl, HR.out.1, HR.out.2.1, HR.out.2.2⟩
end Go.Proofs.Ythecekkophbceaa
