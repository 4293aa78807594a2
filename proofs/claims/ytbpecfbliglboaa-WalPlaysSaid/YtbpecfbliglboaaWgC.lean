/- Contracts that are proved one after the other (WBase, WAll, WalHl, WLaw, WAw, WFull, WLw2, WKeeps, WKnown). -/
import Derived.Test.YtbpecfbliglboaaWgB
import Derived.Test.YtbpecfbliglboaaStr
import Derived.Test.YtbpecfbliglboaaOpen
/- wal: Base, Free. -/
namespace Go.Proofs.Ytbpecfbliglboaa
open Go.RowKit
set_option linter.unusedVariables false
set_option linter.unusedSimpArgs false
attribute [local irreducible] Stu.wpR Stu.relOp wpR relOp
theorem Sl.takeW {w : World} {A : Option Addr} {n c : Nat} {l : List UInt8} (h : Sl w (.slice A n c) l) (k : Nat) (hk : k ≤ n) : Rd w A (l.take k) := (Sl.rd_eq h).1.take k
set_option maxRecDepth 20000 in
set_option maxHeartbeats 4000000 in
theorem wbase_any {w0 w : World} {B g gl : Nat} {d : DevMath.Dev} {x : WalMath.Lg} {dn : Bool} (h : LS w0 w B g gl d x dn) (hb : x.base ≤ x.buf.length) (hl : x.buf.length ≤ 1000000000) :
    Calls Try.prog 37 #[.pointer (some ⟨gl, 0, none⟩)] w fun e w' => ∃ v, e = .returned v ∧ Sl w' v (x.buf.take x.base) ∧ Below w.heap.size w w' := by
  obtain ⟨vb, va, hh, hgl, hsb, hsa, hd⟩ := h
  obtain ⟨Ab, cb, rfl, hcb, hrb⟩ := hsb.rd
  obtain ⟨nb, hnb⟩ : ∃ nb, nb = x.buf.length := ⟨_, rfl⟩
  rw [← hnb] at hh hcb hb hl hsb
  have hbs9 : x.base ≤ 9223372036854775807 := by omega
  obtain ⟨bs, hbs⟩ : ∃ bs, bs = x.base := ⟨_, rfl⟩
  have HTK : Hid ((x.buf.take bs).length = bs) := Lib.hid (by rw [List.length_take, ← hnb, hbs]; omega)
  rw [← hbs] at hh hb hbs9 ⊢
  have hbI : (bs : Int) ≤ (cb : Int) := by omega
  have hbI2 : (bs : Int) ≤ 9223372036854775807 := by omega
  have HRB := Lib.hid hrb; have HH := Lib.hid hh
  obtain ⟨bt, hbt⟩ : ∃ bt, bt = x.buf.take bs := ⟨_, rfl⟩
  rw [← hbt] at HTK ⊢
  have HBT := Lib.hid hbt
  clear hbt hnb hbs hrb hh hsb hsa hd
  go_enter Try.func37, Try.ntmps37
  go_wp2_with fail
  have HC : Hid (∀ W, Gb w.drew W → W.cell? ⟨gl, 3, none⟩ = some (.slice Ab nb cb) ∧ W.cell? ⟨gl, 2, none⟩ = some (.int .i64 bs)) := Lib.hid fun W hW => by
    have e4 : W.heap[gl]? = some _ := (Below.block hW gl (Array.getElem?_eq_some_iff.1 (show w.drew.heap[gl]? = _ from HH.out)).1).trans HH.out
    exact ⟨by rw [cell_of_row _ gl 3 _ _ _ e4]; rfl, by rw [cell_of_row _ gl 2 _ _ _ e4]; rfl⟩
  have HRW : Hid (∀ W, Gb w.drew W → Rd W Ab bt) := Lib.hid fun W hW => by
    rw [HBT.out]
    exact ((HRB.out.below (Below.drew (Below.refl _ w))).below hW).take bs
  refine Stu.wp_region_stu _ (Stu.mkT [(9, clG bs bt)]) (fun _ => True) [] Gb.refl Gb.trans (fun _ _ h => h) (fun _ _ _ _ => trivial) trivial (Stu.mkT_ks _ (by show List.Nodup [9]; decide) _ rfl) (by kernel_rfl) (by kernel_rfl) (by kernel_rfl) ?_
  repeat (first
    | (refine Stu.wpR_plain ?_ (by rfl) (by rfl) (fun K hK => ?_); (focus (first | (simp only [Region.wanted]; done) | (go_simp; done))); apply Exists.intro; refine ⟨fun W hW => ?_, ?_⟩; (go_simp; (try simp only [Stu.plainUpon_value, true_and]); rfl); go_simp; refine hK _ ?_; clear hK K)
    | (refine Stu.wpR_plain ?_ (by rfl) (by rfl) (fun K hK => ?_); (focus (first | (simp only [Region.wanted]; done) | (go_simp; done))); apply Exists.intro; refine ⟨fun W hW => ?_, ?_⟩; (have hcw := HC.out W hW; go_simp; (try simp only [Stu.plainUpon_value, true_and]); rfl); go_simp; refine hK _ ?_; clear hK K)
    | (refine Stu.wpR_spg (by rfl) (by rfl) ?_ ?_ (fun W hW hF => ?_) (fun K v hv hK => ?_); (focus (first | (simp only [Region.wanted]; done) | (go_simp; done))); (focus (exact ⟨_, none, _, rfl, Nat.le_refl _⟩)); (go_simp; simp only [Stu.relUpon_enter]; exact clG_rel W Ab bs cb bt HTK.out.symm (by omega) (HRW.out W hW) _); (obtain ⟨A6, c6, rfl, hc6⟩ := hv); go_simp; refine hK _ ?_; clear hK K))
  refine Stu.wpR_nil (fun W hW hU hF => ?_)
  have HB := Lib.hid (Below.trans (Below.drew (Below.refl _ w)) hW)
  have HS := Lib.hid (show Sl W (.slice A6 bs c6) bt from hF 9)
  clear hW hU hF HC HRW
  go_wp2_with fail
  go_ret
  exact ⟨_, rfl, HS.out, HB.out⟩
def sizeI (num : Int) (m : Nat) : Int := if 1 ≤ num ∧ m ≤ 200000 then 16 + m else 0
theorem size_any (num : Int) (B : Option Addr) (m c : Nat) (w : World) (wf : (Lit.int .i64 num).wf = true) (hm : m ≤ 140737488351232) :
    Calls Try.prog 58 #[.agg #[.int .i64 num, .slice B m c]] w fun e w' => e = .returned (.int .i64 (sizeI num m)) ∧ Below w.heap.size w w' := by
  obtain ⟨W0, hW0, hB0, hs0, hbx⟩ := box2 w (.int .i64 num) (.slice B m c) 91
  have h0 := hbx W0 (Below.refl _ _)
  have hgo := good_any num B m c W0 wf hm
  unfold sizeI
  by_cases h : 1 ≤ num ∧ m ≤ 200000
  · rw [decide_eq_true h] at hgo
    rw [if_pos h]
    clear h
    go_enter Try.func58, Try.ntmps58
    go_wp2_with fail
    rw [← hW0]
    clear hW0
    refine hgo.mono ?_
    rintro e w1 ⟨rfl, hb1⟩
    have hx1 := hbx w1 hb1
    have HB1 := Lib.hid (below_then hB0 (by omega) hb1)
    have hw : IntKind.i64.wrap (16 + (m : Int)) = 16 + m := by rw [IntKind.wrap_i64]; omega
    have hw2 : IntKind.i64.wrap ((m : Int) + 16) = 16 + m := by rw [IntKind.wrap_i64]; omega
    clear hb1 hbx hgo
    go_wp2
    go_ret
    exact ⟨rfl, HB1.out⟩
  · rw [decide_eq_false h] at hgo
    rw [if_neg h]
    clear h
    go_enter Try.func58, Try.ntmps58
    go_wp2_with fail
    rw [← hW0]
    clear hW0
    refine hgo.mono ?_
    rintro e w1 ⟨rfl, hb1⟩
    have HB1 := Lib.hid (below_then hB0 (by omega) hb1)
    clear hb1 hbx hgo
    go_wp2
    go_ret
    exact ⟨rfl, HB1.out⟩
def viS (k : Int) : Stu.SpU Gb Gb := ⟨false, fun _ v => v = .int .i64 k, fun _ _ _ => True, fun _ _ => True, fun _ _ _ _ _ _ => trivial, fun _ _ _ _ _ => trivial⟩
def freeN (n : Nat) (x : WalMath.Lg) : Nat := min (WalMath.room n - (x.buf.length + 16)) 200000
set_option maxRecDepth 20000 in
theorem wfree_off {w0 w : World} {B g gl : Nat} {d : DevMath.Dev} {x : WalMath.Lg} (h : LS w0 w B g gl d x true) :
    Calls Try.prog 39 #[.pointer (some ⟨gl, 0, none⟩)] w fun e w' => e = .returned (.int .i64 0) ∧ w' = w := by
  obtain ⟨vb, va, hh, _⟩ := h
  have k5 : w.cell? ⟨gl, 5, none⟩ = some (.bool true) := by rw [cell_of_row _ gl 5 _ _ _ hh]; rfl
  clear hh
  go_enter Try.func39, Try.ntmps39
  go_wp2
  go_ret
  exact ⟨rfl, rfl⟩
set_option maxRecDepth 20000 in
set_option maxHeartbeats 4000000 in
theorem wfree_any {w0 w : World} {B g gl : Nat} {d : DevMath.Dev} {x : WalMath.Lg} (h : LS w0 w B g gl d x false) (h1 : 1 ≤ d.sectors) (h2 : d.sectors ≤ 8192) (hl : x.buf.length ≤ 1000000000) :
    Calls Try.prog 39 #[.pointer (some ⟨gl, 0, none⟩)] w fun e w' => e = .returned (.int .i64 (freeN d.sectors x)) ∧ Below w.heap.size w w' := by
  have hroom : WalMath.room d.sectors ≤ 2097152 := by unfold WalMath.room WalMath.size; omega
  obtain ⟨vb, va, hh, hgl, hsb, hsa, hd⟩ := h
  obtain ⟨Ab, cb, rfl, hcb, hrb⟩ := hsb.rd
  have hfd : freeN d.sectors x = min (WalMath.room d.sectors - (x.buf.length + 16)) 200000 := rfl
  rw [hfd]
  obtain ⟨nb, hnb⟩ : ∃ nb, nb = x.buf.length := ⟨_, rfl⟩
  rw [← hnb] at hh hl ⊢
  have hro : ∀ W, Below w.heap.size w W → Calls Try.prog 55 #[.pointer (some ⟨g, 0, none⟩)] W fun e w' => e = .returned (.int .i64 (WalMath.room d.sectors)) ∧ w' = W := fun W hW => wroom_any (hd.below hW) h1 h2
  obtain ⟨rm, hrm⟩ : ∃ rm, rm = WalMath.room d.sectors := ⟨_, rfl⟩
  rw [← hrm] at hro hroom ⊢
  have k5 : w.cell? ⟨gl, 5, none⟩ = some (.bool false) := by rw [cell_of_row _ gl 5 _ _ _ hh]; rfl
  have hw1 : IntKind.i64.wrap ((rm : Int) - (nb : Int)) = (rm : Int) - nb := by rw [IntKind.wrap_i64]; omega
  have hw2 : IntKind.i64.wrap ((rm : Int) - (nb : Int) - 16) = (rm : Int) - nb - 16 := by rw [IntKind.wrap_i64]; omega
  have HRO := Lib.hid hro; have HH := Lib.hid hh
  obtain ⟨lf, hlf⟩ : ∃ lf : Int, lf = (rm : Int) - nb - 16 := ⟨_, rfl⟩
  obtain ⟨fr, hfr⟩ : ∃ fr, fr = min (rm - (nb + 16)) 200000 := ⟨_, rfl⟩
  rw [← hfr]
  have HW2 := Lib.hid hw2
  have HLF := Lib.hid hlf; have HFR := Lib.hid hfr
  clear hfd hnb hrm hro hh hsb hsa hd hrb hlf hfr hw2
  go_enter Try.func39, Try.ntmps39
  go_wp2_with fail
  have HC : Hid (∀ W, Gb w.drew W → W.cell? ⟨gl, 0, none⟩ = some (.pointer (some ⟨g, 0, none⟩)) ∧ W.cell? ⟨gl, 3, none⟩ = some (.slice Ab nb cb)) := Lib.hid fun W hW => by
    have e4 : W.heap[gl]? = some _ := (Below.block hW gl (Array.getElem?_eq_some_iff.1 (show w.drew.heap[gl]? = _ from HH.out)).1).trans HH.out
    exact ⟨by rw [cell_of_row _ gl 0 _ _ _ e4]; rfl, by rw [cell_of_row _ gl 3 _ _ _ e4]; rfl⟩
  have HBW : Hid (∀ W, Gb w.drew W → Below w.heap.size w W) := Lib.hid fun W hW => Below.trans (Below.drew (Below.refl _ w)) hW
  refine Stu.wp_region_stu _ (Stu.mkT [(4, viS rm), (12, viS 16)]) (fun _ => True) [] Gb.refl Gb.trans (fun _ _ h => h) (fun _ _ _ _ => trivial) trivial (Stu.mkT_ks _ (by show List.Nodup [4, 12]; decide) _ rfl) (by kernel_rfl) (by kernel_rfl) (by kernel_rfl) ?_
  repeat (first
    | (refine Stu.wpR_plain ?_ (by rfl) (by rfl) (fun K hK => ?_); (focus (first | (simp only [Region.wanted]; done) | (go_simp; done))); apply Exists.intro; refine ⟨fun W hW => ?_, ?_⟩; (go_simp; (try simp only [Stu.plainUpon_value, true_and]); rfl); go_simp; refine hK _ ?_; clear hK K)
    | (refine Stu.wpR_plain ?_ (by rfl) (by rfl) (fun K hK => ?_); (focus (first | (simp only [Region.wanted]; done) | (go_simp; done))); apply Exists.intro; refine ⟨fun W hW => ?_, ?_⟩; (have hcw := HC.out W hW; go_simp; (try simp only [Stu.plainUpon_value, true_and]); rfl); go_simp; refine hK _ ?_; clear hK K)
    | (refine Stu.wpR_spg (by rfl) (by rfl) ?_ ?_ (fun W hW hF => ?_) (fun K v hv hK => ?_); (focus (first | (simp only [Region.wanted]; done) | (go_simp; done))); (focus (exact ⟨_, rfl⟩)); (go_simp; simp only [Stu.relUpon_enter]; refine (HRO.out W (HBW.out W hW)).mono ?_; rintro e w9 ⟨rfl, rfl⟩; exact ⟨_, rfl, Gb.refl _, rfl, trivial⟩); (cases hv); go_simp; refine hK _ ?_; clear hK K)
    | (refine Stu.wpR_spg (by rfl) (by rfl) ?_ ?_ (fun W hW hF => ?_) (fun K v hv hK => ?_); (focus (first | (simp only [Region.wanted]; done) | (go_simp; done))); (focus (exact ⟨_, rfl⟩)); (go_simp; simp only [Stu.relUpon_enter]; refine (size_any 1 none 0 0 W (by decide) (by decide)).mono ?_; rintro e w9 ⟨rfl, hb9⟩; exact ⟨_, rfl, hb9, rfl, trivial⟩); (cases hv); go_simp; refine hK _ ?_; clear hK K))
  refine Stu.wpR_nil (fun W hW hU hF => ?_)
  have HB := Lib.hid (HBW.out W hW)
  clear hW hU hF HC HBW
  go_wp2
  all_goals
    go_ret
    refine ⟨ret_int ?_, HB.out⟩
    have hk2 : fr = min (rm - (nb + 16)) 200000 := HFR.out
    have hk3 := HW2.out
    generalize IntKind.i64.wrap ((rm : Int) - (nb : Int) - 16) = wv at *
    omega
end Go.Proofs.Ytbpecfbliglboaa
/- wal: All: the records, copied. -/
namespace Go.Proofs.Ytbpecfbliglboaa
open Go.RowKit Go.Maps
set_option linter.unusedVariables false
set_option linter.unusedSimpArgs false
/-- a row of slices of bytes of one's own -/
def Bso (w : World) (base : Nat) (v : Value) (rs : List (List UInt8)) : Prop := ∃ xs, w.ownsRow base 33 1 v rs.length xs ∧ BsC w xs rs
theorem BsC.one {w : World} {xs : List Value} {rs : List (List UInt8)} (h : BsC w xs rs) : ∀ u ∈ xs, u.oneCell' = true := by
  induction rs generalizing xs with
  | nil => cases h; intro u hu; cases hu
  | cons r rs ih =>
    obtain ⟨v, t, rfl, h1, h2⟩ := h
    intro u hu
    rcases List.mem_cons.1 hu with rfl | hu
    · obtain ⟨A, c, rfl, _⟩ := h1.rd
      rfl
    · exact ih h2 u hu
set_option maxRecDepth 20000 in
theorem sclone_any (w : World) (B : Nat) (A : Option Addr) (n c : Nat) (rs : List (List UInt8)) (h : Bsr w B (.slice A n c) rs) (hn : n = rs.length) (hl : n ≤ 1000000000) :
    Calls Try.prog 57 #[.slice A n c] w fun e w' => ∃ v, e = .returned v ∧ Bso w' w.heap.size v rs ∧ Below w.heap.size w w' := by
  have ht := Try.underlying53
  have q22 : ∀ (w : World) (a : Option Addr) (n c n' c' : Nat), (binOp .eql 53 (.slice a n c) (.slice none n' c')).run Try.prog w = .ok (.bool a.isNone) w := fun w a n c n' c' => Lib.run_eql_slice_nil w _ _ a n c n' c' ht
  obtain ⟨xs, ho, hC, hz⟩ := h
  obtain ⟨hxl, _⟩ := hC.at_
  cases A with
  | none =>
    have he : rs = [] ∧ n = 0 ∧ c = 0 := by
      rcases ho.2 with ⟨e, h0⟩ | ⟨g, cap, cur, e, _⟩
      · injection e with _ e1 e2
        exact ⟨List.eq_nil_of_length_eq_zero h0, e1, e2⟩
      · cases e
    obtain ⟨rfl, rfl, rfl⟩ := he
    clear hn ho hC hz hxl
    go_enter Try.func57, Try.ntmps57
    go_wp2
    go_ret
    exact ⟨_, rfl, ⟨[], ⟨rfl, .inl ⟨rfl, rfl⟩⟩, rfl⟩, Below.refl _ _⟩
  | some a =>
    have hsrc : Src (w.alloc (.cells #[] 33)) (some a) xs := fun hp => by
      refine ⟨a, rfl, fun j u hu => ?_⟩
      rcases ho.2 with ⟨e, _⟩ | ⟨g, cap, cur, e, _⟩
      · cases e
      · injection e with e _ _
        injection e with e
        subst e
        exact cell_alloc _ (World.ownsRow.cells (g := g) ho rfl j u hu)
    have HS := Lib.hid hsrc; have HXL := Lib.hid hxl; have HN := Lib.hid hn; have HC := Lib.hid hC
    clear hsrc ho hC hz hxl hn
    go_enter Try.func57, Try.ntmps57
    go_wp2_with (at_builtin; go_loud (refine wpList_app (w0 := w) w.heap.size rfl (.tmp 5) (.tmp 6) 53 33 (.slice none 0 0) 1 24 rfl ht info_bs rfl (by decide) (by decide) _ 0 [] xs (some a) n c rfl rfl (World.ownsRow_made w #[] 0 (Nat.le_refl _) (Nat.zero_le _) rfl) (by rw [HXL.out, HN.out, Nat.mul_one]) HS.out HC.out.one ((Below.refl _ w).alloc (Nat.le_refl _) _) (by simp) (by omega) ?_))
    intro v1 w1 ho hb _ _
    go_wp2
    go_ret
    exact ⟨_, rfl, ⟨xs, by rw [← HN.out]; simpa using ho, HC.out.imp (fun _ _ h => h.below hb)⟩, hb⟩
theorem BsC.set {w : World} {xs : List Value} {rs : List (List UInt8)} (h : BsC w xs rs) (k : Nat) (hk : k < rs.length) {u : Value} (hu : Sl w u (rs[k]'hk)) : BsC w (xs.set k u) rs := by
  induction rs generalizing xs k with
  | nil => exact absurd hk (by simp)
  | cons r rs ih =>
    obtain ⟨v, t, rfl, h1, h2⟩ := h
    cases k with
    | zero => exact ⟨u, t, rfl, hu, h2⟩
    | succ k => exact ⟨v, t.set k u, rfl, h1, ih h2 k (by simpa using hk) (by simpa using hu)⟩
theorem row_set {w : World} {base t gv n cap : Nat} {xs : List Value} (h : w.ownsRow base t 1 (.slice (some ⟨gv, 0, none⟩) n cap) n xs) (k : Nat) (u : Value) : (w.setCell ⟨gv, k, none⟩ u).ownsRow base t 1 (.slice (some ⟨gv, 0, none⟩) n cap) n (xs.set k u) := by
  rcases h.2 with ⟨e, _⟩ | ⟨g, cap', cur, e, hb, hh, hc, hm, hsz, htk⟩
  · cases e
  · injection e with e1 e2 e3
    injection e1 with e1
    injection e1 with e1
    subst e1
    refine ⟨by rw [List.length_set]; exact h.1, .inr ⟨gv, cap', _, by rw [e3], hb, heap_setCell_same _ _ _ _ _ _ hh, hc, hm, by rw [Array.size_setIfInBounds]; exact hsz, ?_⟩⟩
    rw [Array.toList_setIfInBounds, List.take_set, htk]
theorem row_cell {w : World} {base t gv n cap : Nat} {xs : List Value} (h : w.ownsRow base t 1 (.slice (some ⟨gv, 0, none⟩) n cap) n xs) (k : Nat) (u : Value) (hu : xs[k]? = some u) : w.cell? ⟨gv, k, none⟩ = some u ∧ w.frozen? ⟨gv, k, none⟩ = false ∧ base ≤ gv ∧ ∃ cs, w.heap[gv]? = some (.cells cs t (0, 0)) := by
  rcases h.2 with ⟨e, _⟩ | ⟨g, cap', cur, e, hb, hh, hc, hm, hsz, htk⟩
  · cases e
  · injection e with e1 e2 e3
    injection e1 with e1
    injection e1 with e1
    subst e1
    have h2 := World.ownsRow.cells (g := gv) h rfl k u hu
    have ha : (⟨gv, 0, none⟩ : Addr).add k = ⟨gv, k, none⟩ := by unfold Addr.add; split <;> simp_all
    rw [ha] at h2
    exact ⟨h2, frozen_of_row _ _ _ _ _ hh, hb, _, hh⟩
set_option maxRecDepth 20000 in
set_option maxHeartbeats 4000000 in
theorem wall_any {w0 w : World} {B g gl : Nat} {d : DevMath.Dev} {x : WalMath.Lg} {dn : Bool} (h : LS w0 w B g gl d x dn) (hl : x.all.length ≤ 1000000) (hls : ∀ l ∈ x.all, l.length ≤ 1000000000) :
    Calls Try.prog 38 #[.pointer (some ⟨gl, 0, none⟩)] w fun e w' => ∃ v, e = .returned v ∧ Bso w' w.heap.size v x.all ∧ Below w.heap.size w w' := by
  obtain ⟨vb, va, hh, hgl, hsb, hsa, hd⟩ := h
  obtain ⟨Aa, ca, rfl, hca⟩ := hsa.shp
  obtain ⟨n, hn⟩ : ∃ n, n = x.all.length := ⟨_, rfl⟩
  rw [← hn] at hh hca hsa hl
  have hcl := sclone_any w B Aa n ca x.all hsa hn (by omega)
  have k4 : w.cell? ⟨gl, 4, none⟩ = some (.slice Aa n ca) := by rw [cell_of_row _ gl 4 _ _ _ hh]; rfl
  have HCL := Lib.hid hcl; have HN := Lib.hid hn; have HLS := Lib.hid hls
  generalize x.all = rs at *
  clear hcl hn hls hh hsb hsa hd
  go_enter Try.func38, Try.ntmps38
  go_wp2_with fail
  refine HCL.out.mono ?_
  rintro e w1 ⟨v, rfl, ⟨xs, ho, hC⟩, hb1⟩
  rw [← HN.out] at ho
  have ho2 := ho
  rcases ho2.2 with ⟨rfl, h0⟩ | ⟨gv, cap, cur, rfl, hbg, hhv, hcn, hcm, hcs, htk⟩
  · have hn0 : n = 0 := by omega
    have HO := Lib.hid ho; have HC := Lib.hid hC; have HB1 := Lib.hid hb1
    subst hn0
    clear ho hC hb1 ho2
    go_wp2_with fail
    go_loopw [13] (fun i wr => i = .int .i64 0 ∧ wr = w1) (fun _ _ => 0)
    case atStart => exact ⟨rfl, rfl⟩
    case round =>
      obtain ⟨rfl, rfl⟩ := hrel
      go_wp2
      go_ret
      exact ⟨_, rfl, ⟨xs, by rw [← HN.out]; exact HO.out, HC.out⟩, HB1.out⟩
  · have HO := Lib.hid ho; have HC := Lib.hid hC; have HB1 := Lib.hid hb1
    simp only [maxLen] at hcm
    clear ho hC hb1 ho2 hhv hcs htk
    go_wp2_with fail
    go_loopw [13] (fun i wr => ∃ k : Nat, k ≤ n ∧ i = .int .i64 k ∧ (∃ xs, wr.ownsRow w.heap.size 33 1 (.slice (some ⟨gv, 0, none⟩) n cap) n xs ∧ BsC wr xs rs) ∧ Below w.heap.size w wr) (fun i _ => n - (intOf i).toNat)
    case atStart => exact ⟨0, Nat.zero_le _, rfl, ⟨xs, HO.out, HC.out⟩, HB1.out⟩
    case round =>
      obtain ⟨k, hk, rfl, ⟨ys, ho, hC⟩, hb⟩ := hrel
      by_cases hlt : k < n
      · have hltI : (k : Int) < (n : Int) := by omega
        have hkr : k < rs.length := by rw [← HN.out]; exact hlt
        obtain ⟨hyl, hat⟩ := hC.at_
        obtain ⟨vk, hvk, hsk⟩ := hat k hkr
        obtain ⟨c1, c2, c3, cs, c4⟩ := row_cell ho k vk hvk
        obtain ⟨Ak, ck, rfl, hck, hrk⟩ := hsk.rd
        have hcl := clone_any wr Ak ck (rs[k]'hkr) hrk (by have := HLS.out _ (List.getElem_mem hkr); omega)
        obtain ⟨m, hm⟩ : ∃ m, m = (rs[k]'hkr).length := ⟨_, rfl⟩
        rw [← hm] at c1 hcl hck
        have HCL2 := Lib.hid hcl; have HO2 := Lib.hid ho; have HC2 := Lib.hid hC; have HB2 := Lib.hid hb; have HC4 := Lib.hid c4
        have hwk : IntKind.i64.wrap ((k : Int) + 1) = ((k + 1 : Nat) : Int) := by rw [IntKind.wrap_i64]; omega
        clear hcl ho hC hb hat hvk hsk hrk hm c4 hyl
        go_wp2_with fail
        refine HCL2.out.mono ?_
        rintro e w2 ⟨v2, rfl, ho3, hb3⟩
        have hs3 := ho3.sl
        obtain ⟨A3, c5, rfl, _, _⟩ := hs3.rd
        have c1' := cell_below hb3 c1
        have hO4 : w2.ownsRow w.heap.size 33 1 (.slice (some ⟨gv, 0, none⟩) n cap) n ys := World.ownsRow.kept HO2.out ⟨hb3.os, hb3.tape, hb3.output, hb3.size, fun k hk _ => hb3.block k hk⟩ (row := none) (by simp [Value.ownBlock])
        have c4' : w2.heap[gv]? = some (.cells cs 33 (0, 0)) := (hb3.block gv (Array.getElem?_eq_some_iff.1 HC4.out).1).trans HC4.out
        have f1' : w2.frozen? ⟨gv, k, none⟩ = false := frozen_of_row _ _ _ _ _ c4'
        have hC4 : BsC w2 ys rs := HC2.out.imp (fun _ _ h => h.below hb3)
        obtain ⟨m3, hm3⟩ : ∃ m, m = (rs[k]'hkr).length := ⟨_, rfl⟩
        rw [← hm3] at hs3 ⊢
        obtain ⟨W, hW⟩ : ∃ W, W = w2.setCell ⟨gv, k, none⟩ (.slice A3 m3 c5) := ⟨_, rfl⟩
        have HW := Lib.hid hW
        have hch : Chg (· = gv) w2 W := by rw [hW]; exact Chg.setCell _ _ _ _
        have HREL : Hid ((∃ xs, W.ownsRow w.heap.size 33 1 (.slice (some ⟨gv, 0, none⟩) n cap) n xs ∧ BsC W xs rs) ∧ Below w.heap.size w W) := Lib.hid ⟨⟨_, by rw [hW]; exact row_set hO4 k _, (hC4.imp (fun _ _ h => h.chg hch (not_u8 c4' (by decide)))).set k hkr (hs3.chg hch (not_u8 c4' (by decide)))⟩, by
          rw [hW]
          exact (HB2.out.trans (hb3.mono HB2.out.size)).setCell (p := ⟨gv, k, none⟩) c3 _⟩
        clear hO4 hC4 hs3 ho3 hb3 hch hW c4' hm3 c1
        go_wp2_with fail
        rw [← HW.out]
        go_roundw
        case rel => exact ⟨k + 1, by omega, by go_num, HREL.out.1, HREL.out.2⟩
        case measure => simp [intOf]; omega
      · have hltI : ¬ (k : Int) < (n : Int) := by omega
        have HO2 := Lib.hid ho; have HC2 := Lib.hid hC; have HB2 := Lib.hid hb
        clear ho hC hb
        go_wp2
        go_ret
        exact ⟨_, rfl, ⟨ys, by rw [← HN.out]; exact HO2.out, HC2.out⟩, HB2.out⟩
end Go.Proofs.Ytbpecfbliglboaa
/- What was written ahead, plain: a log that is well, on a device that no fuse ends. -/
namespace WalMath
set_option linter.unusedVariables false
set_option linter.unusedSimpArgs false
open DevMath (Dev put flushed crashed zeros)
open RecMath (recs)
/-- a log that is well -/
structure Ok (n : Nat) (d : Dev) (x : Lg) : Prop where
  n8 : 8 ≤ n
  n9 : n ≤ 8192
  on : On d n d.safe []
  len : ∀ k, (sk d.safe k).length = 512
  wf : Wf n x
  tl : tells n d.safe x
theorem wrs_fz : ∀ (ws : List (Int × List UInt8)) (d : Dev), d.off = false → d.fuse = 0 → (∀ r ∈ ws, 0 ≤ r.1 ∧ r.1 < d.sectors ∧ r.2.length = 512) → wrs d ws = ({ d with cache := d.cache ++ ws }, 0) := by
  intro ws
  induction ws with
  | nil => intro d _ _ _; simp [wrs]
  | cons r ws ih =>
    intro d h1 h2 hw
    obtain ⟨w1, w2, w3⟩ := hw r (List.mem_cons_self ..)
    have hh : d.has r.1 = true := by simp [Dev.has, w1, w2]
    have e := DevMath.write_plain d r.1 r.2 h1 h2 hh w3
    show (if (d.write r.1 r.2).2 = 0 then wrs (d.write r.1 r.2).1 ws else d.write r.1 r.2) = _
    rw [e, if_pos rfl]
    show wrs { d with cache := d.cache ++ [(r.1, r.2)] } ws = _
    rw [ih { d with cache := d.cache ++ [(r.1, r.2)] } h1 h2 (fun x hx => hw x (List.mem_cons_of_mem _ hx))]
    simp
theorem commitD_fz {d : Dev} {ws : List (Int × List UInt8)} {H : List UInt8} (h1 : d.off = false) (h2 : d.fuse = 0) (hs : 1 ≤ d.sectors) (hw : ∀ r ∈ ws, 0 ≤ r.1 ∧ r.1 < d.sectors ∧ r.2.length = 512) (hH : H.length = 512) : (commitD d ws H).2 = 0 ∧ (commitD d ws H).1.fuse = 0 := by
  unfold commitD
  simp only [wrs_fz ws d h1 h2 hw]
  rw [if_neg (by decide)]
  have hf := DevMath.flush_plain { d with cache := d.cache ++ ws } h1 h2
  simp only [hf]
  rw [if_neg (by decide)]
  have hwr := DevMath.write_plain { d with safe := flushed d.safe (d.cache ++ ws), cache := [] } 0 H h1 h2 (by simp [Dev.has]; omega) hH
  simp only [hwr]
  rw [if_neg (by decide)]
  have hf2 := DevMath.flush_plain { d with safe := flushed d.safe (d.cache ++ ws), cache := [] ++ [(0, H)] } h1 h2
  simp only [hf2]
  rw [if_neg (by decide)]
  exact ⟨rfl, h2⟩
theorem wf_add {n : Nat} {x : Lg} {body : List UInt8} (h : Wf n x) (hb : body.length ≤ 200000) (hf : (addB x body).length ≤ room n) : Wf n ⟨x.region, x.base, addB x body, x.all ++ [body]⟩ := by
  obtain ⟨bb, h1, h2⟩ := h.parts
  refine ⟨h.reg, ⟨bb, ?_, h2⟩, hf, fun l hl => ?_⟩
  · show addB x body = bb ++ recs 1 (x.all ++ [body])
    unfold addB
    rw [h1, RecMath.recs_snoc, List.append_assoc, Nat.add_comm 1]
  · rcases List.mem_append.1 hl with hl | hl
    · exact h.small l hl
    · simp at hl; subst hl; exact hb
theorem wf_keep {n : Nat} {x : Lg} {body : List UInt8} (h : Wf n x) (hf : body.length ≤ room n) : Wf n ⟨1 - x.region, body.length, body, []⟩ :=
  ⟨by show 1 - x.region < 2; omega, ⟨body, by simp [recs], rfl⟩, hf, fun l hl => by cases hl⟩
/-- a commit, done or fallen -/
structure Went (n : Nat) (R : Dev × Int) (x x' : Lg) : Prop where
  sec : R.1.sectors = n
  len : ∀ k, (sk R.1.safe k).length = 512
  ca : R.1.cache = []
  out : (R.2 = 0 ∧ R.1.off = false ∧ tells n R.1.safe x') ∨ (R.2 = 7 ∧ R.1.off = true ∧ (tells n R.1.safe x ∨ tells n R.1.safe x'))
theorem Went.ok {n : Nat} {R : Dev × Int} {x x' : Lg} (h : Went n R x x') (hn : 8 ≤ n) (hn2 : n ≤ 8192) (hw : Wf n x') (h0 : R.2 = 0) : Ok n R.1 x' := by
  rcases h.out with ⟨_, h1, h2⟩ | ⟨h1, _⟩
  · exact ⟨hn, hn2, ⟨h.sec, h1, rfl, h.ca⟩, h.len, hw, h2⟩
  · rw [h0] at h1; cases h1
theorem went_add {n : Nat} {d : Dev} {x : Lg} {body : List UInt8} (h : Ok n d x) (hb : body.length ≤ 200000) (hf : (addB x body).length ≤ room n) : Went n (addR d x body) x ⟨x.region, x.base, addB x body, x.all ++ [body]⟩ := by
  have hs := commit_spec (d := d) (n := n) (sec := x.buf.length / 512) (by have := h.n8; omega) h.on h.len h.wf (wf_add h.wf hb hf) h.tl (.inr ⟨rfl, rfl, List.prefix_append _ _⟩)
  obtain ⟨f', h1, h2, rfl, h4, h5⟩ := hs
  have e : addR d x body = commitD d (dataW n x.region (x.buf.length / 512) (addB x body)) (header x.region x.base (addB x body).length (x.all ++ [body]).length) := by
    unfold addR
    rw [h.on.n, List.length_append]
    rfl
  rw [e]
  exact ⟨h2, h1, h4, h5⟩
theorem went_keep {n : Nat} {d : Dev} {x : Lg} {body : List UInt8} (h : Ok n d x) (hf : body.length ≤ room n) : Went n (keepR d x body) x ⟨1 - x.region, body.length, body, []⟩ := by
  have hr := h.wf.reg
  have hs := commit_spec (d := d) (n := n) (sec := 0) (by have := h.n8; omega) h.on h.len h.wf (wf_keep h.wf hf) h.tl (.inl ⟨by show 1 - x.region ≠ x.region; omega, rfl⟩)
  obtain ⟨f', h1, h2, rfl, h4, h5⟩ := hs
  have e : keepR d x body = commitD d (dataW n (1 - x.region) 0 body) (header (1 - x.region) body.length body.length 0) := by
    unfold keepR
    rw [h.on.n]
  rw [e]
  exact ⟨h2, h1, h4, h5⟩
theorem add_fz {n : Nat} {d : Dev} {x : Lg} {body : List UInt8} (h : Ok n d x) (hfz : d.fuse = 0) (hf : (addB x body).length ≤ room n) : (addR d x body).2 = 0 ∧ (addR d x body).1.fuse = 0 := by
  have hn := h.n8
  have e1 := h.on.n
  exact commitD_fz h.on.off hfz (by omega) (by rw [e1]; exact dataW_ok h.wf.reg hf) (header_len _ _ _ _)
theorem keep_fz {n : Nat} {d : Dev} {x : Lg} {body : List UInt8} (h : Ok n d x) (hfz : d.fuse = 0) (hf : body.length ≤ room n) : (keepR d x body).2 = 0 ∧ (keepR d x body).1.fuse = 0 := by
  have hn := h.n8
  have e1 := h.on.n
  exact commitD_fz h.on.off hfz (by omega) (by rw [e1]; exact dataW_ok (by omega) hf) (header_len _ _ _ _)
theorem ok_new {n : Nat} (h1 : 8 ≤ n) (h2 : n ≤ 8192) : Ok n (Dev.new n) empty :=
  ⟨h1, h2, ⟨rfl, rfl, rfl, rfl⟩, fun k => List.length_replicate, Wf.empty n, ⟨.inl ⟨rfl, rfl⟩, fun p hp => absurd hp (by simp [empty])⟩⟩
theorem ok_load {n : Nat} {d : Dev} {x : Lg} (h : Ok n d x) : loadD d.sectors (secs d) = x := by
  rw [h.on.n]
  exact load_tells n h.n9 (secs d) (fun k => h.len k) x h.wf h.tl
/-- a crash between calls, and the power again -/
theorem ok_crash {n : Nat} {d : Dev} {x : Lg} (h : Ok n d x) (keep : List Int) (torn : Int) : Ok n { d.crash keep torn with off := false } x ∧ ({ d.crash keep torn with off := false } : Dev).fuse = 0 := by
  have e : d.crash keep torn = { d with safe := d.safe, cache := [], off := true, fuse := 0 } := by
    unfold Dev.crash
    rw [if_neg (by rw [h.on.off]; decide), h.on.cache]
    rfl
  rw [e]
  exact ⟨⟨h.n8, h.n9, ⟨h.on.n, rfl, rfl, rfl⟩, h.len, h.wf, h.tl⟩, rfl⟩
end WalMath
/- wal: a healthy log, as the laws see it. -/
namespace WalMath
def addX (x : Lg) (body : List UInt8) : Lg := ⟨x.region, x.base, addB x body, x.all ++ [body]⟩
def keepX (x : Lg) (body : List UInt8) : Lg := ⟨1 - x.region, body.length, body, []⟩
theorem Ok.small {n : Nat} {d : DevMath.Dev} {x : Lg} (h : Ok n d x) : x.base ≤ x.buf.length ∧ x.buf.length ≤ 2097152 ∧ x.all.length ≤ 1000000 ∧ (∀ l ∈ x.all, l.length ≤ 1000000000) := by
  obtain ⟨bb, q1, q2⟩ := h.wf.parts
  have h1 := h.wf.fits
  have h2 := h.wf.count16
  have h3 : room n ≤ 2097152 := by
    have := h.n9
    unfold room size
    omega
  refine ⟨by rw [q1, List.length_append]; omega, by omega, by omega, fun l hl => ?_⟩
  have := h.wf.small l hl
  omega
end WalMath
namespace Go.Proofs.Ytbpecfbliglboaa
open Go.RowKit
set_option linter.unusedVariables false
set_option linter.unusedSimpArgs false
/-- a log that is well -/
def LK (w0 w : World) (B g gl n : Nat) (d : DevMath.Dev) (x : WalMath.Lg) : Prop := LS w0 w B g gl d x false ∧ WalMath.Ok n d x ∧ d.fuse = 0
theorem LS.ds {w0 w : World} {B g gl : Nat} {d : DevMath.Dev} {x : WalMath.Lg} {dn : Bool} (h : LS w0 w B g gl d x dn) : DS w0 w B g d := by
  obtain ⟨_, _, _, _, _, _, h5⟩ := h
  exact h5
theorem LK.below {w0 w w1 : World} {B g gl n : Nat} {d : DevMath.Dev} {x : WalMath.Lg} (h : LK w0 w B g gl n d x) (hb : Below w.heap.size w w1) : LK w0 w1 B g gl n d x := ⟨h.1.below hb, h.2⟩
theorem TL.of_below {w w1 : World} (hb : Below w.heap.size w w1) : TL w w1 := fun k cs t fr _ _ _ h4 => (hb.block k (Array.getElem?_eq_some_iff.1 h4).1).trans h4
theorem lk_open {w0 w : World} {B g n : Nat} {d : DevMath.Dev} {x : WalMath.Lg} (hd : DS w0 w B g d) (ho : WalMath.Ok n d x) (hf : d.fuse = 0) :
    Calls Try.prog 34 #[.pointer (some ⟨g, 0, none⟩)] w fun e w' => ∃ gl, e = .returned (.tuple #[.pointer (some ⟨gl, 0, none⟩), .int .i64 0]) ∧ LK w0 w' B g gl n d x ∧ Below w.heap.size w w' ∧ w.heap.size ≤ gl := by
  have h8 := ho.n8; have h9 := ho.n9; have hs := ho.on.n
  have h := wopen_any hd ho.on.off ho.on.cache (by omega) (by omega)
  rw [WalMath.ok_load ho] at h
  refine h.mono ?_
  rintro e w1 ⟨gl, rfl, h1, h2, h3⟩
  exact ⟨gl, rfl, ⟨h1, ho, hf⟩, h2, h3⟩
theorem Sl.rds {w0 w : World} {B n c : Nat} {A : Option Addr} {l : List UInt8} (h : Sl w (.slice A n c) l) : ∀ W, Below B w0 W → TL w W → Rd W A l := fun W _ hW => (Sl.rd_eq (hW.sl h)).1
theorem lk_add {w0 w : World} {B g gl n : Nat} {d : DevMath.Dev} {x : WalMath.Lg} (h : LK w0 w B g gl n d x) {A : Option Addr} {m c : Nat} {body : List UInt8} (hs : ∀ W, Below B w0 W → TL w W → Rd W A body) (hm : m = body.length) (hm2 : m ≤ 200000) (hf : (WalMath.addB x body).length ≤ WalMath.room n) :
    Calls Try.prog 35 #[.pointer (some ⟨gl, 0, none⟩), .slice A m c] w fun e w' => e = .returned (.int .i64 0) ∧ (∃ d', LK w0 w' B g gl n d' (WalMath.addX x body)) ∧ TL w w' := by
  obtain ⟨h1, ho, hfz⟩ := h
  have h8 := ho.n8; have h9 := ho.n9; have hsec := ho.on.n
  obtain ⟨z1, z2⟩ := WalMath.add_fz ho hfz hf
  have hw := WalMath.went_add ho (by omega : body.length ≤ 200000) hf
  have hgo := wadd_go h1 (by omega) (by omega) ho.on.cache (by rw [hsec]; exact ho.wf) A m c body hm hs (by unfold mayE; simp; omega) (by rw [hsec]; exact hf)
  have e1 : comE (WalMath.addR d x body) = 0 := if_pos z1
  have e2 : addX (WalMath.addR d x body) x body = WalMath.addX x body := if_pos z1
  have e3 : comD (WalMath.addR d x body) false = false := if_pos z1
  rw [e1, e2, e3] at hgo
  refine hgo.mono ?_
  rintro e w1 ⟨rfl, h2, h3⟩
  exact ⟨rfl, ⟨_, h2, hw.ok h8 h9 (WalMath.wf_add ho.wf (by omega) hf) z1, z2⟩, h3⟩
theorem lk_full {w0 w : World} {B g gl n : Nat} {d : DevMath.Dev} {x : WalMath.Lg} (h : LK w0 w B g gl n d x) {A : Option Addr} {m c : Nat} {body : List UInt8} (hs : ∀ W, Below B w0 W → TL w W → Rd W A body) (hm : m = body.length) (hm2 : m ≤ 200000) (hf : WalMath.room n < (WalMath.addB x body).length) :
    Calls Try.prog 35 #[.pointer (some ⟨gl, 0, none⟩), .slice A m c] w fun e w' => e = .returned (.int .i64 6) ∧ LK w0 w' B g gl n d x ∧ TL w w' := by
  obtain ⟨h1, ho, hfz⟩ := h
  have h8 := ho.n8; have h9 := ho.n9; have hsec := ho.on.n
  refine (wadd_full h1 (by omega) (by omega) (by rw [hsec]; exact ho.wf) A m c body hm hs (by unfold mayE; simp; omega) (by rw [hsec]; exact hf)).mono ?_
  rintro e w1 ⟨rfl, h2, h3⟩
  exact ⟨rfl, ⟨h2, ho, hfz⟩, TL.of_below h3⟩
theorem lk_keep {w0 w : World} {B g gl n : Nat} {d : DevMath.Dev} {x : WalMath.Lg} (h : LK w0 w B g gl n d x) {A : Option Addr} {m c : Nat} {body : List UInt8} (hs : Rd w A body) (hm : m = body.length) (hm2 : m ≤ 200000) (hf : body.length ≤ WalMath.room n) :
    Calls Try.prog 36 #[.pointer (some ⟨gl, 0, none⟩), .slice A m c] w fun e w' => e = .returned (.int .i64 0) ∧ (∃ d', LK w0 w' B g gl n d' (WalMath.keepX x body)) ∧ TL w w' := by
  obtain ⟨h1, ho, hfz⟩ := h
  have h8 := ho.n8; have h9 := ho.n9; have hsec := ho.on.n
  obtain ⟨z1, z2⟩ := WalMath.keep_fz ho hfz hf
  have hw := WalMath.went_keep ho hf
  have hgo := wkeep_go h1 (by omega) (by omega) ho.on.cache (by rw [hsec]; exact ho.wf) A m c body hm hs (by unfold mayE; simp; omega) (by rw [hsec]; omega)
  have e1 : comE (WalMath.keepR d x body) = 0 := if_pos z1
  have e2 : keepX (WalMath.keepR d x body) x body = WalMath.keepX x body := if_pos z1
  have e3 : comD (WalMath.keepR d x body) false = false := if_pos z1
  rw [e1, e2, e3] at hgo
  refine hgo.mono ?_
  rintro e w1 ⟨rfl, h2, h3⟩
  exact ⟨rfl, ⟨_, h2, hw.ok h8 h9 (WalMath.wf_keep ho.wf hf) z1, z2⟩, h3⟩
theorem lk_all {w0 w : World} {B g gl n : Nat} {d : DevMath.Dev} {x : WalMath.Lg} (h : LK w0 w B g gl n d x) :
    Calls Try.prog 38 #[.pointer (some ⟨gl, 0, none⟩)] w fun e w' => ∃ v, e = .returned v ∧ Bso w' w.heap.size v x.all ∧ Below w.heap.size w w' :=
  wall_any h.1 h.2.1.small.2.2.1 h.2.1.small.2.2.2
theorem lk_base {w0 w : World} {B g gl n : Nat} {d : DevMath.Dev} {x : WalMath.Lg} (h : LK w0 w B g gl n d x) :
    Calls Try.prog 37 #[.pointer (some ⟨gl, 0, none⟩)] w fun e w' => ∃ v, e = .returned v ∧ Sl w' v (x.buf.take x.base) ∧ Below w.heap.size w w' :=
  wbase_any h.1 h.2.1.small.1 (by have := h.2.1.small.2.1; omega)
theorem lk_free {w0 w : World} {B g gl n : Nat} {d : DevMath.Dev} {x : WalMath.Lg} (h : LK w0 w B g gl n d x) :
    Calls Try.prog 39 #[.pointer (some ⟨gl, 0, none⟩)] w fun e w' => e = .returned (.int .i64 (freeN n x)) ∧ Below w.heap.size w w' := by
  have h8 := h.2.1.n8; have h9 := h.2.1.n9; have hsec := h.2.1.on.n
  have := wfree_any h.1 (by omega) (by omega) (by have := h.2.1.small.2.1; omega)
  rw [hsec] at this
  exact this
theorem lk_new (w : World) (n : Nat) (h1 : 8 ≤ n) (h2 : n ≤ 8192) : Calls Try.prog 14 #[.int .i64 n] w fun e w' => ∃ g d, e = .returned (.tuple #[.pointer (some ⟨g, 0, none⟩), .int .i64 0]) ∧ DS w w' w.heap.size g d ∧ WalMath.Ok n d WalMath.empty ∧ d.fuse = 0 ∧ Below w.heap.size w w' := by
  refine (ds_new w n (by omega) h2).mono ?_
  rintro e w1 ⟨g, rfl, h3, h4⟩
  exact ⟨g, _, rfl, h3, WalMath.ok_new h1 h2, rfl, h4⟩
theorem Bso.below {w w1 : World} {base : Nat} {v : Value} {rs : List (List UInt8)} (h : Bso w base v rs) (hb : Below w.heap.size w w1) : Bso w1 base v rs := by
  obtain ⟨xs, h1, h2⟩ := h
  exact ⟨xs, World.ownsRow.kept h1 ⟨hb.os, hb.tape, hb.output, hb.size, fun k hk _ => hb.block k hk⟩ (row := none) (by cases v.ownBlock <;> simp), h2.imp (fun _ _ h => h.below hb)⟩
theorem Bso.shp {w : World} {base : Nat} {v : Value} {rs : List (List UInt8)} (h : Bso w base v rs) : ∃ A c, v = .slice A rs.length c ∧ rs.length ≤ c := by
  obtain ⟨xs, ho, _⟩ := h
  rcases ho.2 with ⟨rfl, hn⟩ | ⟨g, cap, cur, rfl, hb, hh, hc, _⟩
  · exact ⟨none, 0, by rw [hn], by omega⟩
  · exact ⟨_, cap, rfl, hc⟩
/-- an element -/
theorem Bso.at_ {w : World} {base n c : Nat} {A : Option Addr} {rs : List (List UInt8)} (h : Bso w base (.slice A n c) rs) (k : Nat) (hk : k < rs.length) : ∃ g A' c', A = some ⟨g, 0, none⟩ ∧ w.cell? ⟨g, k, none⟩ = some (.slice A' (rs[k]'hk).length c') ∧ Sl w (.slice A' (rs[k]'hk).length c') (rs[k]'hk) := by
  obtain ⟨xs, ho, hC⟩ := h
  obtain ⟨hl, hat⟩ := hC.at_
  obtain ⟨u, hu, hs⟩ := hat k hk
  obtain ⟨A', c', rfl, _, _⟩ := hs.rd
  rcases ho.2 with ⟨e, h0⟩ | ⟨g, cap, cur, e, hb, hh, hc, _⟩
  · omega
  · injection e with e1 e2 e3
    subst e1
    have h2 := World.ownsRow.cells (g := g) ho rfl k _ hu
    have ha : (⟨g, 0, none⟩ : Addr).add k = ⟨g, k, none⟩ := by unfold Addr.add; split <;> simp_all
    rw [ha] at h2
    exact ⟨g, A', c', rfl, h2, hs⟩
end Go.Proofs.Ytbpecfbliglboaa
/- wal: awake, rows. -/
namespace Go.Proofs.Ytbpecfbliglboaa
open Go.RowKit
set_option linter.unusedVariables false
set_option linter.unusedSimpArgs false
theorem Sl.str {w : World} {A : Option Addr} {n c : Nat} {l : List UInt8} (h : Sl w (.slice A n c) l) : (convert 33 9 (.slice A n c)).run Try.prog w = .ok (.string ⟨l.toArray⟩) w := by
  obtain ⟨h1, h2⟩ := h.rd_eq
  exact h1.str n c h2.symm
theorem Sl.bvl {w : World} {gl : Nat} {fr : Nat × Nat} {l : List UInt8} (h : w.heap[gl]? = some (.cells (bv l) 5 fr)) (hl : l.length ≤ 9223372036854775807) : Sl w (.slice (some ⟨gl, 0, none⟩) l.length l.length) l := by
  refine ⟨_, l.length, rfl, Nat.le_refl _, Rd.of_block h hl, fun a e => ?_⟩
  injection e with e
  subst e
  exact ⟨_, _, h⟩
theorem sl_new (w : World) (l : List UInt8) (fr : Nat × Nat) (hl : l.length ≤ 9223372036854775807) : Sl (w.alloc (.cells (bv l) 5 fr)) (.slice (some ⟨w.heap.size, 0, none⟩) l.length l.length) l := Sl.bvl (heap_new w _ _ rfl) hl
theorem below_new (w : World) (o : Obj) : Below w.heap.size w (w.alloc o) := (Below.refl _ w).alloc (Nat.le_refl _) _
def sA : List UInt8 := [97]
def sB : List UInt8 := [98]
theorem aw_fit1 : (WalMath.addB WalMath.empty sA).length ≤ WalMath.room 64 := by
  unfold WalMath.addB
  rw [List.length_append, RecMath.recB_length]
  decide
theorem aw_fit2 : (WalMath.addB (WalMath.addX WalMath.empty sA) sB).length ≤ WalMath.room 64 := by
  unfold WalMath.addX WalMath.addB
  simp only [List.length_append, RecMath.recB_length]
  decide
set_option maxRecDepth 20000 in
set_option maxHeartbeats 4000000 in
theorem awake6_any (w : World) : Calls Try.prog 33 #[] w fun e w' => e = .returned (.bool true) ∧ Below w.heap.size w w' := by
  have kc := conv_const Try.underlying33 Try.underlying5
  go_enter Try.func33, Try.ntmps33
  go_wp2_with fail
  refine (lk_new w 64 (by decide) (by decide)).mono ?_
  rintro e w1 ⟨g, d1, rfl, hd1, ho1, hf1, -⟩
  have HO := Lib.hid (lk_open hd1 ho1 hf1)
  clear hd1 ho1 hf1
  go_wp2_with fail
  refine HO.out.mono ?_
  rintro e w2 ⟨gl, rfl, hl2, -⟩
  have hl2' := Lib.hid hl2
  clear hl2 HO
  go_wp2_with fail
  refine (lk_add (m := 1) (body := sA) (hl2'.out.below (below_new w2 _)) (sl_new w2 sA (1, 2) (by decide)).rds rfl (by decide) aw_fit1).mono ?_
  rintro e w3 ⟨rfl, ⟨d3, hl3⟩, -⟩
  have HL3 := Lib.hid hl3
  clear hl3 hl2'
  go_wp2_with fail
  refine (lk_add (m := 1) (body := sB) (HL3.out.below (below_new w3 _)) (sl_new w3 sB (1, 2) (by decide)).rds rfl (by decide) aw_fit2).mono ?_
  rintro e w4 ⟨rfl, ⟨d4, hl4⟩, -⟩
  obtain ⟨X, hX⟩ : ∃ X, X = WalMath.addX (WalMath.addX WalMath.empty sA) sB := ⟨_, rfl⟩
  rw [← hX] at hl4
  have HX := Lib.hid hX
  have hcr := ds_crash hl4.1.ds (by rw [hl4.2.1.on.cache]; simp) (-1) (fun W _ _ => (IntV.nil W).r) (by decide)
  have HO4 := Lib.hid (WalMath.ok_crash hl4.2.1 [] (-1))
  have HCR := Lib.hid hcr
  clear hX hl4 hcr HL3
  go_wp2_with fail
  refine HCR.out.mono ?_
  rintro e w5 ⟨rfl, hd5, -⟩
  have hon := ds_on hd5
  have HON := Lib.hid hon
  clear hd5 hon HCR
  go_wp2_with fail
  refine HON.out.mono ?_
  rintro e w6 ⟨rfl, hd6, -⟩
  have HOP := Lib.hid (lk_open hd6 HO4.out.1 HO4.out.2)
  clear hd6 HON
  go_wp2_with fail
  refine HOP.out.mono ?_
  rintro e w7 ⟨gm, rfl, hl7, -⟩
  have HL7 := Lib.hid hl7
  have HA7 := Lib.hid (lk_all hl7)
  clear hl7 HOP
  go_wp2_with fail
  refine HA7.out.mono ?_
  rintro e w8 ⟨v8, rfl, hb8, hbl8⟩
  have hall : X.all = [sA, sB] := by rw [HX.out]; rfl
  have hbase : X.buf.take X.base = [] := by rw [HX.out]; rfl
  rw [hall] at hb8
  obtain ⟨A8, c8, rfl, hc8⟩ := hb8.shp
  obtain ⟨g8, A0, c0, rfl, k0, s0⟩ := hb8.at_ 0 (by decide)
  obtain ⟨g8', A1, c1, e8, k1, s1⟩ := hb8.at_ 1 (by decide)
  injection e8 with e8
  injection e8 with e8
  subst e8
  have q0 := s0.str
  have q1 := s1.str
  have hba := lk_base (HL7.out.below hbl8)
  rw [hbase] at hba
  have HBA := Lib.hid hba; have HB8 := Lib.hid (HL7.out.1.ds.below hbl8).bel
  clear hb8 hba s0 s1 hall hbase hbl8
  simp only [sA, sB, List.getElem_cons_zero, List.getElem_cons_succ, List.length_cons, List.length_nil, Nat.zero_add, Nat.reduceAdd] at k0 k1 q0 q1 ⊢
  go_wp2_with fail
  refine HBA.out.mono ?_
  rintro e w9 ⟨v9, rfl, hs9, hb9⟩
  obtain ⟨A9, c9, rfl, _, _⟩ := hs9.rd
  have HB9 := Lib.hid (below_add HB8.out hb9)
  clear hs9 hb9 k0 k1 q0 q1
  go_wp2_with fail
  go_ret
  exact ⟨rfl, HB9.out⟩
/-- a row of strings, read -/
def StR (w : World) (v : Value) (ss : List (List UInt8)) : Prop := ∃ A c, v = .slice A ss.length c ∧ ss.length ≤ c ∧ (0 < ss.length → ∃ a, A = some a ∧ ∀ j, (h : j < ss.length) → w.cell? (a.add j) = some (.string ⟨ss[j].toArray⟩))
theorem StR.nil (w : World) : StR w (.slice none 0 0) [] := ⟨none, 0, rfl, Nat.le_refl _, fun h => absurd h (by simp)⟩
theorem StR.below {w w1 : World} {v : Value} {ss : List (List UInt8)} (h : StR w v ss) (hb : Below w.heap.size w w1) : StR w1 v ss := by
  obtain ⟨A, c, h1, h2, h3⟩ := h
  refine ⟨A, c, h1, h2, fun hp => ?_⟩
  obtain ⟨a, e, hc⟩ := h3 hp
  exact ⟨a, e, fun j hj => cell_below hb (hc j hj)⟩
theorem take_ext {α : Type} {l m : List α} {k : Nat} (hl : k < l.length) (hm : k < m.length) (h : l.take k = m.take k) (e : l[k] = m[k]) : l.take (k + 1) = m.take (k + 1) := by
  rw [List.take_succ_eq_append_getElem hl, List.take_succ_eq_append_getElem hm, h, e]
set_option maxRecDepth 20000 in
set_option maxHeartbeats 4000000 in
theorem rows_any (w : World) (B : Nat) (A1 A2 : Option Addr) (n m c1 c2 : Nat) (rs ss : List (List UInt8)) (hn : n = rs.length) (hm : m = ss.length) (h1 : Bso w B (.slice A1 n c1) rs) (h2 : StR w (.slice A2 m c2) ss) (hl : n ≤ 1000000) :
    Calls Try.prog 40 #[.slice A1 n c1, .slice A2 m c2] w fun e w' => e = .returned (.bool (decide (rs = ss))) ∧ Below w.heap.size w w' := by
  by_cases hnm : n = m
  · subst hnm
    have hnc1 : n ≤ c1 ∧ n ≤ c2 := by
      obtain ⟨A, c, e, h3⟩ := h1.shp
      obtain ⟨A', c', e', h4, _⟩ := h2
      injection e with e1 e2 e3
      injection e' with e4 e5 e6
      omega
    obtain ⟨hnc1, hnc2⟩ := hnc1
    have HN := Lib.hid hn; have HM := Lib.hid hm; have H1 := Lib.hid h1; have H2 := Lib.hid h2
    clear hn hm h1 h2
    go_enter Try.func40, Try.ntmps40
    go_wp2_with fail
    go_loopw [5] (fun i wr => ∃ k : Nat, k ≤ n ∧ i = .int .i64 k ∧ rs.take k = ss.take k ∧ Below w.heap.size w wr) (fun i _ => n - (intOf i).toNat)
    case atStart => exact ⟨0, Nat.zero_le _, rfl, rfl, Below.refl _ _⟩
    case round =>
      obtain ⟨k, hk, rfl, ht, hb⟩ := hrel
      by_cases hlt : k < n
      · have hltI : (k : Int) < (n : Int) := by omega
        have hkr : k < rs.length := by rw [← HN.out]; exact hlt
        have hks : k < ss.length := by rw [← HM.out]; exact hlt
        obtain ⟨g1, A3, c3, rfl, k1, s1⟩ := (H1.out.below hb).at_ k hkr
        obtain ⟨A', c', e', _, h4⟩ := H2.out.below hb
        injection e' with e4 e5 e6
        obtain ⟨a2, e7, h5⟩ := h4 (by omega)
        have k2 := h5 k hks
        rw [← e4] at e7
        subst e7
        obtain ⟨r, hr⟩ : ∃ r, r = rs[k]'hkr := ⟨_, rfl⟩
        obtain ⟨s, hs⟩ : ∃ s, s = ss[k]'hks := ⟨_, rfl⟩
        rw [← hr] at k1 s1
        rw [← hs] at k2
        obtain ⟨p, hp⟩ : ∃ p, p = r.length := ⟨_, rfl⟩
        rw [← hp] at k1 s1
        have HC : Hid (∀ W, Gr wr.heap.size wr.drew W → W.cell? ⟨g1, k, none⟩ = some (.slice A3 p c3) ∧ W.cell? (a2.add k) = some (.string ⟨s.toArray⟩) ∧ (convert 33 9 (.slice A3 p c3)).run Try.prog W = .ok (.string ⟨r.toArray⟩) W) := Lib.hid fun W hW => by
          have hbw := Below.trans (Below.drew (Below.refl wr.heap.size wr)) hW.1
          exact ⟨cell_below hbw k1, cell_below hbw k2, (s1.below hbw).str⟩
        have HT := Lib.hid ht; have HB := Lib.hid hb; have HR := Lib.hid hr; have HS := Lib.hid hs
        have hwk : IntKind.i64.wrap ((k : Int) + 1) = ((k + 1 : Nat) : Int) := by rw [IntKind.wrap_i64]; omega
        clear ht hb hr hs k1 k2 s1 h4 h5 e4 e5 e6 hp
        go_wp2_with fail
        refine wp_region_tbl _ ((fun _ => none)) (wr.heap.size) (by kernel_rfl) (by kernel_rfl) (by kernel_rfl) ?_
        repeat (first
          | (refine wpR_plain ?_ (by rfl) (fun K hK => ?_); (focus (first | (simp only [Region.wanted]; done) | (go_simp; done))); apply Exists.intro; refine ⟨fun W hW => ?_, ?_⟩; (go_simp; (try simp only [plainUpon_value, true_and]); rfl); go_simp; refine hK _ ?_; clear hK K)
          | (refine wpR_plain ?_ (by rfl) (fun K hK => ?_); (focus (first | (simp only [Region.wanted]; done) | (go_simp; done))); apply Exists.intro; refine ⟨fun W hW => ?_, ?_⟩; (have hcw := HC.out W hW; go_simp; (try simp only [plainUpon_value, true_and]); rfl); go_simp; refine hK _ ?_; clear hK K))
        refine wpR_nil (fun W hW hF => ?_)
        have HBW : Hid (Below w.heap.size w W) := Lib.hid (HB.out.trans ((Below.trans (Below.drew (Below.refl _ wr)) hW.1).mono HB.out.size))
        clear hW hF HC
        by_cases hq : r = s
        · have HQ : Hid ((!(r == s)) = false) := Lib.hid (by rw [beq_iff_eq.2 hq]; rfl)
          have HT2 : Hid (rs.take (k + 1) = ss.take (k + 1)) := Lib.hid (take_ext hkr hks HT.out (by rw [← HR.out, ← HS.out]; exact hq))
          clear hq
          go_wp2
          · exfalso
            have hx : (!(r == s)) = true := by assumption
            rw [HQ.out] at hx
            cases hx
          · go_roundw
            case rel => exact ⟨k + 1, by omega, by go_num, HT2.out, HBW.out⟩
            case measure => simp [intOf]; omega
        · have HQ : Hid ((!(r == s)) = true) := Lib.hid (by rw [beq_eq_false_iff_ne.2 hq]; rfl)
          have HD : Hid (decide (rs = ss) = false) := Lib.hid (decide_eq_false (fun e => hq (by rw [HR.out, HS.out]; simp only [e])))
          clear hq
          go_wp2
          · go_ret
            rw [HD.out]
            exact ⟨rfl, HBW.out⟩
          · exfalso
            have hx : (!(r == s)) = false := by assumption
            rw [HQ.out] at hx
            cases hx
      · have hltI : ¬ (k : Int) < (n : Int) := by omega
        have HD : Hid (decide (rs = ss) = true) := Lib.hid (decide_eq_true (by
          rw [List.take_of_length_le (by rw [← HN.out]; omega), List.take_of_length_le (by rw [← HM.out]; omega)] at ht
          exact ht))
        have HB := Lib.hid hb
        clear hb ht
        go_wp2
        go_ret
        rw [HD.out]
        exact ⟨rfl, HB.out⟩
  · have HD : Hid (decide (rs = ss) = false) := Lib.hid (decide_eq_false (fun e => hnm (by rw [hn, hm, e])))
    have hq1 : ((n : Int) != (m : Int)) = true := by simp; omega
    have hq2 : ((n : Int) == (m : Int)) = false := by simp; omega
    have hq3 : (n == m) = false := by simp; omega
    clear hn hm h1 h2 hnm
    go_enter Try.func40, Try.ntmps40
    go_wp2
    go_ret
    rw [HD.out]
    exact ⟨rfl, Below.refl _ _⟩
end Go.Proofs.Ytbpecfbliglboaa
/- The law WalFull, walked. -/
namespace Go.Proofs.Ytbpecfbliglboaa
open Go.RowKit
set_option linter.unusedVariables false
set_option linter.unusedSimpArgs false
theorem zeros_run (m : Nat) (hm : m ≤ 281474976710656) : ∀ W : World, (Instr.makeSlice 33 (.int .i64 (m : Int)) (.int .i64 (m : Int))).run Try.prog W = .ok (.slice (some ⟨W.heap.size, 0, none⟩) m m) (W.alloc (.cells (bv (List.replicate m 0)) 5)) := by
  intro W
  have h := make_bytes (P := Try.prog) 33 5 Try.underlying33 info_u8 m hm W
  rw [mc_bvl] at h
  exact h
theorem zeros_sl (W : World) (m : Nat) (hm : m ≤ 281474976710656) : Sl (W.alloc (.cells (bv (List.replicate m 0)) 5)) (.slice (some ⟨W.heap.size, 0, none⟩) m m) (List.replicate m 0) := by
  have h := sl_new W (List.replicate m 0) (0, 0) (by rw [List.length_replicate]; omega)
  rw [List.length_replicate] at h
  exact h
theorem addB_len (x : WalMath.Lg) (body : List UInt8) : (WalMath.addB x body).length = x.buf.length + 16 + body.length := by
  unfold WalMath.addB
  rw [List.length_append, RecMath.recB_length]; omega
/-- make and Add -/
theorem lk_addz {w0 w : World} {B g gl n : Nat} {d : DevMath.Dev} {x : WalMath.Lg} (h : LK w0 w B g gl n d x) (m : Nat) (hm : m ≤ 200000) (hf : x.buf.length + 16 + m ≤ WalMath.room n) :
    Calls Try.prog 35 #[.pointer (some ⟨gl, 0, none⟩), .slice (some ⟨w.heap.size, 0, none⟩) m m] (w.alloc (.cells (bv (List.replicate m 0)) 5)) fun e w' => e = .returned (.int .i64 0) ∧ ∃ d', LK w0 w' B g gl n d' (WalMath.addX x (List.replicate m 0)) := by
  refine (lk_add (h.below (below_new w _)) (zeros_sl w m (by omega)).rds (List.length_replicate).symm hm (by rw [addB_len, List.length_replicate]; exact hf)).mono ?_
  rintro e w1 ⟨h1, h2, _⟩
  exact ⟨h1, h2⟩
theorem lk_fullz {w0 w : World} {B g gl n : Nat} {d : DevMath.Dev} {x : WalMath.Lg} (h : LK w0 w B g gl n d x) (m : Nat) (hm : m ≤ 200000) (hf : WalMath.room n < x.buf.length + 16 + m) :
    Calls Try.prog 35 #[.pointer (some ⟨gl, 0, none⟩), .slice (some ⟨w.heap.size, 0, none⟩) m m] (w.alloc (.cells (bv (List.replicate m 0)) 5)) fun e w' => e = .returned (.int .i64 6) ∧ LK w0 w' B g gl n d x := by
  refine (lk_full (h.below (below_new w _)) (zeros_sl w m (by omega)).rds (List.length_replicate).symm hm (by rw [addB_len, List.length_replicate]; exact hf)).mono ?_
  rintro e w1 ⟨h1, h2, _⟩
  exact ⟨h1, h2⟩
set_option maxRecDepth 20000 in
set_option maxHeartbeats 8000000 in
theorem WalFull_ok (N M : Nat) (w : World) (h1 : 8 ≤ N) (h2 : N ≤ 100) (h3 : M ≤ 3000) :
    Calls Try.prog 9 #[.int .i64 N, .int .i64 M] w fun e w' => e = .returned (.bool true) ∧ Below w.heap.size w w' := by
  have i1 : ¬ (N : Int) < 8 := by omega
  have i2 : ¬ 100 < (N : Int) := by omega
  have i3 : ¬ (M : Int) < 0 := by omega
  have i4 : ¬ 3000 < (M : Int) := by omega
  have HMK : Hid (∀ W : World, (Instr.makeSlice 33 (.int .i64 (M : Int)) (.int .i64 (M : Int))).run Try.prog W = .ok (.slice (some ⟨W.heap.size, 0, none⟩) M M) (W.alloc (.cells (bv (List.replicate M 0)) 5))) := Lib.hid (zeros_run M (by omega))
  go_enter Try.func9, Try.ntmps9
  go_wp2_with fail
  refine (awake6_any w).mono ?_
  rintro e w1 ⟨rfl, hb1⟩
  have HB1 := Lib.hid hb1
  clear hb1
  go_wp2_with fail
  refine (lk_new w1 N h1 (by omega)).mono ?_
  rintro e w2 ⟨g, d1, rfl, hd1, ho1, hf1, -⟩
  have HO := Lib.hid (lk_open hd1 ho1 hf1)
  clear hd1 ho1 hf1
  go_wp2_with fail
  refine HO.out.mono ?_
  rintro e w3 ⟨gl, rfl, hl3, -⟩
  have HL3 := Lib.hid hl3
  clear hl3 HO
  go_wp2_with fail
  go_loopw [9, 10] (fun vc vi wr => ∃ k : Nat, k ≤ 200 ∧ vc = .int .i64 k ∧ vi = .int .i64 k ∧ ∃ d x, LK w1 wr w1.heap.size g gl N d x ∧ x.all.length = k) (fun _ vi _ => 200 - (intOf vi).toNat)
  case atStart => exact ⟨0, by omega, rfl, rfl, d1, _, HL3.out, rfl⟩
  case round =>
    obtain ⟨k, hk, rfl, rfl, d, x, hl, hxk⟩ := hrel
    have HL := Lib.hid hl; have HXK := Lib.hid hxk
    clear hl hxk HL3
    by_cases hlt : k < 200
    · have hltI : (k : Int) < 200 := by omega
      have HFR := Lib.hid (lk_free HL.out)
      go_wp2_with fail
      refine HFR.out.mono ?_
      rintro e w4 ⟨rfl, hb4⟩
      have HL4 := Lib.hid (HL.out.below hb4)
      obtain ⟨fr, hfr⟩ : ∃ fr, fr = freeN N x := ⟨_, rfl⟩
      rw [← hfr]
      unfold freeN at hfr
      by_cases hfit : x.buf.length + 16 + M ≤ WalMath.room N
      · have HAD := Lib.hid (lk_addz HL4.out M (by omega) hfit)
        have hmk := HMK.out
        have hwk : IntKind.i64.wrap ((k : Int) + 1) = ((k + 1 : Nat) : Int) := by rw [IntKind.wrap_i64]; omega
        clear hfit hfr hb4 HFR
        go_wp2_with fail
        refine HAD.out.mono ?_
        rintro e w5 ⟨rfl, d5, hl5⟩
        have HL5 := Lib.hid hl5
        have HK5 : Hid ((WalMath.addX x (List.replicate M 0)).all.length = k + 1) := Lib.hid (by show (x.all ++ _).length = _; rw [List.length_append, HXK.out]; rfl)
        clear hl5 HAD hmk
        by_cases q1 : M ≤ fr
        · have q1' : decide (M ≤ fr) = true := decide_eq_true q1
          by_cases q2 : 0 < fr
          · have q2' : decide (0 < fr) = true := decide_eq_true q2
            go_wp2
            go_roundw
            case rel => exact ⟨k + 1, by omega, by go_num, by go_num, d5, _, HL5.out, HK5.out⟩
            case measure => simp [intOf]; omega
          · have q2' : decide (0 < fr) = false := decide_eq_false q2
            go_wp2
            go_roundw
            case rel => exact ⟨k + 1, by omega, by go_num, by go_num, d5, _, HL5.out, HK5.out⟩
            case measure => simp [intOf]; omega
        · have q1' : decide (M ≤ fr) = false := decide_eq_false q1
          go_wp2
          go_roundw
          case rel => exact ⟨k + 1, by omega, by go_num, by go_num, d5, _, HL5.out, HK5.out⟩
          case measure => simp [intOf]; omega
      · have HAD := Lib.hid (lk_fullz HL4.out M (by omega) (by omega))
        have hmk := HMK.out
        by_cases q1 : M ≤ fr
        · have q1' : decide (M ≤ fr) = true := decide_eq_true q1
          have q2 : ¬ 0 < fr := by omega
          have q2' : decide (0 < fr) = false := decide_eq_false q2
          clear hfit hfr hb4 HFR
          go_wp2_with fail
          refine HAD.out.mono ?_
          rintro e w5 ⟨rfl, hl5⟩
          have HL5 := Lib.hid hl5
          clear hl5 HAD hmk
          have HA4 := Lib.hid (lk_all HL5.out)
          go_wp2_with fail
          refine HA4.out.mono ?_
          rintro e w5 ⟨v5, rfl, hs5, hb5⟩
          obtain ⟨A5, c5, rfl, _⟩ := hs5.shp
          rw [HXK.out]
          have HL5 := Lib.hid (HL5.out.below hb5)
          have HF5 := Lib.hid (lk_free HL5.out)
          clear hs5 hb5 HA4
          go_wp2_with fail
          refine HF5.out.mono ?_
          rintro e w6 ⟨rfl, hb6⟩
          obtain ⟨fr, hfr⟩ : ∃ fr, fr = freeN N x := ⟨_, rfl⟩
          rw [← hfr]
          have HFR := Lib.hid hfr; have HL6 := Lib.hid (HL5.out.below hb6)
          have hfr2 : fr ≤ 200000 := by rw [hfr]; unfold freeN; omega
          have hfrI : ¬ (fr : Int) < 0 := by omega
          clear hfr hb6 HF5
          by_cases hfp : 0 < fr
          · have hfpI : 0 < (fr : Int) := by omega
            have hfq : x.buf.length + 16 + fr ≤ WalMath.room N := by have := HFR.out; unfold freeN at this; omega
            have HMF : Hid (∀ W : World, (Instr.makeSlice 33 (.int .i64 (fr : Int)) (.int .i64 (fr : Int))).run Try.prog W = .ok (.slice (some ⟨W.heap.size, 0, none⟩) fr fr) (W.alloc (.cells (bv (List.replicate fr 0)) 5))) := Lib.hid (zeros_run fr (by omega))
            have HAD := Lib.hid (lk_addz HL6.out fr hfr2 hfq)
            have hmk := HMF.out
            clear hfq
            go_wp2_with fail
            refine HAD.out.mono ?_
            rintro e w7 ⟨rfl, d7, hl7⟩
            have HL7 := Lib.hid hl7
            have HK7 : Hid ((WalMath.addX x (List.replicate fr 0)).all.length = k + 1) := Lib.hid (by show (x.all ++ _).length = _; rw [List.length_append, HXK.out]; rfl)
            have hwk7 : IntKind.i64.wrap ((k : Int) + 1) = ((k + 1 : Nat) : Int) := by rw [IntKind.wrap_i64]; omega
            clear hl7 hmk HAD
            have HOP := Lib.hid (lk_open HL7.out.1.ds HL7.out.2.1 HL7.out.2.2)
            go_wp2_with fail
            refine HOP.out.mono ?_
            rintro e w8 ⟨gm, rfl, hl8, -⟩
            have HA8 := Lib.hid (lk_all hl8)
            have HB8 := Lib.hid hl8.1.ds.bel; have HZ8 := Lib.hid hl8.1.ds.sz
            clear hl8 HOP
            go_wp2_with fail
            refine HA8.out.mono ?_
            rintro e w9 ⟨v9, rfl, hs9, hb9⟩
            obtain ⟨A9, c9, rfl, _⟩ := hs9.shp
            rw [HK7.out]
            have HB9 := Lib.hid (HB1.out.trans ((below_then HB8.out HZ8.out hb9).mono HB1.out.size))
            clear hs9 hb9 HA8
            go_wp2
            go_ret
            exact ⟨rfl, HB9.out⟩
          · have hfpI : ¬ 0 < (fr : Int) := by omega
            have HOP := Lib.hid (lk_open HL6.out.1.ds HL6.out.2.1 HL6.out.2.2)
            go_wp2_with fail
            refine HOP.out.mono ?_
            rintro e w8 ⟨gm, rfl, hl8, -⟩
            have HA8 := Lib.hid (lk_all hl8)
            have HB8 := Lib.hid hl8.1.ds.bel; have HZ8 := Lib.hid hl8.1.ds.sz
            clear hl8 HOP
            go_wp2_with fail
            refine HA8.out.mono ?_
            rintro e w9 ⟨v9, rfl, hs9, hb9⟩
            obtain ⟨A9, c9, rfl, _⟩ := hs9.shp
            rw [HXK.out]
            have HB9 := Lib.hid (HB1.out.trans ((below_then HB8.out HZ8.out hb9).mono HB1.out.size))
            clear hs9 hb9 HA8
            go_wp2
            go_ret
            exact ⟨rfl, HB9.out⟩
        · have q1' : decide (M ≤ fr) = false := decide_eq_false q1
          clear hfit hfr hb4 HFR
          go_wp2_with fail
          refine HAD.out.mono ?_
          rintro e w5 ⟨rfl, hl5⟩
          have HL5 := Lib.hid hl5
          clear hl5 HAD hmk
          have HA4 := Lib.hid (lk_all HL5.out)
          go_wp2_with fail
          refine HA4.out.mono ?_
          rintro e w5 ⟨v5, rfl, hs5, hb5⟩
          obtain ⟨A5, c5, rfl, _⟩ := hs5.shp
          rw [HXK.out]
          have HL5 := Lib.hid (HL5.out.below hb5)
          have HF5 := Lib.hid (lk_free HL5.out)
          clear hs5 hb5 HA4
          go_wp2_with fail
          refine HF5.out.mono ?_
          rintro e w6 ⟨rfl, hb6⟩
          obtain ⟨fr, hfr⟩ : ∃ fr, fr = freeN N x := ⟨_, rfl⟩
          rw [← hfr]
          have HFR := Lib.hid hfr; have HL6 := Lib.hid (HL5.out.below hb6)
          have hfr2 : fr ≤ 200000 := by rw [hfr]; unfold freeN; omega
          have hfrI : ¬ (fr : Int) < 0 := by omega
          clear hfr hb6 HF5
          by_cases hfp : 0 < fr
          · have hfpI : 0 < (fr : Int) := by omega
            have hfq : x.buf.length + 16 + fr ≤ WalMath.room N := by have := HFR.out; unfold freeN at this; omega
            have HMF : Hid (∀ W : World, (Instr.makeSlice 33 (.int .i64 (fr : Int)) (.int .i64 (fr : Int))).run Try.prog W = .ok (.slice (some ⟨W.heap.size, 0, none⟩) fr fr) (W.alloc (.cells (bv (List.replicate fr 0)) 5))) := Lib.hid (zeros_run fr (by omega))
            have HAD := Lib.hid (lk_addz HL6.out fr hfr2 hfq)
            have hmk := HMF.out
            clear hfq
            go_wp2_with fail
            refine HAD.out.mono ?_
            rintro e w7 ⟨rfl, d7, hl7⟩
            have HL7 := Lib.hid hl7
            have HK7 : Hid ((WalMath.addX x (List.replicate fr 0)).all.length = k + 1) := Lib.hid (by show (x.all ++ _).length = _; rw [List.length_append, HXK.out]; rfl)
            have hwk7 : IntKind.i64.wrap ((k : Int) + 1) = ((k + 1 : Nat) : Int) := by rw [IntKind.wrap_i64]; omega
            clear hl7 hmk HAD
            have HOP := Lib.hid (lk_open HL7.out.1.ds HL7.out.2.1 HL7.out.2.2)
            go_wp2_with fail
            refine HOP.out.mono ?_
            rintro e w8 ⟨gm, rfl, hl8, -⟩
            have HA8 := Lib.hid (lk_all hl8)
            have HB8 := Lib.hid hl8.1.ds.bel; have HZ8 := Lib.hid hl8.1.ds.sz
            clear hl8 HOP
            go_wp2_with fail
            refine HA8.out.mono ?_
            rintro e w9 ⟨v9, rfl, hs9, hb9⟩
            obtain ⟨A9, c9, rfl, _⟩ := hs9.shp
            rw [HK7.out]
            have HB9 := Lib.hid (HB1.out.trans ((below_then HB8.out HZ8.out hb9).mono HB1.out.size))
            clear hs9 hb9 HA8
            go_wp2
            go_ret
            exact ⟨rfl, HB9.out⟩
          · have hfpI : ¬ 0 < (fr : Int) := by omega
            have HOP := Lib.hid (lk_open HL6.out.1.ds HL6.out.2.1 HL6.out.2.2)
            go_wp2_with fail
            refine HOP.out.mono ?_
            rintro e w8 ⟨gm, rfl, hl8, -⟩
            have HA8 := Lib.hid (lk_all hl8)
            have HB8 := Lib.hid hl8.1.ds.bel; have HZ8 := Lib.hid hl8.1.ds.sz
            clear hl8 HOP
            go_wp2_with fail
            refine HA8.out.mono ?_
            rintro e w9 ⟨v9, rfl, hs9, hb9⟩
            obtain ⟨A9, c9, rfl, _⟩ := hs9.shp
            rw [HXK.out]
            have HB9 := Lib.hid (HB1.out.trans ((below_then HB8.out HZ8.out hb9).mono HB1.out.size))
            clear hs9 hb9 HA8
            go_wp2
            go_ret
            exact ⟨rfl, HB9.out⟩
    · have hltI : ¬ (k : Int) < 200 := by omega
      have HA4 := Lib.hid (lk_all HL.out)
      go_wp2_with fail
      refine HA4.out.mono ?_
      rintro e w5 ⟨v5, rfl, hs5, hb5⟩
      obtain ⟨A5, c5, rfl, _⟩ := hs5.shp
      rw [HXK.out]
      have HL5 := Lib.hid (HL.out.below hb5)
      have HF5 := Lib.hid (lk_free HL5.out)
      clear hs5 hb5 HA4
      go_wp2_with fail
      refine HF5.out.mono ?_
      rintro e w6 ⟨rfl, hb6⟩
      obtain ⟨fr, hfr⟩ : ∃ fr, fr = freeN N x := ⟨_, rfl⟩
      rw [← hfr]
      have HFR := Lib.hid hfr; have HL6 := Lib.hid (HL5.out.below hb6)
      have hfr2 : fr ≤ 200000 := by rw [hfr]; unfold freeN; omega
      have hfrI : ¬ (fr : Int) < 0 := by omega
      clear hfr hb6 HF5
      by_cases hfp : 0 < fr
      · have hfpI : 0 < (fr : Int) := by omega
        have hfq : x.buf.length + 16 + fr ≤ WalMath.room N := by have := HFR.out; unfold freeN at this; omega
        have HMF : Hid (∀ W : World, (Instr.makeSlice 33 (.int .i64 (fr : Int)) (.int .i64 (fr : Int))).run Try.prog W = .ok (.slice (some ⟨W.heap.size, 0, none⟩) fr fr) (W.alloc (.cells (bv (List.replicate fr 0)) 5))) := Lib.hid (zeros_run fr (by omega))
        have HAD := Lib.hid (lk_addz HL6.out fr hfr2 hfq)
        have hmk := HMF.out
        clear hfq
        go_wp2_with fail
        refine HAD.out.mono ?_
        rintro e w7 ⟨rfl, d7, hl7⟩
        have HL7 := Lib.hid hl7
        have HK7 : Hid ((WalMath.addX x (List.replicate fr 0)).all.length = k + 1) := Lib.hid (by show (x.all ++ _).length = _; rw [List.length_append, HXK.out]; rfl)
        have hwk7 : IntKind.i64.wrap ((k : Int) + 1) = ((k + 1 : Nat) : Int) := by rw [IntKind.wrap_i64]; omega
        clear hl7 hmk HAD
        have HOP := Lib.hid (lk_open HL7.out.1.ds HL7.out.2.1 HL7.out.2.2)
        go_wp2_with fail
        refine HOP.out.mono ?_
        rintro e w8 ⟨gm, rfl, hl8, -⟩
        have HA8 := Lib.hid (lk_all hl8)
        have HB8 := Lib.hid hl8.1.ds.bel; have HZ8 := Lib.hid hl8.1.ds.sz
        clear hl8 HOP
        go_wp2_with fail
        refine HA8.out.mono ?_
        rintro e w9 ⟨v9, rfl, hs9, hb9⟩
        obtain ⟨A9, c9, rfl, _⟩ := hs9.shp
        rw [HK7.out]
        have HB9 := Lib.hid (HB1.out.trans ((below_then HB8.out HZ8.out hb9).mono HB1.out.size))
        clear hs9 hb9 HA8
        go_wp2
        go_ret
        exact ⟨rfl, HB9.out⟩
      · have hfpI : ¬ 0 < (fr : Int) := by omega
        have HOP := Lib.hid (lk_open HL6.out.1.ds HL6.out.2.1 HL6.out.2.2)
        go_wp2_with fail
        refine HOP.out.mono ?_
        rintro e w8 ⟨gm, rfl, hl8, -⟩
        have HA8 := Lib.hid (lk_all hl8)
        have HB8 := Lib.hid hl8.1.ds.bel; have HZ8 := Lib.hid hl8.1.ds.sz
        clear hl8 HOP
        go_wp2_with fail
        refine HA8.out.mono ?_
        rintro e w9 ⟨v9, rfl, hs9, hb9⟩
        obtain ⟨A9, c9, rfl, _⟩ := hs9.shp
        rw [HXK.out]
        have HB9 := Lib.hid (HB1.out.trans ((below_then HB8.out HZ8.out hb9).mono HB1.out.size))
        clear hs9 hb9 HA8
        go_wp2
        go_ret
        exact ⟨rfl, HB9.out⟩
set_option maxRecDepth 20000 in
theorem WalFull_walk (s n : Int) (w : World) (ws : (Lit.int .i64 s).wf = true) (wn : (Lit.int .i64 n).wf = true) :
    Calls Try.prog 9 #[.int .i64 s, .int .i64 n] w fun e w' => e = .returned (.bool true) ∧ Below w.heap.size w w' := by
  by_cases h : 8 ≤ s ∧ s ≤ 100 ∧ 0 ≤ n ∧ n ≤ 3000
  · obtain ⟨N, rfl⟩ := Int.eq_ofNat_of_zero_le (show 0 ≤ s by omega)
    obtain ⟨M, rfl⟩ := Int.eq_ofNat_of_zero_le (show 0 ≤ n by omega)
    exact WalFull_ok N M w (by omega) (by omega) (by omega)
  · clear ws wn
    by_cases h1 : s < 8
    ·
      clear h
      go_enter Try.func9, Try.ntmps9
      go_wp2_with fail
      refine (awake6_any _).mono ?_
      rintro e w1 ⟨rfl, hb1⟩
      have HB1 := Lib.hid hb1
      clear hb1
      go_wp2_with fail
      go_ret
      exact ⟨rfl, HB1.out⟩
    · by_cases h2 : 100 < s
      ·
        clear h
        go_enter Try.func9, Try.ntmps9
        go_wp2_with fail
        refine (awake6_any _).mono ?_
        rintro e w1 ⟨rfl, hb1⟩
        have HB1 := Lib.hid hb1
        clear hb1
        go_wp2_with fail
        go_ret
        exact ⟨rfl, HB1.out⟩
      · by_cases h3 : n < 0
        ·
          clear h
          go_enter Try.func9, Try.ntmps9
          go_wp2_with fail
          refine (awake6_any _).mono ?_
          rintro e w1 ⟨rfl, hb1⟩
          have HB1 := Lib.hid hb1
          clear hb1
          go_wp2_with fail
          go_ret
          exact ⟨rfl, HB1.out⟩
        · have h4 : 3000 < n := by omega
          clear h
          go_enter Try.func9, Try.ntmps9
          go_wp2_with fail
          refine (awake6_any _).mono ?_
          rintro e w1 ⟨rfl, hb1⟩
          have HB1 := Lib.hid hb1
          clear hb1
          go_wp2_with fail
          go_ret
          exact ⟨rfl, HB1.out⟩
end Go.Proofs.Ytbpecfbliglboaa
/- wal: more words for the laws: rows of strings of one's own; what draws its order. -/
namespace Go.Proofs.Ytbpecfbliglboaa
open Go.RowKit Go.Maps
set_option linter.unusedVariables false
set_option linter.unusedSimpArgs false
theorem Rdl.of_row {w : World} {A : Option Addr} {ls : List (List UInt8)} (h : Row (KSlice KByte 1 1) 1 w A ls) (hl : ls.length ≤ 9223372036854775807) : Rdl w A ls :=
  ⟨hl, fun hp => by
    obtain ⟨a, e, hc⟩ := h hp
    refine ⟨a, e, fun j hj => ?_⟩
    obtain ⟨cs, hcl, ⟨A', c', hcs, h1, h2, h3, h4⟩, hcell⟩ := hc j hj
    have h0 := hcell 0 (by omega)
    subst hcs
    exact ⟨A', c', by simpa using h0, h1, Rd.of_row h4 (by omega)⟩⟩
theorem LS.other {w0 w w1 : World} {B g gl b : Nat} {d : DevMath.Dev} {x : WalMath.Lg} {dn : Bool} {cs : Array Value} {t : Nat} {fr : Nat × Nat} (h : LS w0 w B g gl d x dn) (hb : w.heap[b]? = some (.cells cs t fr)) (hB : B ≤ b) (h1 : t ≠ 71) (h2 : t ≠ 75) (h3 : t ≠ 5) (h4 : t ≠ 3) (h5 : t ≠ 87) (h6 : t ≠ 33) (hc : Chg (· = b) w w1) : LS w0 w1 B g gl d x dn := by
  obtain ⟨vb, va, q1, q2, q3, q4, q5⟩ := h
  refine ⟨vb, va, hc.heap q1 (fun e => ?_), q2, q3.chg hc (not_u8 hb h3), q4.log hb h3 h6 hc, q5.other hb hB h1 h2 h3 h4 hc⟩
  rw [e, hb] at q1
  injection q1 with q1
  injection q1 with _ q1
  exact h5 q1
/-- strings of one's own -/
def stv (ss : List (List UInt8)) : List Value := ss.map fun s => Value.string ⟨s.toArray⟩
def Sow (w : World) (base : Nat) (v : Value) (ss : List (List UInt8)) : Prop := w.ownsRow base 9 1 v ss.length (stv ss)
theorem Sow.nil (w : World) (base : Nat) : Sow w base (.slice none 0 0) [] := ⟨rfl, .inl ⟨rfl, rfl⟩⟩
theorem Sow.below {w w1 : World} {base : Nat} {v : Value} {ss : List (List UInt8)} (h : Sow w base v ss) (hb : Below w.heap.size w w1) : Sow w1 base v ss :=
  World.ownsRow.kept h ⟨hb.os, hb.tape, hb.output, hb.size, fun k hk _ => hb.block k hk⟩ (row := none) (by cases v.ownBlock <;> simp)
theorem Sow.tl {w w1 : World} {base : Nat} {v : Value} {ss : List (List UInt8)} (h : Sow w base v ss) (ht : TL w w1) : Sow w1 base v ss := by
  refine ⟨h.1, ?_⟩
  rcases h.2 with h | ⟨g, cap, cur, hv, hb, hh, hr⟩
  · exact .inl h
  · exact .inr ⟨g, cap, cur, hv, hb, ht _ _ _ _ (by decide) (by decide) ⟨by decide, by decide⟩ hh, hr⟩
theorem Sow.str {w : World} {base : Nat} {v : Value} {ss : List (List UInt8)} (h : Sow w base v ss) : StR w v ss := by
  rcases h.2 with ⟨rfl, h0⟩ | ⟨g, cap, cur, rfl, hb, hh, hc, hm, hsz, htk⟩
  · obtain rfl : ss = [] := List.eq_nil_of_length_eq_zero h0
    exact StR.nil w
  · refine ⟨_, cap, rfl, hc, fun hp => ⟨_, rfl, fun j hj => ?_⟩⟩
    exact World.ownsRow.cells (g := g) h rfl j _ (by simp [stv, hj])
theorem Sow.shp {w : World} {base : Nat} {v : Value} {ss : List (List UInt8)} (h : Sow w base v ss) : ∃ A c, v = .slice A ss.length c ∧ ss.length ≤ c := by
  rcases h.2 with ⟨rfl, hn⟩ | ⟨g, cap, cur, rfl, hb, hh, hc, _⟩
  · exact ⟨none, 0, by rw [hn], by omega⟩
  · exact ⟨_, cap, rfl, hc⟩
theorem info_str : (Try.prog.info? 9).map (fun i => (i.zero, i.size, i.bytes)) = some (some (.string ByteArray.empty), 1, 16) := by kernel_rfl
theorem sow_app {w : World} {base : Nat} {v : Value} {ss : List (List UInt8)} {s : List UInt8} (HO : Sow w base v ss) (hB : base ≤ w.heap.size) (hlen : ss.length ≤ 1000000000) :
    ∃ v' W', (Builtin.append_ #[48, 48] 48 #[v, .slice (some ⟨w.heap.size, 0, none⟩) 1 1]).run Try.prog (w.alloc (.cells #[.string ⟨s.toArray⟩] 9)) = .ok v' W' ∧ Sow W' base v' (ss ++ [s]) ∧ Below base w W' ∧ (w.alloc (.cells #[.string ⟨s.toArray⟩] 9)).grownBy W' v.ownBlock := by
  obtain ⟨W, hW⟩ : ∃ W, W = w.alloc (.cells #[.string ⟨s.toArray⟩] 9) := ⟨_, rfl⟩
  have hbW : Below w.heap.size w W := by rw [hW]; exact below_new w _
  have hg : W.heap[w.heap.size]? = some (.cells #[.string ⟨s.toArray⟩] 9) := by rw [hW]; exact heap_new w _ _ rfl
  rw [← hW]
  obtain ⟨i0, hi, hzz⟩ := Option.map_eq_some_iff.1 info_str
  simp only [Prod.mk.injEq] at hzz
  have hsrc : Src W (some ⟨w.heap.size, 0, none⟩) [.string ⟨s.toArray⟩] := fun _ => ⟨_, rfl, fun j u hu => by
    have ha : (⟨w.heap.size, 0, none⟩ : Addr).add j = ⟨w.heap.size, j, none⟩ := by unfold Addr.add; split <;> simp_all
    rw [ha, cell_of_row _ _ j _ _ _ hg]
    simpa using hu⟩
  obtain ⟨v1, W', hr, k1, k2⟩ := append_dicho (P := Try.prog) W base 48 48 9 i0 _ 1 16 Try.underlying48 hi hzz.1 hzz.2.1 hzz.2.2 rfl (by decide) (by decide) v ss.length (stv ss) (HO.below hbW) (some ⟨w.heap.size, 0, none⟩) 1 1 [.string ⟨s.toArray⟩] rfl hsrc (by intro u hu; simp at hu; subst hu; rfl) (by omega) (Nat.le_trans hB hbW.size)
  have hgr : W.grownBy W' v.ownBlock := by
    rcases k2 with ⟨g, cur, q1, q2, q3, q4, q5, q6⟩ | ⟨q1, q2⟩
    · rw [q1]; exact q6
    · exact ⟨q1.os, q1.tape, q1.output, q1.size, fun k hk _ => q1.block k hk⟩
  refine ⟨v1, W', hr, ?_, ?_, hgr⟩
  · unfold Sow
    rw [List.length_append, show stv (ss ++ [s]) = stv ss ++ [.string ⟨s.toArray⟩] by simp [stv]]
    exact k1
  · refine (hbW.mono hB).trans ⟨hgr.os, hgr.tape, hgr.output, hgr.size, fun k hk => hgr.block k (Nat.lt_of_lt_of_le hk (Nat.le_trans hB hbW.size)) (fun e => by have := (World.ownsRow.lt HO k e.symm).1; omega)⟩
theorem LS.sow {w0 W W' : World} {B base g gl : Nat} {d : DevMath.Dev} {x : WalMath.Lg} {dn : Bool} {v : Value} {ss : List (List UInt8)} (h : LS w0 W B g gl d x dn) (hs : Sow W base v ss) (hB : B ≤ base) (hg : W.grownBy W' v.ownBlock) : LS w0 W' B g gl d x dn := by
  rcases hs.2 with ⟨rfl, _⟩ | ⟨b, cap, cur, rfl, hb, hh, _⟩
  · exact h.below ⟨hg.os, hg.tape, hg.output, hg.size, fun k hk => hg.block k hk (by simp [Value.ownBlock])⟩
  · exact h.other hh (Nat.le_trans hB hb) (by decide) (by decide) (by decide) (by decide) (by decide) (by decide) ⟨hg.os, hg.tape, hg.output, hg.size, fun k hk hne => hg.block k hk (by simp only [Value.ownBlock]; intro e; injection e with e; exact hne e)⟩
/-! what calls leave in a region that draws -/
def vS (u : Value) : Stu.SpU Gb Gb := ⟨false, fun _ v => v = u, fun _ _ _ => True, fun _ _ => True, fun _ _ _ _ _ _ => trivial, fun _ _ _ _ _ => trivial⟩
def alS (S n : Nat) (rs : List (List UInt8)) : Stu.SpU Gb Gb := ⟨false, fun _ v => ∃ A c, v = .slice A n c ∧ n ≤ c, fun _ v W => Bso W S v rs, fun _ _ => True, fun _ _ _ _ h hg => h.below hg, fun _ _ _ _ _ => trivial⟩
theorem al_rel {w0 W : World} {B g gl n m S : Nat} {d : DevMath.Dev} {x : WalMath.Lg} (h : LK w0 W B g gl n d x) (rs : List (List UInt8)) (hx : x.all = rs) (hm : rs.length = m) (hS : S ≤ W.heap.size) (xs : List Value) :
    Calls Try.prog 38 #[.pointer (some ⟨gl, 0, none⟩)] W fun e w' => ∃ v, e = .returned v ∧ Gb W w' ∧ (alS S m rs).p xs v ∧ (alS S m rs).q xs v w' := by
  refine (lk_all h).mono ?_
  rintro e w1 ⟨v, rfl, hb, hbl⟩
  rw [hx] at hb
  obtain ⟨A, c, rfl, hc⟩ := hb.shp
  rw [hm] at hc hb ⊢
  obtain ⟨ys, q1, q2⟩ := hb
  refine ⟨_, rfl, hbl, ⟨A, c, rfl, hc⟩, ys, ⟨q1.1, ?_⟩, q2⟩
  rcases q1.2 with h | ⟨g', cap, cur, hv, hbb, hh, hr⟩
  · exact .inl h
  · exact .inr ⟨g', cap, cur, hv, Nat.le_trans hS hbb, hh, hr⟩
theorem ba_rel {w0 W : World} {B g gl n m : Nat} {d : DevMath.Dev} {x : WalMath.Lg} (h : LK w0 W B g gl n d x) (b : List UInt8) (hx : x.buf.take x.base = b) (hm : b.length = m) (xs : List Value) :
    Calls Try.prog 37 #[.pointer (some ⟨gl, 0, none⟩)] W fun e w' => ∃ v, e = .returned v ∧ Gb W w' ∧ (clG m b).p xs v ∧ (clG m b).q xs v w' := by
  refine (lk_base h).mono ?_
  rintro e w1 ⟨v, rfl, hs, hbl⟩
  rw [hx] at hs
  obtain ⟨A, c, rfl, hc, _⟩ := hs.rd
  rw [hm] at hc hs ⊢
  exact ⟨_, rfl, hbl, ⟨A, c, rfl, hc⟩, hs⟩
theorem ro_rel (W : World) (S : Nat) (A1 A2 : Option Addr) (n m c1 c2 : Nat) (rs ss : List (List UInt8)) (hn : rs.length = n) (hm : ss.length = m) (h1 : Bso W S (.slice A1 n c1) rs) (h2 : StR W (.slice A2 m c2) ss) (hl : n ≤ 1000000) (b : Bool) (hb : decide (rs = ss) = b) (xs : List Value) :
    Calls Try.prog 40 #[.slice A1 n c1, .slice A2 m c2] W fun e w' => ∃ v, e = .returned v ∧ Gb W w' ∧ (vS (.bool b)).p xs v ∧ (vS (.bool b)).q xs v w' := by
  refine (rows_any W S A1 A2 n m c1 c2 rs ss hn.symm hm.symm h1 h2 hl).mono ?_
  rintro e w1 ⟨rfl, hb1⟩
  rw [hb]
  exact ⟨_, rfl, hb1, rfl, trivial⟩
end Go.Proofs.Ytbpecfbliglboaa
/- The law WalKeeps, walked. -/
namespace Go.Proofs.Ytbpecfbliglboaa
open Go.RowKit
set_option linter.unusedVariables false
set_option linter.unusedSimpArgs false
attribute [local irreducible] Stu.wpR Stu.relOp
theorem addX_len (x : WalMath.Lg) (body : List UInt8) : (WalMath.addX x body).buf.length = x.buf.length + 16 + body.length := addB_len x body
theorem addX_base (x : WalMath.Lg) (body : List UInt8) (h : x.base ≤ x.buf.length) : (WalMath.addX x body).buf.take (WalMath.addX x body).base = x.buf.take x.base := by
  show (x.buf ++ _).take x.base = _
  rw [List.take_append_of_le_length h]
theorem keepX_base (x : WalMath.Lg) (body : List UInt8) : (WalMath.keepX x body).buf.take (WalMath.keepX x body).base = body := List.take_of_length_le (Nat.le_refl _)
set_option maxRecDepth 20000 in
set_option maxHeartbeats 8000000 in
theorem WalKeeps_ok (A1 A2 A3 : Option Addr) (c1 c2 c3 : Nat) (la bs : List (List UInt8)) (base : List UInt8) (w : World) (ra : Rdl w A1 la) (hc1 : la.length ≤ c1) (rb : Rd w A2 base) (hc2 : base.length ≤ c2) (rc : Rdl w A3 bs) (hc3 : bs.length ≤ c3) (h1 : la.length ≤ 10) (h2 : base.length ≤ 1000) (h3 : bs.length ≤ 10) :
    Calls Try.prog 10 #[.slice A1 la.length c1, .slice A2 base.length c2, .slice A3 bs.length c3] w fun e w' => e = .returned (.bool true) ∧ Below w.heap.size w w' := by
  obtain ⟨n1, hn1⟩ : ∃ n, n = la.length := ⟨_, rfl⟩
  obtain ⟨n2, hn2⟩ : ∃ n, n = base.length := ⟨_, rfl⟩
  obtain ⟨n3, hn3⟩ : ∃ n, n = bs.length := ⟨_, rfl⟩
  rw [← hn1] at hc1 h1 ⊢; rw [← hn2] at hc2 h2 ⊢; rw [← hn3] at hc3 h3 ⊢
  have HN1 := Lib.hid hn1; have HN2 := Lib.hid hn2; have HN3 := Lib.hid hn3; have HRA := Lib.hid ra; have HRB := Lib.hid rb; have HRC := Lib.hid rc
  have i1 : ¬ (10 : Int) < (n1 : Int) := by omega
  have i2 : ¬ (1000 : Int) < (n2 : Int) := by omega
  have i3 : ¬ (10 : Int) < (n3 : Int) := by omega
  have HROOM : Hid (WalMath.room 400 = 101888) := Lib.hid rfl
  clear hn1 hn2 hn3 ra rb rc
  go_enter Try.func10, Try.ntmps10
  go_wp2_with fail
  refine (awake6_any w).mono ?_
  rintro e w1 ⟨rfl, hb1⟩
  have HB1 := Lib.hid hb1
  clear hb1
  go_wp2_with fail
  refine (lk_new w1 400 (by decide) (by decide)).mono ?_
  rintro e w2 ⟨g, d1, rfl, hd1, ho1, hf1, -⟩
  have HO := Lib.hid (lk_open hd1 ho1 hf1)
  clear hd1 ho1 hf1
  go_wp2_with fail
  refine HO.out.mono ?_
  rintro e w3 ⟨gl, rfl, hl3, -⟩
  have HL3 := Lib.hid hl3
  clear hl3 HO
  go_wp2_with fail
  rename World => wA
  go_loopw [11] (fun vi wr => ∃ k : Nat, k ≤ n1 ∧ vi = .int .i64 k ∧ ∃ d x, LK w1 wr w1.heap.size g gl 400 d x ∧ x.buf.length ≤ 516 * k) (fun vi _ => n1 - (intOf vi).toNat)
  case atStart => exact ⟨0, by omega, rfl, d1, _, HL3.out, by simp [WalMath.empty]⟩
  case round =>
    obtain ⟨k, hk, rfl, d, x, hl, hxl⟩ := hrel
    have HL := Lib.hid hl; have HXL := Lib.hid hxl
    have hbw := below_then HB1.out HB1.out.size hl.1.ds.bel
    have HBW := Lib.hid hbw
    clear hl hxl
    by_cases hlt : k < n1
    · have hltI : (k : Int) < (n1 : Int) := by omega
      have hka : k < la.length := by rw [← HN1.out]; exact hlt
      obtain ⟨a, A', c', rfl, hcell, hcc, hrd⟩ := (HRA.out.below hbw).at_ k hka
      have hrd0 : Rd w A' (la[k]'hka) := by
        obtain ⟨a2, A2', c2', e2, hcell2, _, hrd2⟩ := HRA.out.at_ k hka
        injection e2 with e2
        subst e2
        have := cell_below hbw hcell2
        rw [hcell] at this
        injection this with this
        injection this with q1 q2 q3
        subst q1
        exact hrd2
      obtain ⟨body, hbody⟩ : ∃ b, b = la[k]'hka := ⟨_, rfl⟩
      rw [← hbody] at hcell hcc hrd hrd0
      obtain ⟨L, hLe⟩ : ∃ L, L = body.length := ⟨_, rfl⟩
      rw [← hLe] at hcell hcc
      have HRD0 := Lib.hid hrd0; have HLE := Lib.hid hLe
      have hwk : IntKind.i64.wrap ((k : Int) + 1) = ((k + 1 : Nat) : Int) := by rw [IntKind.wrap_i64]; omega
      clear hbody hrd hrd0 hbw hLe
      by_cases hL : L ≤ 500
      · have hLI : ¬ (500 : Int) < (L : Int) := by omega
        have hadd := lk_add (m := L) (c := c') HL.out (fun W hb _ => HRD0.out.below (below_then HB1.out HB1.out.size hb)) HLE.out (by omega) (by rw [HROOM.out, addB_len, ← HLE.out]; have := HXL.out; omega)
        have HADD := Lib.hid hadd
        clear hadd
        go_wp2_with fail
        refine HADD.out.mono ?_
        rintro e w4 ⟨rfl, ⟨d4, hl4⟩, -⟩
        have HL4 := Lib.hid hl4
        have HXL4 : Hid ((WalMath.addX x body).buf.length ≤ 516 * (k + 1)) := Lib.hid (by rw [addX_len, ← HLE.out]; have := HXL.out; omega)
        clear hl4 hcell HADD
        go_wp2
        go_roundw
        case rel => exact ⟨k + 1, by omega, by go_num, d4, _, HL4.out, HXL4.out⟩
        case measure => simp [intOf]; omega
      · have hLI : (500 : Int) < (L : Int) := by omega
        go_wp2
        go_ret
        exact ⟨rfl, HBW.out⟩
    · have hltI : ¬ (k : Int) < (n1 : Int) := by omega
      have hkeep := lk_keep (m := n2) (c := c2) HL.out (HRB.out.below hbw) HN2.out (by omega) (by rw [HROOM.out, ← HN2.out]; omega)
      have HKP := Lib.hid hkeep
      clear hkeep hbw HBW
      go_wp2_with fail
      refine HKP.out.mono ?_
      rintro e w4 ⟨rfl, ⟨d4, hl4⟩, -⟩
      have HL4 := Lib.hid hl4
      have hal := lk_all hl4
      rw [show (WalMath.keepX x base).all = [] from rfl] at hal
      have HAL := Lib.hid hal
      clear hal hl4 HKP
      go_wp2_with fail
      refine HAL.out.mono ?_
      rintro e w5 ⟨v5, rfl, hs5, hb5⟩
      obtain ⟨A5, c5, rfl, _⟩ := hs5.shp
      have HL5 := Lib.hid (HL4.out.below hb5)
      clear hs5 hb5 HAL HL4
      go_wp2_with fail
      rename World => wB
      go_loopw [12, 13] (fun vw vj wr => ∃ k : Nat, k ≤ n3 ∧ vj = .int .i64 k ∧ (∃ d x, LK w1 wr w1.heap.size g gl 400 d x ∧ x.buf.length ≤ 1000 + 516 * k ∧ x.all = bs.take k ∧ x.buf.take x.base = base) ∧ Sow wr w1.heap.size vw (bs.take k)) (fun _ vj _ => n3 - (intOf vj).toNat)
      case atStart => exact ⟨0, by omega, rfl, ⟨d4, _, HL5.out, by show base.length ≤ _; rw [← HN2.out]; omega, rfl, keepX_base x base⟩, Sow.nil _ _⟩
      case round =>
        rename World => wr
        obtain ⟨j, hj, rfl, ⟨d6, x6, hl6, hxl6, hxa6, hxb6⟩, hsw⟩ := hrel
        have HL6 := Lib.hid hl6; have HXL6 := Lib.hid hxl6; have HXA6 := Lib.hid hxa6; have HXB6 := Lib.hid hxb6; have HSW := Lib.hid hsw
        obtain ⟨Aw, cw, rfl, hcw⟩ := hsw.shp
        have htl : (bs.take j).length = j := by rw [List.length_take, ← HN3.out]; omega
        rw [htl] at hcw HSW ⊢
        have HTL := Lib.hid htl
        have hbw := below_then HB1.out HB1.out.size hl6.1.ds.bel
        have HBW := Lib.hid hbw
        clear hl6 hxl6 hxa6 hxb6 hsw htl HL5
        by_cases hlt3 : j < n3
        · have hltI3 : (j : Int) < (n3 : Int) := by omega
          have hka : j < bs.length := by rw [← HN3.out]; exact hlt3
          obtain ⟨a, A', c', rfl, hcell0, hcc, hrd0⟩ := HRC.out.at_ j hka
          have htk := take_succ_at bs j hka
          obtain ⟨body, hbody⟩ : ∃ b, b = bs[j]'hka := ⟨_, rfl⟩
          rw [← hbody] at hcell0 hcc hrd0 htk
          obtain ⟨L, hLe⟩ : ∃ L, L = body.length := ⟨_, rfl⟩
          rw [← hLe] at hcell0 hcc
          have hcell := cell_below hbw hcell0
          have HRD0 := Lib.hid hrd0; have HLE := Lib.hid hLe; have HTK := Lib.hid htk; have HCELL := Lib.hid hcell0
          have hwk : IntKind.i64.wrap ((j : Int) + 1) = ((j + 1 : Nat) : Int) := by rw [IntKind.wrap_i64]; omega
          clear hbody hrd0 hbw hLe htk hcell0
          by_cases hL : L ≤ 500
          · have hLI : ¬ (500 : Int) < (L : Int) := by omega
            have hadd := lk_add (m := L) (c := c') HL6.out (fun W hb _ => HRD0.out.below (below_then HB1.out HB1.out.size hb)) HLE.out (by omega) (by rw [HROOM.out, addB_len, ← HLE.out]; have := HXL6.out; omega)
            have HADD := Lib.hid hadd
            clear hadd
            go_wp2_with fail
            refine HADD.out.mono ?_
            rintro e w7 ⟨rfl, ⟨d7, hl7⟩, htl7⟩
            have hbw7 := below_then HB1.out HB1.out.size hl7.1.ds.bel
            have hcell7 := cell_below hbw7 HCELL.out
            have hcv7 : (convert 33 9 (.slice A' L c')).run Try.prog w7 = .ok (.string ⟨body.toArray⟩) w7 := (HRD0.out.below hbw7).str L c' HLE.out.symm
            obtain ⟨v8, w8, hrun, hs8, hb8, hg8⟩ := sow_app (s := body) (HSW.out.tl htl7) hl7.1.ds.sz (by rw [HTL.out]; omega)
            have hl8 : LK w1 w8 w1.heap.size g gl 400 d7 (WalMath.addX x6 body) := ⟨(hl7.1.below (below_new w7 _)).sow ((HSW.out.tl htl7).below (below_new w7 _)) (Nat.le_refl _) hg8, hl7.2⟩
            have HREL : Hid ((∃ d x, LK w1 w8 w1.heap.size g gl 400 d x ∧ x.buf.length ≤ 1000 + 516 * (j + 1) ∧ x.all = bs.take (j + 1) ∧ x.buf.take x.base = base) ∧ Sow w8 w1.heap.size v8 (bs.take (j + 1))) := Lib.hid ⟨⟨d7, _, hl8, by rw [addX_len, ← HLE.out]; have := HXL6.out; omega, by show x6.all ++ [body] = _; rw [HXA6.out, HTK.out], by rw [addX_base x6 body (HL6.out.2.1.small.1)]; exact HXB6.out⟩, by rw [HTK.out]; exact hs8⟩
            have HRUN := Lib.hid hrun
            clear hl7 htl7 hbw7 hrun hs8 hb8 hg8 hl8 hcell HADD
            go_wp2_with (at_builtin; refine Lib.wpList_append_run _ rfl _ _ _ _ rfl _ _ rfl rfl _ _ HRUN.out ?_)
            go_roundw
            case rel => exact ⟨j + 1, by omega, by go_num, HREL.out.1, HREL.out.2⟩
            case measure => simp [intOf]; omega
          · have hLI : (500 : Int) < (L : Int) := by omega
            go_wp2
            go_ret
            exact ⟨rfl, HBW.out⟩
        · have hltI3 : ¬ (j : Int) < (n3 : Int) := by omega
          have htk : bs.take j = bs := List.take_of_length_le (by rw [← HN3.out]; omega)
          have hsw := HSW.out; have hxa := HXA6.out
          rw [htk] at hsw hxa
          have HSW2 := Lib.hid hsw; have HXA := Lib.hid hxa
          have HOP := Lib.hid (lk_open HL6.out.1.ds HL6.out.2.1 HL6.out.2.2)
          clear hsw hxa htk hbw HBW
          go_wp2_with fail
          refine HOP.out.mono ?_
          rintro e w9 ⟨gm, rfl, hl9, hb9, -⟩
          have HL9 := Lib.hid hl9; have HLL := Lib.hid (HL6.out.below hb9); have HSW9 := Lib.hid (HSW2.out.below hb9)
          clear hl9 hb9 HOP
          go_wp2_with fail
          obtain ⟨BS, hBS⟩ : ∃ s : ByteArray, s = ⟨base.toArray⟩ := ⟨_, rfl⟩
          have HBS := Lib.hid hBS
          obtain ⟨S, hS⟩ : ∃ S, S = w9.heap.size := ⟨_, rfl⟩
          have HW : Hid (∀ W, Gb w9.drew W → LK w1 W w1.heap.size g gm 400 d6 x6 ∧ LK w1 W w1.heap.size g gl 400 d6 x6 ∧ Rd W A2 base ∧ StR W (.slice Aw j cw) bs ∧ S ≤ W.heap.size) := Lib.hid fun W hW => by
            have hb := Below.trans (Below.drew (Below.refl _ w9)) hW
            refine ⟨HL9.out.below hb, HLL.out.below hb, HRB.out.below (below_then HB1.out HB1.out.size (HL9.out.below hb).1.ds.bel), ?_, by rw [hS]; exact hb.size⟩
            have := (HSW9.out.below hb).str
            exact this
          have hjn : bs.length = j := by rw [← HN3.out]; omega
          have HJN := Lib.hid hjn
          have HSB : Hid (Below w.heap.size w w9) := Lib.hid (below_then HB1.out HB1.out.size HL9.out.1.ds.bel)
          have hj6 : j ≤ 1000000 := by omega
          clear hBS hS hjn HL9 HLL HSW9 HL6 HSW HSW2
          refine Stu.wp_region_stu _ (Stu.mkT [(8, clG n2 base), (9, vS (.string BS)), (11, vS (.string BS)), (16, alS S j bs), (18, vS (.bool true)), (22, clG n2 base), (23, vS (.string BS)), (25, vS (.string BS)), (30, alS S j bs), (32, vS (.bool true))]) (fun _ => True) [] Gb.refl Gb.trans (fun _ _ h => h) (fun _ _ _ _ => trivial) trivial (Stu.mkT_ks _ (by show List.Nodup [8, 9, 11, 16, 18, 22, 23, 25, 30, 32]; decide) _ rfl) (by kernel_rfl) (by kernel_rfl) (by kernel_rfl) ?_
          repeat (refine Stu.wpR_plain ?_ (by rfl) (by rfl) (fun K hK => ?_); (focus (first | (simp only [Region.wanted]; done) | (go_simp; done))); apply Exists.intro; refine ⟨fun W hW => ?_, ?_⟩; (go_simp; (try simp only [Stu.plainUpon_value, true_and]); rfl); go_simp; refine hK _ ?_; clear hK K)
          (refine Stu.wpR_spg (by rfl) (by rfl) ?_ ?_ (fun W hW hF => ?_) (fun K v hv hK => ?_); (focus (first | (simp only [Region.wanted]; done) | (go_simp; done))); (focus (exact ⟨_, none, _, rfl, Nat.le_refl _⟩)); (go_simp; simp only [Stu.relUpon_enter]; exact ba_rel (HW.out W hW).1 base HXB6.out HN2.out.symm _); (obtain ⟨A8, c8, rfl, hc8⟩ := hv); go_simp; refine hK _ ?_; clear hK K)
          (refine Stu.wpR_spg (by rfl) (by rfl) ?_ ?_ (fun W hW hF => ?_) (fun K v hv hK => ?_); (focus (first | (simp only [Region.wanted]; done) | (go_simp; done))); (focus (exact ⟨_, rfl⟩)); (have hcw := (show Sl W (.slice A8 n2 c8) base from hF 8 rfl).str; rw [← HBS.out] at hcw; go_simp; exact ⟨Gb.refl _, rfl, trivial⟩); (cases hv); go_simp; refine hK _ ?_; clear hK K)
          repeat (refine Stu.wpR_plain ?_ (by rfl) (by rfl) (fun K hK => ?_); (focus (first | (simp only [Region.wanted]; done) | (go_simp; done))); apply Exists.intro; refine ⟨fun W hW => ?_, ?_⟩; (go_simp; (try simp only [Stu.plainUpon_value, true_and]); rfl); go_simp; refine hK _ ?_; clear hK K)
          (refine Stu.wpR_spg (by rfl) (by rfl) ?_ ?_ (fun W hW hF => ?_) (fun K v hv hK => ?_); (focus (first | (simp only [Region.wanted]; done) | (go_simp; done))); (focus (exact ⟨_, rfl⟩)); (have hcw := (HW.out W hW).2.2.1.str n2 c2 HN2.out.symm; rw [← HBS.out] at hcw; go_simp; exact ⟨Gb.refl _, rfl, trivial⟩); (cases hv); go_simp; refine hK _ ?_; clear hK K)
          repeat (refine Stu.wpR_plain ?_ (by rfl) (by rfl) (fun K hK => ?_); (focus (first | (simp only [Region.wanted]; done) | (go_simp; done))); apply Exists.intro; refine ⟨fun W hW => ?_, ?_⟩; (go_simp; (try simp only [Stu.plainUpon_value, true_and]); rfl); go_simp; refine hK _ ?_; clear hK K)
          (refine Stu.wpR_spg (by rfl) (by rfl) ?_ ?_ (fun W hW hF => ?_) (fun K v hv hK => ?_); (focus (first | (simp only [Region.wanted]; done) | (go_simp; done))); (focus (exact ⟨_, none, _, rfl, Nat.le_refl _⟩)); (go_simp; simp only [Stu.relUpon_enter]; exact al_rel (HW.out W hW).1 bs HXA.out HJN.out (HW.out W hW).2.2.2.2 _); (obtain ⟨A16, c16, rfl, hc16⟩ := hv); go_simp; refine hK _ ?_; clear hK K)
          repeat (refine Stu.wpR_plain ?_ (by rfl) (by rfl) (fun K hK => ?_); (focus (first | (simp only [Region.wanted]; done) | (go_simp; done))); apply Exists.intro; refine ⟨fun W hW => ?_, ?_⟩; (go_simp; (try simp only [Stu.plainUpon_value, true_and]); rfl); go_simp; refine hK _ ?_; clear hK K)
          (refine Stu.wpR_spg (by rfl) (by rfl) ?_ ?_ (fun W hW hF => ?_) (fun K v hv hK => ?_); (focus (first | (simp only [Region.wanted]; done) | (go_simp; done))); (focus (exact ⟨_, rfl⟩)); (go_simp; simp only [Stu.relUpon_enter]; exact ro_rel W S A16 Aw j j c16 cw bs bs HJN.out HJN.out (show Bso W S (.slice A16 j c16) bs from hF 16 rfl) (HW.out W hW).2.2.2.1 hj6 true (decide_eq_true rfl) _); (cases hv); go_simp; refine hK _ ?_; clear hK K)
          repeat (refine Stu.wpR_plain ?_ (by rfl) (by rfl) (fun K hK => ?_); (focus (first | (simp only [Region.wanted]; done) | (go_simp; done))); apply Exists.intro; refine ⟨fun W hW => ?_, ?_⟩; (go_simp; (try simp only [Stu.plainUpon_value, true_and]); rfl); go_simp; refine hK _ ?_; clear hK K)
          (refine Stu.wpR_spg (by rfl) (by rfl) ?_ ?_ (fun W hW hF => ?_) (fun K v hv hK => ?_); (focus (first | (simp only [Region.wanted]; done) | (go_simp; done))); (focus (exact ⟨_, none, _, rfl, Nat.le_refl _⟩)); (go_simp; simp only [Stu.relUpon_enter]; exact ba_rel (HW.out W hW).2.1 base HXB6.out HN2.out.symm _); (obtain ⟨A22, c22, rfl, hc22⟩ := hv); go_simp; refine hK _ ?_; clear hK K)
          (refine Stu.wpR_spg (by rfl) (by rfl) ?_ ?_ (fun W hW hF => ?_) (fun K v hv hK => ?_); (focus (first | (simp only [Region.wanted]; done) | (go_simp; done))); (focus (exact ⟨_, rfl⟩)); (have hcw := (show Sl W (.slice A22 n2 c22) base from hF 22 rfl).str; rw [← HBS.out] at hcw; go_simp; exact ⟨Gb.refl _, rfl, trivial⟩); (cases hv); go_simp; refine hK _ ?_; clear hK K)
          repeat (refine Stu.wpR_plain ?_ (by rfl) (by rfl) (fun K hK => ?_); (focus (first | (simp only [Region.wanted]; done) | (go_simp; done))); apply Exists.intro; refine ⟨fun W hW => ?_, ?_⟩; (go_simp; (try simp only [Stu.plainUpon_value, true_and]); rfl); go_simp; refine hK _ ?_; clear hK K)
          (refine Stu.wpR_spg (by rfl) (by rfl) ?_ ?_ (fun W hW hF => ?_) (fun K v hv hK => ?_); (focus (first | (simp only [Region.wanted]; done) | (go_simp; done))); (focus (exact ⟨_, rfl⟩)); (have hcw := (HW.out W hW).2.2.1.str n2 c2 HN2.out.symm; rw [← HBS.out] at hcw; go_simp; exact ⟨Gb.refl _, rfl, trivial⟩); (cases hv); go_simp; refine hK _ ?_; clear hK K)
          repeat (refine Stu.wpR_plain ?_ (by rfl) (by rfl) (fun K hK => ?_); (focus (first | (simp only [Region.wanted]; done) | (go_simp; done))); apply Exists.intro; refine ⟨fun W hW => ?_, ?_⟩; (go_simp; (try simp only [Stu.plainUpon_value, true_and]); rfl); go_simp; refine hK _ ?_; clear hK K)
          (refine Stu.wpR_spg (by rfl) (by rfl) ?_ ?_ (fun W hW hF => ?_) (fun K v hv hK => ?_); (focus (first | (simp only [Region.wanted]; done) | (go_simp; done))); (focus (exact ⟨_, none, _, rfl, Nat.le_refl _⟩)); (go_simp; simp only [Stu.relUpon_enter]; exact al_rel (HW.out W hW).2.1 bs HXA.out HJN.out (HW.out W hW).2.2.2.2 _); (obtain ⟨A30, c30, rfl, hc30⟩ := hv); go_simp; refine hK _ ?_; clear hK K)
          repeat (refine Stu.wpR_plain ?_ (by rfl) (by rfl) (fun K hK => ?_); (focus (first | (simp only [Region.wanted]; done) | (go_simp; done))); apply Exists.intro; refine ⟨fun W hW => ?_, ?_⟩; (go_simp; (try simp only [Stu.plainUpon_value, true_and]); rfl); go_simp; refine hK _ ?_; clear hK K)
          (refine Stu.wpR_spg (by rfl) (by rfl) ?_ ?_ (fun W hW hF => ?_) (fun K v hv hK => ?_); (focus (first | (simp only [Region.wanted]; done) | (go_simp; done))); (focus (exact ⟨_, rfl⟩)); (go_simp; simp only [Stu.relUpon_enter]; exact ro_rel W S A30 Aw j j c30 cw bs bs HJN.out HJN.out (show Bso W S (.slice A30 j c30) bs from hF 30 rfl) (HW.out W hW).2.2.2.1 hj6 true (decide_eq_true rfl) _); (cases hv); go_simp; refine hK _ ?_; clear hK K)
          repeat (refine Stu.wpR_plain ?_ (by rfl) (by rfl) (fun K hK => ?_); (focus (first | (simp only [Region.wanted]; done) | (go_simp; done))); apply Exists.intro; refine ⟨fun W hW => ?_, ?_⟩; (go_simp; (try simp only [Stu.plainUpon_value, true_and]); rfl); go_simp; refine hK _ ?_; clear hK K)
          refine Stu.wpR_nil (fun W hW hU hF => ?_)
          have HBW := Lib.hid (HSB.out.trans ((Below.trans (Below.drew (Below.refl _ w9)) hW).mono HSB.out.size))
          clear hW hU hF HW
          go_wp2
          go_ret
          exact ⟨rfl, HBW.out⟩
set_option maxRecDepth 20000 in
theorem WalKeeps_walk (A1 : Option Addr) (c1 : Nat) (la : List (List UInt8)) (A2 : Option Addr) (c2 : Nat) (base : List UInt8) (A3 : Option Addr) (c3 : Nat) (bs : List (List UInt8)) (w : World) (r1 : Row (KSlice KByte 1 1) 1 w A1 la) (hc1 : la.length ≤ c1) (hl1 : la.length * 24 ≤ 140737488351232) (r2 : Rd w A2 base) (hc2 : base.length ≤ c2) (hl2 : base.length ≤ 140737488351232) (r3 : Row (KSlice KByte 1 1) 1 w A3 bs) (hc3 : bs.length ≤ c3) (hl3 : bs.length * 24 ≤ 140737488351232) :
    Calls Try.prog 10 #[.slice A1 la.length c1, .slice A2 base.length c2, .slice A3 bs.length c3] w fun e w' => e = .returned (.bool true) ∧ Below w.heap.size w w' := by
  by_cases h : la.length ≤ 10 ∧ bs.length ≤ 10 ∧ base.length ≤ 1000
  · exact WalKeeps_ok A1 A2 A3 c1 c2 c3 la bs base w (Rdl.of_row r1 (by omega)) hc1 r2 hc2 (Rdl.of_row r3 (by omega)) hc3 h.1 h.2.2 h.2.1
  · clear r1 r2 r3
    generalize la.length = n1 at *
    generalize bs.length = n3 at *
    generalize base.length = n2 at *
    by_cases h1 : 10 < n1
    ·
      clear h
      go_enter Try.func10, Try.ntmps10
      go_wp2_with fail
      refine (awake6_any _).mono ?_
      rintro e w1 ⟨rfl, hb1⟩
      have HB1 := Lib.hid hb1
      clear hb1
      go_wp2_with fail
      go_ret
      exact ⟨rfl, HB1.out⟩
    · by_cases h2 : 10 < n3
      ·
        clear h
        go_enter Try.func10, Try.ntmps10
        go_wp2_with fail
        refine (awake6_any _).mono ?_
        rintro e w1 ⟨rfl, hb1⟩
        have HB1 := Lib.hid hb1
        clear hb1
        go_wp2_with fail
        go_ret
        exact ⟨rfl, HB1.out⟩
      · have h3 : 1000 < n2 := by omega
        clear h
        go_enter Try.func10, Try.ntmps10
        go_wp2_with fail
        refine (awake6_any _).mono ?_
        rintro e w1 ⟨rfl, hb1⟩
        have HB1 := Lib.hid hb1
        clear hb1
        go_wp2_with fail
        go_ret
        exact ⟨rfl, HB1.out⟩
end Go.Proofs.Ytbpecfbliglboaa
/- The law WalKnown, walked. -/
namespace WalMath
theorem burn_off {d : DevMath.Dev} (h : d.off = true) : d.burn = d := by
  unfold DevMath.Dev.burn
  rw [if_neg (by rw [h]; simp)]
theorem commitD_off {d : DevMath.Dev} (ws : List (Int × List UInt8)) (H : List UInt8) (h : d.off = true) : commitD d ws H = (d, 7) := by
  unfold commitD
  cases ws with
  | nil =>
    have e : d.flush = (d, 7) := by
      unfold DevMath.Dev.flush
      rw [burn_off h, if_pos h]
    simp only [wrs, e]
    rfl
  | cons r ws =>
    have e : d.write r.1 r.2 = (d, 7) := by
      unfold DevMath.Dev.write
      rw [if_pos h]
    have e2 : wrs d (r :: ws) = (d, 7) := by
      show (if (d.write r.1 r.2).2 = 0 then _ else d.write r.1 r.2) = _
      rw [e]
      rfl
    simp only [e2]
    rfl
end WalMath
namespace Go.Proofs.Ytbpecfbliglboaa
open Go.RowKit
set_option linter.unusedVariables false
set_option linter.unusedSimpArgs false
def sBase : List UInt8 := [98, 97, 115, 101]
def sX : List UInt8 := [120]
def sY : List UInt8 := [121]
theorem kn_fit1 : (WalMath.addB (WalMath.keepX (WalMath.addX WalMath.empty sA) sBase) sX).length ≤ WalMath.room 64 := by
  rw [addB_len]
  decide
theorem kn_fit2 : (WalMath.addB (WalMath.addX (WalMath.keepX (WalMath.addX WalMath.empty sA) sBase) sX) sY).length ≤ WalMath.room 64 := by
  rw [addB_len]
  show (WalMath.addB _ _).length + 16 + _ ≤ _
  rw [addB_len]
  decide
set_option maxRecDepth 20000 in
set_option maxHeartbeats 8000000 in
theorem WalKnown_walk (w : World) : Calls Try.prog 11 #[] w fun e w' => e = .returned (.bool true) ∧ Below w.heap.size w w' := by
  have kc := conv_const Try.underlying33 Try.underlying5
  obtain ⟨Z, hZ⟩ : ∃ Z, Z = bv (List.replicate 200001 0) := ⟨_, rfl⟩
  have HMK : Hid (∀ W : World, (Instr.makeSlice 33 (.int .i64 200001) (.int .i64 200001)).run Try.prog W = .ok (.slice (some ⟨W.heap.size, 0, none⟩) 200001 200001) (W.alloc (.cells Z 5))) := Lib.hid (by rw [hZ]; exact zeros_run 200001 (by decide))
  clear hZ
  go_enter Try.func11, Try.ntmps11
  go_wp2_with fail
  refine (awake6_any w).mono ?_
  rintro e w1 ⟨rfl, hb1⟩
  have HB1 := Lib.hid hb1
  clear hb1
  go_wp2_with fail
  refine (ds_new w1 7 (by decide) (by decide)).mono ?_
  rintro e w2 ⟨g7, rfl, hd2, hb2⟩
  have HO := Lib.hid (wopen_few hd2 rfl (by decide))
  have HB2 := Lib.hid (HB1.out.trans (hb2.mono HB1.out.size))
  clear hd2 hb2
  go_wp2_with fail
  refine HO.out.mono ?_
  rintro e w2 ⟨rfl, rfl⟩
  clear HO
  go_wp2_with fail
  refine (lk_new w2 64 (by decide) (by decide)).mono ?_
  rintro e w3 ⟨g, d3, rfl, hd3, ho3, hf3, -⟩
  have HO := Lib.hid (lk_open hd3 ho3 hf3)
  clear hd3 ho3 hf3
  go_wp2_with fail
  refine HO.out.mono ?_
  rintro e w4 ⟨gl, rfl, hl4, -⟩
  have HL4 := Lib.hid hl4
  clear hl4 HO
  go_wp2_with fail
  refine (lk_add (m := 1) (body := sA) (HL4.out.below (below_new w4 _)) (sl_new w4 sA (1, 2) (by decide)).rds rfl (by decide) aw_fit1).mono ?_
  rintro e w5 ⟨rfl, ⟨d5, hl5⟩, -⟩
  have HL5 := Lib.hid hl5
  clear hl5 HL4
  go_wp2_with fail
  refine (lk_keep (m := 4) (body := sBase) (HL5.out.below (below_new w5 _)) (Sl.rd_eq (sl_new w5 sBase (4, 5) (by decide))).1 rfl (by decide) (by decide)).mono ?_
  rintro e w6 ⟨rfl, ⟨d6, hl6⟩, -⟩
  have HL6 := Lib.hid hl6
  have HA6 := Lib.hid (lk_all hl6)
  clear hl6 HL5
  go_wp2_with fail
  refine HA6.out.mono ?_
  rintro e w7 ⟨v7, rfl, hs7, hb7⟩
  have hall : (WalMath.keepX (WalMath.addX WalMath.empty sA) sBase).all = [] := rfl
  rw [hall] at hs7
  obtain ⟨A7, c7, rfl, _⟩ := hs7.shp
  have hro := rows_any w7 w6.heap.size A7 none 0 0 c7 0 [] [] rfl rfl hs7 (StR.nil w7) (by decide)
  rw [decide_eq_true (rfl : ([] : List (List UInt8)) = [])] at hro
  have HR := Lib.hid hro
  clear hro
  have HL7 := Lib.hid (HL6.out.below hb7)
  clear hs7 hb7 hall HA6 HL6
  go_wp2_with fail
  refine HR.out.mono ?_
  rintro e w8 ⟨rfl, hb8⟩
  have HL8 := Lib.hid (HL7.out.below hb8)
  clear hb8 HR HL7
  go_wp2_with fail
  refine (lk_add (m := 1) (body := sX) (HL8.out.below (below_new w8 _)) (sl_new w8 sX (1, 2) (by decide)).rds rfl (by decide) kn_fit1).mono ?_
  rintro e w9 ⟨rfl, ⟨d9, hl9⟩, -⟩
  have HL9 := Lib.hid hl9
  have hmk := HMK.out
  have HNO := Lib.hid (wadd_no (hl9.1.below (below_new w9 (.cells Z 5))) (some ⟨w9.heap.size, 0, none⟩) 200001 200001 (by decide))
  clear hl9 HL8
  go_wp2_with fail
  refine HNO.out.mono ?_
  rintro e w10 ⟨rfl, rfl⟩
  rw [show mayE false 200001 = 1 from rfl]
  have hl10 := HL9.out.below (below_new w9 (.cells Z 5))
  obtain ⟨w10, hw10⟩ : ∃ W, W = w9.alloc (.cells Z 5) := ⟨_, rfl⟩
  rw [← hw10] at hl10 ⊢
  obtain ⟨X, hX⟩ : ∃ X, X = WalMath.addX (WalMath.keepX (WalMath.addX WalMath.empty sA) sBase) sX := ⟨_, rfl⟩
  rw [← hX] at hl10
  have HX := Lib.hid hX
  have HCR := Lib.hid (ds_crash hl10.1.ds (by rw [hl10.2.1.on.cache]; simp) (-1) (fun W _ _ => (IntV.nil W).r) (by decide))
  have HL10 := Lib.hid hl10
  clear hX hl10 hw10 HNO HL9 hmk
  go_wp2_with fail
  refine HCR.out.mono ?_
  rintro e w11 ⟨rfl, hd11, ht11⟩
  have hoff : (d9.crash [] (-1)).off = true := by
    unfold DevMath.Dev.crash
    split
    · assumption
    · rfl
  have hsec : (d9.crash [] (-1)).sectors = 64 := by
    rw [show (d9.crash [] (-1)).sectors = d9.sectors by unfold DevMath.Dev.crash; split <;> rfl]
    exact HL10.out.2.1.on.n
  have hcac : (d9.crash [] (-1)).cache = [] := by
    unfold DevMath.Dev.crash
    split
    · exact HL10.out.2.1.on.cache
    · rfl
  have HOK := Lib.hid (WalMath.ok_crash HL10.out.2.1 [] (-1))
  have hls11 := HL10.out.1.tk ht11 hd11
  obtain ⟨d11, hd11e⟩ : ∃ d, d = d9.crash [] (-1) := ⟨_, rfl⟩
  rw [← hd11e] at hoff hsec hcac hls11 HOK
  have hfit : (WalMath.addB X sY).length ≤ WalMath.room 64 := by rw [HX.out]; exact kn_fit2
  have hgo := wadd_go (hls11.below (below_new w11 (.cells (bv sY) 5 (1, 2)))) (by omega) (by omega) hcac (by rw [hsec]; exact HL10.out.2.1.wf) (some ⟨w11.heap.size, 0, none⟩) 1 1 sY rfl (sl_new w11 sY (1, 2) (by decide)).rds (by decide) (by rw [hsec]; exact hfit)
  have hR : WalMath.addR d11 X sY = (d11, 7) := WalMath.commitD_off _ _ hoff
  rw [hR] at hgo
  have HGO := Lib.hid hgo; have HOFF := Lib.hid hoff
  clear hgo hoff hsec hcac hls11 hd11e hd11 ht11 hfit hR HCR
  go_wp2_with fail
  refine HGO.out.mono ?_
  rintro e w12 ⟨rfl, hls12, -⟩
  rw [show comE (d11, 7) = 7 from rfl]
  have hls12' : LS w2 w12 w2.heap.size g gl d11 X true := hls12
  have HDO := Lib.hid (wdone_any hls12')
  have HKN := Lib.hid (wkeep_no hls12' none 0 0 (by decide))
  have HOP := Lib.hid (wopen_off hls12'.ds HOFF.out)
  have HON := Lib.hid (ds_on hls12'.ds)
  clear hls12 hls12' HGO
  go_wp2_with fail
  refine HDO.out.mono ?_
  rintro e w12 ⟨rfl, rfl⟩
  go_wp2_with fail
  refine HKN.out.mono ?_
  rintro e w12 ⟨rfl, rfl⟩
  rw [show mayE true 0 = 7 from rfl]
  go_wp2_with fail
  refine HOP.out.mono ?_
  rintro e w12 ⟨rfl, rfl⟩
  go_wp2_with fail
  refine HON.out.mono ?_
  rintro e w13 ⟨rfl, hd13, -⟩
  have HOP2 := Lib.hid (lk_open hd13 HOK.out.1 HOK.out.2)
  clear hd13 HDO HKN HOP HON
  go_wp2_with fail
  refine HOP2.out.mono ?_
  rintro e w14 ⟨gm, rfl, hl14, -⟩
  have HL14 := Lib.hid hl14
  have hba := lk_base hl14
  have hbase : X.buf.take X.base = sBase := by rw [HX.out]; rfl
  have HALL : Hid (X.all = [sX]) := Lib.hid (by rw [HX.out]; rfl)
  rw [hbase] at hba
  have HBA := Lib.hid hba
  clear hl14 hba hbase HOP2
  go_wp2_with fail
  refine HBA.out.mono ?_
  rintro e w15 ⟨v15, rfl, hs15, hb15⟩
  obtain ⟨A15, c15, rfl, _, _⟩ := hs15.rd
  have q15 := hs15.str
  have HL15 := Lib.hid (HL14.out.below hb15)
  have hal := lk_all HL15.out
  rw [HALL.out] at hal
  have HAL := Lib.hid hal
  clear hs15 hb15 hal
  simp only [sBase, List.length_cons, List.length_nil, Nat.zero_add, Nat.reduceAdd] at q15 ⊢
  go_wp2_with fail
  refine HAL.out.mono ?_
  rintro e w16 ⟨v16, rfl, hs16, hb16⟩
  obtain ⟨A16, c16, rfl, _⟩ := hs16.shp
  clear q15
  have hst : StR (w16.alloc (.cells #[.string ⟨sX.toArray⟩] 9)) (.slice (some ⟨w16.heap.size, 0, none⟩) 1 1) [sX] := ⟨_, 1, rfl, Nat.le_refl _, fun _ => ⟨_, rfl, fun j hj => by
    have : j = 0 := by simpa using hj
    subst this
    have ha : (⟨w16.heap.size, 0, none⟩ : Addr).add 0 = ⟨w16.heap.size, 0, none⟩ := by unfold Addr.add; split <;> simp_all
    rw [ha, cell_of_row _ _ 0 _ _ _ (heap_new w16 _ _ rfl)]
    rfl⟩⟩
  have hro := (rows_any _ w15.heap.size A16 _ 1 1 c16 1 [sX] [sX] rfl rfl (hs16.below (below_new w16 (.cells #[.string ⟨sX.toArray⟩] 9))) hst (by decide))
  rw [decide_eq_true (rfl : [sX] = [sX])] at hro
  have HRO := Lib.hid hro
  clear hro
  have HL16 := Lib.hid ((HL15.out.below hb16).below (below_new w16 (.cells #[.string ⟨sX.toArray⟩] 9)))
  clear hst hs16 hb16 HAL
  go_wp2_with fail
  refine HRO.out.mono ?_
  rintro e w17 ⟨rfl, hb17⟩
  have HL17 := Lib.hid (HL16.out.below hb17)
  have HDN := Lib.hid (wdone_any HL17.out.1)
  have HB17 := Lib.hid (HB2.out.trans ((HL17.out.1.ds.bel).mono HB2.out.size))
  clear hb17 HRO
  go_wp2_with fail
  refine HDN.out.mono ?_
  rintro e w17 ⟨rfl, rfl⟩
  go_wp2
  go_ret
  exact ⟨rfl, HB17.out⟩
end Go.Proofs.Ytbpecfbliglboaa
