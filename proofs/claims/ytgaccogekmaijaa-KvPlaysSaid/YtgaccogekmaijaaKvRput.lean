/- The reader: put. -/
import Derived.Test.YtgaccogekmaijaaKvRdr
import Derived.Test.YtgaccogekmaijaaKvAwake
import Derived.Laws.ResultCell
namespace Go.Proofs.Ytgaccogekmaijaa
/-- a change read, what is left, whether it is bad -/
def putM (bs : List UInt8) (bad : Bool) : PutD × List UInt8 × Bool :=
  let k := KvMath.rd (KvMath.takeL bs 1)
  let bs1 := KvMath.restL bs 1
  let bad1 := bad || decide (bs.length < 1)
  let kn := KvMath.rd (KvMath.takeL bs1 2)
  let bs2 := KvMath.restL bs1 2
  let bad2 := bad1 || decide (bs1.length < 2)
  let key := KvMath.takeL bs2 kn
  let bs3 := KvMath.restL bs2 kn
  let bad3 := bad2 || decide (bs2.length < kn)
  if k = 0 then (⟨⟨key.toArray⟩, [], true⟩, bs3, bad3 || decide (1 < k) || !PutD.good ⟨⟨key.toArray⟩, [], true⟩)
  else
    let vn := KvMath.rd (KvMath.takeL bs3 4)
    let bs4 := KvMath.restL bs3 4
    let bad4 := bad3 || decide (bs3.length < 4)
    let val := KvMath.takeL bs4 vn
    (⟨⟨key.toArray⟩, val, false⟩, KvMath.restL bs4 vn, bad4 || decide (bs4.length < vn) || decide (1 < k) || !PutD.good ⟨⟨key.toArray⟩, val, false⟩)
open Go.RowKit
set_option linter.unusedVariables false
set_option linter.unusedSimpArgs false
theorem restL_len (bs : List UInt8) (n : Nat) : (KvMath.restL bs n).length ≤ bs.length := by
  unfold KvMath.restL
  split
  · simp
  · rw [List.length_drop]; omega
theorem results_cell1 {fn : Func} {p : Tmp} {ty : TypeId} (h : fn.results = #[.cell p ty]) (tmps : Array Value) (P : Program) (w : World) :
    (results fn tmps).run P w = ((asAddr (tmps.getD p undef)).run P w).andThen fun a w₁ => (loadVar ty a).run P w₁ := by
  simp only [results, h]
  simp [Sem.run_bind, Result.andThen]
theorem put_end0 {w00 w V : World} {r t : Nat} {bs val : List UInt8} {bad : Bool} {v : Value} {cs : Array Value} (HR : RdS w00 V r bs bad) (HC : Chg (· = r) w V) (hrt : r ≠ t) (ht : w.heap.size ≤ t) (hw0 : w00.heap.size ≤ w.heap.size) (X : V.heap[t]? = some (.cells cs 38)) (hs : Sl V v val) (b : Bool) (x0 x1 x2 : Value) :
    Sl ((((V.setCell ⟨r, 1, none⟩ (.bool b)).setCell ⟨t, 0, none⟩ x0).setCell ⟨t, 1, none⟩ x1).setCell ⟨t, 2, none⟩ x2) v val ∧ RdS w00 ((((V.setCell ⟨r, 1, none⟩ (.bool b)).setCell ⟨t, 0, none⟩ x0).setCell ⟨t, 1, none⟩ x1).setCell ⟨t, 2, none⟩ x2) r bs b ∧ Chg (· = r) w ((((V.setCell ⟨r, 1, none⟩ (.bool b)).setCell ⟨t, 0, none⟩ x0).setCell ⟨t, 1, none⟩ x1).setCell ⟨t, 2, none⟩ x2) := by
  have hr1 := HR.setbad b
  have c0 := Chg.setCell V r 1 (.bool b)
  have hX := c0.heap X (fun e => hrt e.symm)
  generalize V.setCell ⟨r, 1, none⟩ (.bool b) = V1 at *
  have c1 : Chg (· = t) V1 (((V1.setCell ⟨t, 0, none⟩ x0).setCell ⟨t, 1, none⟩ x1).setCell ⟨t, 2, none⟩ x2) := (Chg.setCell _ _ _ _).trans ((Chg.setCell _ _ _ _).trans (Chg.setCell _ _ _ _))
  generalize ((V1.setCell ⟨t, 0, none⟩ x0).setCell ⟨t, 1, none⟩ x1).setCell ⟨t, 2, none⟩ x2 = V2 at *
  have hrt2 : r ≠ t := hrt
  obtain ⟨A, c, e1, _, _, _⟩ := HR
  have hs1 : Sl V1 v val := hs.chg c0 (fun k hk cs2 fr e => by
    have hk : k = r := hk
    rw [hk, e1] at e
    injection e with e
    injection e with _ e
    exact absurd e (by decide))
  have hs2 : Sl V2 v val := hs1.chg c1 (fun k hk cs2 fr e => by
    have hk : k = t := hk
    rw [hk, hX] at e
    injection e with e
    injection e with _ e
    exact absurd e (by decide))
  refine ⟨hs2, hr1.other c1 (by omega) hrt, ?_⟩
  have h3 : Chg (fun k => k = r ∨ k = t) w V2 := (HC.trans c0).imp (fun k h => .inl h) |>.trans (c1.imp fun k h => .inr h)
  exact ⟨h3.os, h3.tape, h3.output, h3.size, fun k hk hn => h3.block k hk (fun hs => hs.elim hn fun e => by omega)⟩
theorem put_end {w00 w V : World} {r t : Nat} {bs val : List UInt8} {bad : Bool} {v : Value} {cs : Array Value} (HR : RdS w00 V r bs bad) (HC : Chg (· = r) w V) (hrt : r ≠ t) (ht : w.heap.size ≤ t) (hw0 : w00.heap.size ≤ w.heap.size) (X : V.heap[t]? = some (.cells cs 38)) (hs : Sl V v val) (b : Bool) (x0 x1 x2 : Value) (o : Obj) :
    Sl (((((V.setCell ⟨r, 1, none⟩ (.bool b)).setCell ⟨t, 0, none⟩ x0).setCell ⟨t, 1, none⟩ x1).setCell ⟨t, 2, none⟩ x2).alloc o) v val ∧ RdS w00 (((((V.setCell ⟨r, 1, none⟩ (.bool b)).setCell ⟨t, 0, none⟩ x0).setCell ⟨t, 1, none⟩ x1).setCell ⟨t, 2, none⟩ x2).alloc o) r bs b ∧ Chg (· = r) w (((((V.setCell ⟨r, 1, none⟩ (.bool b)).setCell ⟨t, 0, none⟩ x0).setCell ⟨t, 1, none⟩ x1).setCell ⟨t, 2, none⟩ x2).alloc o) := by
  have h := put_end0 HR HC hrt ht hw0 X hs b x0 x1 x2
  generalize (((V.setCell ⟨r, 1, none⟩ (.bool b)).setCell ⟨t, 0, none⟩ x0).setCell ⟨t, 1, none⟩ x1).setCell ⟨t, 2, none⟩ x2 = V2 at *
  have hb : Below V2.heap.size V2 (V2.alloc o) := (Below.refl _ V2).alloc (Nat.le_refl _) _
  exact ⟨h.1.chg (Chg.of_below (S := fun _ => False) hb) (fun k hk => hk.elim), h.2.1.chg hb, h.2.2.trans (Chg.of_below hb)⟩
set_option maxRecDepth 20000 in
set_option maxHeartbeats 2000000 in
theorem rd_put (w00 w : World) (r : Nat) (bs : List UInt8) (bad : Bool) (h : RdS w00 w r bs bad) (hl : bs.length ≤ 140737488351232) :
    Calls Try.prog 32 #[.pointer (some ⟨r, 0, none⟩)] w fun e w' => ∃ v, e = .returned (.agg #[.string (putM bs bad).1.key, v, .bool (putM bs bad).1.gone]) ∧ Sl w' v (putM bs bad).1.val ∧ RdS w00 w' r (putM bs bad).2.1 (putM bs bad).2.2 ∧ Chg (· = r) w w' := by
  have hrw : r < w.heap.size := h.cells.1
  have hw0 : w00.heap.size ≤ w.heap.size := h.ch.size
  obtain ⟨W0, hW0⟩ : ∃ W0, W0 = w.alloc (.cells #[.string ⟨#[]⟩, .slice none 0 0, .bool false] 38) := ⟨_, rfl⟩
  have hb0 : Below w.heap.size w W0 := by rw [hW0]; exact (Below.refl _ w).alloc (Nat.le_refl _) _
  have hx0 : W0.heap[w.heap.size]? = some (.cells #[.string ⟨#[]⟩, .slice none 0 0, .bool false] 38) := by rw [hW0]; exact heap_new w _ _ rfl
  have h0 := h.chg hb0
  have hcon := rd_number w00 W0 r bs bad h0 1 (by decide) hl
  have l1 := restL_len bs 1
  have hk1 : KvMath.rd (KvMath.takeL bs 1) < 256 := by
    have h1 := KvMath.rd_lt (KvMath.takeL bs 1)
    have h2 : (256 : Nat) ^ (KvMath.takeL bs 1).length ≤ 256 ^ 1 := Nat.pow_le_pow_right (by decide) (KvMath.takeL_len bs 1)
    omega
  unfold putM
  dsimp only
  generalize KvMath.restL bs 1 = bs1 at *
  generalize (bad || decide (bs.length < 1)) = bad1 at *
  generalize KvMath.rd (KvMath.takeL bs 1) = k at *
  have hcon2 : ∀ w1, RdS w00 w1 r bs1 bad1 → _ := fun w1 h => rd_number w00 w1 r bs1 bad1 h 2 (by decide) (by omega)
  have l2 := restL_len bs1 2
  have hkn : KvMath.rd (KvMath.takeL bs1 2) < 4294967296 := KvMath.rd_lt4 _ (Nat.le_trans (KvMath.takeL_len bs1 2) (by decide))
  generalize KvMath.restL bs1 2 = bs2 at *
  generalize (bad1 || decide (bs1.length < 2)) = bad2 at *
  generalize KvMath.rd (KvMath.takeL bs1 2) = kn at *
  have hcon3 : ∀ w2, RdS w00 w2 r bs2 bad2 → _ := fun w2 h => rd_take w00 w2 r bs2 bad2 h kn (by omega) (by omega)
  have l3 := restL_len bs2 kn
  generalize KvMath.restL bs2 kn = bs3 at *
  generalize (bad2 || decide (bs2.length < kn)) = bad3 at *
  generalize KvMath.takeL bs2 kn = key at *
  have hcon4 : ∀ w3, RdS w00 w3 r bs3 bad3 → _ := fun w3 h => rd_number w00 w3 r bs3 bad3 h 4 (by decide) (by omega)
  have l4 := restL_len bs3 4
  have hvn : KvMath.rd (KvMath.takeL bs3 4) < 4294967296 := KvMath.rd_lt4 _ (KvMath.takeL_len bs3 4)
  generalize KvMath.restL bs3 4 = bs4 at *
  generalize (bad3 || decide (bs3.length < 4)) = bad4 at *
  generalize KvMath.rd (KvMath.takeL bs3 4) = vn at *
  have hcon5 : ∀ w4, RdS w00 w4 r bs4 bad4 → _ := fun w4 h => rd_take w00 w4 r bs4 bad4 h vn (by omega) (by omega)
  have l5 : (KvMath.takeL bs4 vn).length ≤ 140737488351232 := by
    unfold KvMath.takeL
    split
    · simp
    · rw [List.length_take]; omega
  generalize KvMath.restL bs4 vn = bs5 at *
  generalize (bad4 || decide (bs4.length < vn)) = bad5 at *
  generalize KvMath.takeL bs4 vn = val at *
  obtain ⟨ks, hks⟩ : ∃ ks : ByteArray, ks = ⟨key.toArray⟩ := ⟨_, rfl⟩
  rw [← hks]
  obtain ⟨nk, hnk⟩ : ∃ nk, nk = key.length := ⟨_, rfl⟩
  obtain ⟨nv, hnv⟩ : ∃ nv, nv = val.length := ⟨_, rfl⟩
  rw [← hnk] at hcon3
  rw [← hnv] at hcon5 l5
  have HX0 := Lib.hid hx0; have HB0 := Lib.hid hb0; have HW0 := Lib.hid hW0; have HKS := Lib.hid hks; have HNK := Lib.hid hnk; have HNV := Lib.hid hnv
  have hcon := Lib.hid hcon; have hcon2 := Lib.hid hcon2; have hcon3 := Lib.hid hcon3; have hcon4 := Lib.hid hcon4; have hcon5 := Lib.hid hcon5
  clear h h0 hb0 hx0 hW0 hks hnk hnv l1 l2 l3 l4
  go_enter Try.func32, Try.ntmps32
  go_wp2_with fail
  rw [← HW0.out]
  refine hcon.out.mono ?_
  rintro e w1 ⟨rfl, hr1, hc1⟩
  have HX1 := Lib.hid (hc1.heap HX0.out (fun e => by omega))
  have HC1 := Lib.hid ((Chg.of_below (S := (· = r)) HB0.out).trans hc1)
  have hc2 := Lib.hid (hcon2.out w1 hr1)
  clear hr1 hc1 hcon hcon2 HX0 HB0
  go_wp2_with fail
  refine hc2.out.mono ?_
  rintro e w2 ⟨rfl, hr2, hch2⟩
  have HX2 := Lib.hid (hch2.heap HX1.out (fun e => by omega))
  have HC2 := Lib.hid (HC1.out.trans hch2)
  have hc3 := Lib.hid (hcon3.out w2 hr2)
  clear hr2 hch2 hc2 hcon3 HX1 HC1
  go_wp2_with fail
  refine hc3.out.mono ?_
  rintro e w3 ⟨A3, c3, rfl, hc3c, hrd3, hr3, hch3⟩
  have HX3 := Lib.hid (hch3.heap HX2.out (fun e => by omega))
  have HC3 := Lib.hid (HC2.out.trans hch3)
  have hcv : (convert 32 9 (.slice A3 nk c3)).run Try.prog w3 = .ok (.string ks) w3 := by rw [HKS.out]; exact (hrd3 w3 hr3.ch).str _ _ HNK.out.symm
  have HR3 := Lib.hid hr3
  clear hr3 hch3 hc3 hrd3 HX2 HC2
  have hrw3 : r < w3.heap.size := Nat.lt_of_lt_of_le hrw HC3.out.size
  have hR := HR3.out.cells
  have r1 := hR.2.2.1
  have rf := hR.2.2.2 1
  clear hR
  have hne : r ≠ w.heap.size := by omega
  have hne2 : w.heap.size ≠ r := by omega
  have hsz : w.heap.size < w3.heap.size := (Array.getElem?_eq_some_iff.1 HX3.out).1
  have hne3 : r ≠ w3.heap.size := by omega
  have hne4 : w3.heap.size ≠ r := by omega
  have hne5 : w.heap.size ≠ w3.heap.size := by omega
  have hne6 : w3.heap.size ≠ w.heap.size := by omega
  have t0 : w3.cell? ⟨w.heap.size, 0, none⟩ = some (.string ⟨#[]⟩) := by rw [cell_of_row _ w.heap.size 0 _ _ _ HX3.out]; rfl
  have t1 : w3.cell? ⟨w.heap.size, 1, none⟩ = some (.slice none 0 0) := by rw [cell_of_row _ w.heap.size 1 _ _ _ HX3.out]; rfl
  have t2 : w3.cell? ⟨w.heap.size, 2, none⟩ = some (.bool false) := by rw [cell_of_row _ w.heap.size 2 _ _ _ HX3.out]; rfl
  have u0 := frozen_of_row _ w.heap.size 0 _ _ HX3.out
  have u1 := frozen_of_row _ w.heap.size 1 _ _ HX3.out
  have u2 := frozen_of_row _ w.heap.size 2 _ _ HX3.out
  have HS := Lib.hid hsz
  by_cases hk0 : k = 0
  · subst hk0
    obtain ⟨W4, hW4⟩ : ∃ W4, W4 = w3.alloc (.cells #[.string ks, .slice none 0 0, .bool true] 38) := ⟨_, rfl⟩
    have hb4 : Below w3.heap.size w3 W4 := by rw [hW4]; exact (Below.refl _ w3).alloc (Nat.le_refl _) _
    have HP4 := Lib.hid (show W4.heap[w3.heap.size]? = some (.cells #[.string ks, .slice none 0 0, .bool true] 38) by rw [hW4]; exact heap_new w3 _ _ rfl)
    have hz4 : w3.heap.size < W4.heap.size := (Array.getElem?_eq_some_iff.1 HP4.out).1
    have HX4 := Lib.hid ((Chg.of_below (S := fun _ => False) hb4).heap HX3.out (fun h => h))
    have HC4 := Lib.hid (HC3.out.trans (Chg.of_below hb4))
    have HR4 := Lib.hid (HR3.out.chg hb4)
    have HW4 := Lib.hid hW4; have HZ4 := Lib.hid hz4
    clear hW4 hb4 hz4
    cases bad3 with
    | true =>
      have HE := Lib.hid (put_end (w := w) (t := w.heap.size) HR3.out HC3.out (by omega) (Nat.le_refl _) hw0 HX3.out (Sl.nil _))
      go_wp2
      refine bodyPost_ret_by (by rw [results_cell1 rfl]; go_simp; rfl) rfl ?_
      have h := HE.out true (.string ks) (.slice none 0 0) (.bool true) (.cells #[.string ks, .slice none 0 0, .bool true] 38)
      exact ⟨_, rfl, h.1, h.2.1, h.2.2⟩
    | false =>
      have hg := Lib.hid (kv_good W4 ⟨ks, [], true⟩ none 0 (Nat.le_refl _))
      go_wp2_with fail
      rw [← HW4.out]
      refine hg.out.mono ?_
      rintro e w5 ⟨rfl, hb5⟩
      have HZ5 := hb5.size
      have HP5 := Lib.hid ((Chg.of_below (S := fun _ => False) hb5).heap HP4.out (fun h => h))
      have HX5 := Lib.hid ((Chg.of_below (S := fun _ => False) hb5).heap HX4.out (fun h => h))
      have HR5 := Lib.hid (HR4.out.chg hb5)
      have HC5 := Lib.hid (HC4.out.trans (Chg.of_below hb5))
      obtain ⟨gd, hgd⟩ : ∃ gd, gd = PutD.good ⟨ks, [], true⟩ := ⟨_, rfl⟩
      rw [← hgd]
      have HGD := Lib.hid hgd; clear hgd
      clear hb5 hg t0 t1 t2 u0 u1 u2 r1 rf
      have hz5 : w.heap.size < w5.heap.size := (Array.getElem?_eq_some_iff.1 HX5.out).1
      have hR := HR5.out.cells
      have r1 := hR.2.2.1
      have rf := hR.2.2.2 1
      clear hR
      have t0 : w5.cell? ⟨w.heap.size, 0, none⟩ = some (.string ⟨#[]⟩) := by rw [cell_of_row _ w.heap.size 0 _ _ _ HX5.out]; rfl
      have t1 : w5.cell? ⟨w.heap.size, 1, none⟩ = some (.slice none 0 0) := by rw [cell_of_row _ w.heap.size 1 _ _ _ HX5.out]; rfl
      have t2 : w5.cell? ⟨w.heap.size, 2, none⟩ = some (.bool false) := by rw [cell_of_row _ w.heap.size 2 _ _ _ HX5.out]; rfl
      have u0 := frozen_of_row _ w.heap.size 0 _ _ HX5.out
      have u1 := frozen_of_row _ w.heap.size 1 _ _ HX5.out
      have u2 := frozen_of_row _ w.heap.size 2 _ _ HX5.out
      have p0 : w5.cell? ⟨w3.heap.size, 0, none⟩ = some (.string ks) := by rw [cell_of_row _ w3.heap.size 0 _ _ _ HP5.out]; rfl
      have p1 : w5.cell? ⟨w3.heap.size, 1, none⟩ = some (.slice none 0 0) := by rw [cell_of_row _ w3.heap.size 1 _ _ _ HP5.out]; rfl
      have p2 : w5.cell? ⟨w3.heap.size, 2, none⟩ = some (.bool true) := by rw [cell_of_row _ w3.heap.size 2 _ _ _ HP5.out]; rfl
      have HE := Lib.hid (put_end0 (w := w) (t := w.heap.size) HR5.out HC5.out (by omega) (Nat.le_refl _) hw0 HX5.out (Sl.nil _))
      go_wp2
      refine bodyPost_ret_by (by rw [results_cell1 rfl]; go_simp; rfl) rfl ?_
      have h := HE.out (!gd) (.string ks) (.slice none 0 0) (.bool true)
      rw [← HGD.out]
      exact ⟨_, rfl, h.1, h.2.1, h.2.2⟩
  · have hki : ((k : Int) == 0) = false := by simpa using hk0
    obtain ⟨W4, hW4⟩ : ∃ W4, W4 = w3.alloc (.cells #[.string ks, .slice none 0 0, .bool false] 38) := ⟨_, rfl⟩
    have hb4 : Below w3.heap.size w3 W4 := by rw [hW4]; exact (Below.refl _ w3).alloc (Nat.le_refl _) _
    have HP4 := Lib.hid (show W4.heap[w3.heap.size]? = some (.cells #[.string ks, .slice none 0 0, .bool false] 38) by rw [hW4]; exact heap_new w3 _ _ rfl)
    have hz4 : w3.heap.size < W4.heap.size := (Array.getElem?_eq_some_iff.1 HP4.out).1
    have HX4 := Lib.hid ((Chg.of_below (S := fun _ => False) hb4).heap HX3.out (fun h => h))
    have HC4 := Lib.hid (HC3.out.trans (Chg.of_below hb4))
    have HR4 := Lib.hid (HR3.out.chg hb4)
    have HW4 := Lib.hid hW4; have HZ4 := Lib.hid hz4
    clear hW4 hb4 hz4
    have hc4 := Lib.hid (hcon4.out W4 HR4.out)
    go_wp2_with fail
    rw [← HW4.out]
    refine hc4.out.mono ?_
    rintro e w5 ⟨rfl, hr5, hch5⟩
    have HP5 := Lib.hid (hch5.heap HP4.out (fun e => by omega))
    have HX5 := Lib.hid (hch5.heap HX4.out (fun e => by omega))
    have HC5 := Lib.hid (HC4.out.trans hch5)
    have hc5 := Lib.hid (hcon5.out w5 hr5)
    clear hr5 hch5 hc4 hcon4 hcon5 HX4 HP4 HC4 HR4 t0 t1 t2 u0 u1 u2 r1 rf
    go_wp2_with fail
    refine hc5.out.mono ?_
    rintro e w6 ⟨A6, c6, rfl, hc6c, hrd6, hr6, hch6⟩
    have HP6 := Lib.hid (hch6.heap HP5.out (fun e => by omega))
    have HX6 := Lib.hid (hch6.heap HX5.out (fun e => by omega))
    have HC6 := Lib.hid (HC5.out.trans hch6)
    have HR6 := Lib.hid hr6
    have hcl := Lib.hid (clone_any w6 A6 c6 val (hrd6 w6 hr6.ch) (by rw [← HNV.out]; exact l5))
    rw [← HNV.out] at hcl
    clear hr6 hch6 hc5 hrd6 HX5 HP5 HC5
    go_wp2_with fail
    refine hcl.out.mono ?_
    rintro e w7 ⟨v7, rfl, hob, hb7⟩
    have HP7 := Lib.hid ((Chg.of_below (S := fun _ => False) hb7).heap HP6.out (fun h => h))
    have HX7 := Lib.hid ((Chg.of_below (S := fun _ => False) hb7).heap HX6.out (fun h => h))
    have HR7 := Lib.hid (HR6.out.chg hb7)
    have HC7 := Lib.hid (HC6.out.trans (Chg.of_below hb7))
    clear hb7 hcl HP6 HX6 HR6 HC6
    have hSL := hob.sl
    obtain ⟨A7, c7, hv7, hc7c⟩ : ∃ A c, v7 = .slice A nv c ∧ nv ≤ c := by
      obtain ⟨A, c, h1, h2, h3⟩ := hSL.rd
      exact ⟨A, c, by rw [h1, HNV.out], by rw [HNV.out]; exact h2⟩
    have HSL := Lib.hid hSL
    subst hv7
    clear hob hSL
    obtain ⟨W8, hW8⟩ : ∃ W8, W8 = w7.setCell ⟨w3.heap.size, 1, none⟩ (.slice A7 nv c7) := ⟨_, rfl⟩
    have c8 : Chg (· = w3.heap.size) w7 W8 := by rw [hW8]; exact Chg.setCell _ _ _ _
    have hz7 : w3.heap.size < w7.heap.size := (Array.getElem?_eq_some_iff.1 HP7.out).1
    have hz7w : w.heap.size < w7.heap.size := (Array.getElem?_eq_some_iff.1 HX7.out).1
    have p0 : w7.cell? ⟨w3.heap.size, 0, none⟩ = some (.string ks) := by rw [cell_of_row _ w3.heap.size 0 _ _ _ HP7.out]; rfl
    have p1 : w7.cell? ⟨w3.heap.size, 1, none⟩ = some (.slice none 0 0) := by rw [cell_of_row _ w3.heap.size 1 _ _ _ HP7.out]; rfl
    have p2 : w7.cell? ⟨w3.heap.size, 2, none⟩ = some (.bool false) := by rw [cell_of_row _ w3.heap.size 2 _ _ _ HP7.out]; rfl
    have g1 := frozen_of_row _ w3.heap.size 1 _ _ HP7.out
    have hp8 : W8.heap[w3.heap.size]? = some (.cells #[.string ks, .slice A7 nv c7, .bool false] 38) := by rw [hW8]; exact heap_setCell_same w7 w3.heap.size 1 _ _ _ HP7.out
    have hx8 := c8.heap HX7.out (fun e => by omega)
    have hr8 := HR7.out.other c8 (by have := HC3.out.size; omega) hne3
    have hc8 : Chg (· = r) w W8 := by
      have h3 : Chg (fun k => k = r ∨ k = w3.heap.size) w W8 := (HC7.out.imp (fun k h => .inl h)).trans (c8.imp fun k h => .inr h)
      exact ⟨h3.os, h3.tape, h3.output, h3.size, fun k hk hn => h3.block k hk (fun hs => hs.elim hn fun e => by omega)⟩
    have hs8 : Sl W8 (.slice A7 nv c7) val := HSL.out.chg c8 (fun k hk cs fr e => by
      have hk : k = w3.heap.size := hk
      rw [hk, HP7.out] at e
      injection e with e
      injection e with _ e
      exact absurd e (by decide))
    have HW8 := Lib.hid hW8; have HP8 := Lib.hid hp8; have HX8 := Lib.hid hx8; have HR8 := Lib.hid hr8; have HC8 := Lib.hid hc8; have HSL8 := Lib.hid hs8
    have hR := HR7.out.cells
    have r1 := hR.2.2.1
    have rf := hR.2.2.2 1
    have t0 : w7.cell? ⟨w.heap.size, 0, none⟩ = some (.string ⟨#[]⟩) := by rw [cell_of_row _ w.heap.size 0 _ _ _ HX7.out]; rfl
    have t1 : w7.cell? ⟨w.heap.size, 1, none⟩ = some (.slice none 0 0) := by rw [cell_of_row _ w.heap.size 1 _ _ _ HX7.out]; rfl
    have t2 : w7.cell? ⟨w.heap.size, 2, none⟩ = some (.bool false) := by rw [cell_of_row _ w.heap.size 2 _ _ _ HX7.out]; rfl
    have u0 := frozen_of_row _ w.heap.size 0 _ _ HX7.out
    have u1 := frozen_of_row _ w.heap.size 1 _ _ HX7.out
    have u2 := frozen_of_row _ w.heap.size 2 _ _ HX7.out
    clear hR c8 hp8 hx8 hr8 hc8 hs8 hW8
    cases bad5 with
    | true =>
      have HE := Lib.hid (put_end0 (w := w) (t := w.heap.size) HR8.out HC8.out (by omega) (Nat.le_refl _) hw0 HX8.out HSL8.out)
      go_wp2
      refine bodyPost_ret_by (by rw [results_cell1 rfl]; go_simp; rfl) rfl ?_
      have h := HE.out true (.string ks) (.slice A7 nv c7) (.bool false)
      rw [HW8.out] at h
      exact ⟨_, rfl, h.1, h.2.1, h.2.2⟩
    | false =>
      by_cases hk1' : 1 < k
      · have hk1i : (1 : Int) < k := by omega
        have hdk : decide (1 < k) = true := decide_eq_true hk1'
        have HDK := Lib.hid hdk
        clear hdk
        have HE := Lib.hid (put_end0 (w := w) (t := w.heap.size) HR8.out HC8.out (by omega) (Nat.le_refl _) hw0 HX8.out HSL8.out)
        go_wp2
        refine bodyPost_ret_by (by rw [results_cell1 rfl]; go_simp; rfl) rfl ?_
        have h := HE.out true (.string ks) (.slice A7 nv c7) (.bool false)
        rw [HW8.out] at h
        first
        | exact ⟨_, rfl, h.1, h.2.1, h.2.2⟩
        | (rw [HDK.out]; exact ⟨_, rfl, h.1, h.2.1, h.2.2⟩)
      · have hk1i : decide ((1 : Int) < k) = false := decide_eq_false (by omega)
        have hdk : decide (1 < k) = false := decide_eq_false hk1'
        have HDK := Lib.hid hdk
        clear hdk
        have hg := Lib.hid (kv_good W8 ⟨ks, val, false⟩ A7 c7 (by rw [← HNV.out]; exact hc7c))
        dsimp only at hg
        rw [← HNV.out] at hg
        go_wp2_with fail
        rw [← HW8.out]
        refine hg.out.mono ?_
        rintro e w9 ⟨rfl, hb9⟩
        have HP9 := Lib.hid ((Chg.of_below (S := fun _ => False) hb9).heap HP8.out (fun h => h))
        have HX9 := Lib.hid ((Chg.of_below (S := fun _ => False) hb9).heap HX8.out (fun h => h))
        have HR9 := Lib.hid (HR8.out.chg hb9)
        have HC9 := Lib.hid (HC8.out.trans (Chg.of_below hb9))
        have HSL9 := Lib.hid (HSL8.out.chg (Chg.of_below (S := fun _ => False) hb9) (fun k hk => hk.elim))
        obtain ⟨gd, hgd⟩ : ∃ gd, gd = PutD.good ⟨ks, val, false⟩ := ⟨_, rfl⟩
        rw [← hgd]
        have HGD := Lib.hid hgd; clear hgd
        clear hb9 hg t0 t1 t2 u0 u1 u2 r1 rf p0 p1 p2 g1
        have hz9 : w.heap.size < w9.heap.size := (Array.getElem?_eq_some_iff.1 HX9.out).1
        have hR := HR9.out.cells
        have r1 := hR.2.2.1
        have rf := hR.2.2.2 1
        clear hR
        have t0 : w9.cell? ⟨w.heap.size, 0, none⟩ = some (.string ⟨#[]⟩) := by rw [cell_of_row _ w.heap.size 0 _ _ _ HX9.out]; rfl
        have t1 : w9.cell? ⟨w.heap.size, 1, none⟩ = some (.slice none 0 0) := by rw [cell_of_row _ w.heap.size 1 _ _ _ HX9.out]; rfl
        have t2 : w9.cell? ⟨w.heap.size, 2, none⟩ = some (.bool false) := by rw [cell_of_row _ w.heap.size 2 _ _ _ HX9.out]; rfl
        have u0 := frozen_of_row _ w.heap.size 0 _ _ HX9.out
        have u1 := frozen_of_row _ w.heap.size 1 _ _ HX9.out
        have u2 := frozen_of_row _ w.heap.size 2 _ _ HX9.out
        have p0 : w9.cell? ⟨w3.heap.size, 0, none⟩ = some (.string ks) := by rw [cell_of_row _ w3.heap.size 0 _ _ _ HP9.out]; rfl
        have p1 : w9.cell? ⟨w3.heap.size, 1, none⟩ = some (.slice A7 nv c7) := by rw [cell_of_row _ w3.heap.size 1 _ _ _ HP9.out]; rfl
        have p2 : w9.cell? ⟨w3.heap.size, 2, none⟩ = some (.bool false) := by rw [cell_of_row _ w3.heap.size 2 _ _ _ HP9.out]; rfl
        have HE := Lib.hid (put_end0 (w := w) (t := w.heap.size) HR9.out HC9.out (by omega) (Nat.le_refl _) hw0 HX9.out HSL9.out)
        go_wp2
        refine bodyPost_ret_by (by rw [results_cell1 rfl]; go_simp; rfl) rfl ?_
        have h := HE.out (!gd) (.string ks) (.slice A7 nv c7) (.bool false)
        first
        | (rw [← HGD.out, HDK.out]; exact ⟨_, rfl, h.1, h.2.1, h.2.2⟩)
        | (rw [← HGD.out]; exact ⟨_, rfl, h.1, h.2.1, h.2.2⟩)
end Go.Proofs.Ytgaccogekmaijaa
