/- Load: a table read. -/
import Derived.Test.YtgaccogekmaijaaKvDec
import Derived.Test.YtgaccogekmaijaaKvCommit
import Derived.Test.YtgaccogekmaijaaRel
import Derived.Test.YtgaccogekmaijaaRelTail
namespace Go.Proofs.Ytgaccogekmaijaa
open Go.RowKit
set_option linter.unusedVariables false
set_option linter.unusedSimpArgs false
attribute [local irreducible] wpR relOp
/-- up to p: nothing gone, keys rise -/
def okTo (xs : List PutD) (p : Nat) : Prop := ∀ j, (hj : j < xs.length) → j < p → xs[j].gone = false ∧ ∀ i, (hi : i < xs.length) → i + 1 = j → KvMath.bl xs[i].key xs[j].key = true
def LoadPost (w : World) (bs : List UInt8) (e : Ending) (w' : World) : Prop := Below w.heap.size w w' ∧
  ((∃ xs B g w1, decB bs = some xs ∧ okTo xs xs.length ∧ e = .returned (.tuple #[.pointer (some ⟨g, 0, none⟩), .int .i64 0]) ∧ Tb w1 w' B g xs.length (KvMath.all [] (xs.map PutD.ent)) ∧ w.heap.size ≤ B) ∨
   ((∀ xs, decB bs = some xs → ¬ okTo xs xs.length) ∧ e = .returned (.tuple #[.pointer none, .int .i64 3])))
set_option maxRecDepth 20000 in
set_option maxHeartbeats 4000000 in
theorem kv_load (w : World) (A : Option Addr) (c : Nat) (bs : List UInt8) (hrd : Rd w A bs) (hc : bs.length ≤ c) (hl : bs.length ≤ 100000) :
    Calls Try.prog 16 #[.slice A bs.length c] w fun e w' => LoadPost w bs e w' := by
  have hdec := Lib.hid (kv_decode w A c bs hrd hc (by omega))
  obtain ⟨m, hm⟩ : ∃ m, m = bs.length := ⟨_, rfl⟩
  rw [← hm] at hdec hc hl ⊢
  have HM := Lib.hid hm
  clear hm hrd
  go_enter Try.func16, Try.ntmps16
  go_wp2_with fail
  refine hdec.out.mono ?_
  rintro e w1 ⟨hb1, (⟨xs, v, hd, rfl, hpr⟩ | ⟨hd, rfl⟩)⟩
  · have HB1 := Lib.hid hb1; have HD := Lib.hid hd
    have hg := decB_good _ bs xs (Nat.le_refl _) hd
    have hxz : ∀ x ∈ xs, x.key.size ≤ 200 ∧ x.val.length ≤ 200000 := fun x hx => by
      have h1 := List.all_eq_true.1 hg.1 x hx
      simp only [PutD.good, Bool.and_eq_true, decide_eq_true_eq] at h1
      exact ⟨h1.1.1.2, h1.1.2⟩
    obtain ⟨A1, c1, rfl, hc1, hrow⟩ := hpr.row (fun x hx => by have := hxz x hx; omega)
    obtain ⟨n, hn⟩ : ∃ n, n = xs.length := ⟨_, rfl⟩
    have hn2 : n ≤ 100000 := by rw [hn]; have := hg.2; rw [← HM.out] at this; omega
    rw [← hn] at hc1 ⊢
    have HN := Lib.hid hn; have HXZ := Lib.hid hxz; have HROW := Lib.hid hrow
    clear hb1 hd hg hxz hpr hrow hn hdec
    go_wp2_with fail
    refine (kv_new w1).mono ?_
    rintro e w2 ⟨rfl, htb, hb2⟩
    have HTB := Lib.hid htb
    have HPS := Lib.hid (PutS.of_row HROW.out hb2 (Nat.le_refl _))
    generalize hB : w1.heap.size = B at *
    clear htb hb2
    go_wp2_with fail
    rename World => wA
    have HW1B : Hid (w.heap.size ≤ B) := Lib.hid (by have := HB1.out.size; omega)
    go_loopw [20] (fun i wr => ∃ p : Nat, p ≤ n ∧ i = .int .i64 p ∧ okTo xs p ∧ Tb w1 wr B (B + 1) p (KvMath.all [] ((xs.take p).map PutD.ent)) ∧ TV B wA wr) (fun i _ => n - (intOf i).toNat)
    case atStart => exact ⟨0, by omega, rfl, fun j _ h => absurd h (by omega), HTB.out, TV.refl _ _⟩
    case round =>
      rename World => wL
      obtain ⟨p, hp, rfl, hok, htb, htv⟩ := hrel
      have HOK := Lib.hid hok; have HTb := Lib.hid htb; have HTv := Lib.hid htv
      clear hok htb htv
      by_cases hlt : p < n
      · have hltI : (p : Int) < n := by omega
        have hpx : p < xs.length := by rw [← HN.out]; exact hlt
        have hro1 := HPS.out.tv HTv.out
        obtain ⟨a, rfl, hro2⟩ := hro1 (by omega)
        obtain ⟨Aj, cj, hcj, hkz, hvz, hst⟩ := hro2 p hpx
        obtain ⟨c0, c1', c2, hrdp⟩ := hst wL (TV.refl _ _)
        have hxz := HXZ.out _ (List.getElem_mem hpx)
        have hta : KvMath.all [] ((xs.take (p + 1)).map PutD.ent) = KvMath.one (KvMath.all [] ((xs.take p).map PutD.ent)) xs[p].key xs[p].val xs[p].gone := by
          rw [List.take_add_one, List.getElem?_eq_getElem hpx]
          simp only [Option.toList, List.map_append, List.map_cons, List.map_nil]
          rw [KvMath.all_snoc]
          rfl
        have hprev : ∀ i, (hi : i < xs.length) → wL.cell? (a.add (i * 3)) = some (.string xs[i].key) := fun i hi => by
          obtain ⟨_, _, _, _, _, hst2⟩ := hro2 i hi
          exact (hst2 wL (TV.refl _ _)).1
        have HPV := Lib.hid hprev
        have hokx : ∀ j, (hj : j < xs.length) → j = p → ((xs[j].gone = false ∧ ∀ i, (hi : i < xs.length) → i + 1 = j → KvMath.bl xs[i].key xs[j].key = true) ↔ okTo xs (p + 1)) := fun j hj e => by
          subst e
          constructor
          · intro h q hq hlq
            by_cases hqp : q = j
            · subst hqp; exact h
            · exact HOK.out q hq (by omega)
          · intro h
            exact h j hj (by omega)
        have hokx := hokx p hpx rfl
        have hrd0 : ∀ W, TV B wL W → Rd W Aj xs[p].val := fun W hW => (hst W hW).2.2.2
        have hbnd : (KvMath.all [] ((xs.take p).map PutD.ent)).length ≤ 900000 := by
          have h1 := KvMath.all_len [] List.Pairwise.nil ((xs.take p).map PutD.ent)
          rw [List.length_map] at h1
          have h2 : (xs.take p).length ≤ p := by rw [List.length_take]; omega
          have h3 : ([] : List KvMath.Ent).length = 0 := rfl
          omega
        have hkeyp : ∀ i, (hi : i < xs.length) → (i + 1 = p) → KvMath.bl xs[i].key xs[p].key = KvMath.bl xs[i].key xs[p].key := fun _ _ _ => rfl
        clear hst hro1 hprev hkeyp hkz hvz
        obtain ⟨xk, hxk⟩ : ∃ xk, xk = xs[p].key := ⟨_, rfl⟩
        obtain ⟨xv, hxv⟩ : ∃ xv, xv = xs[p].val := ⟨_, rfl⟩
        obtain ⟨xg, hxg⟩ : ∃ xg, xg = xs[p].gone := ⟨_, rfl⟩
        rw [← hxk, ← hxv, ← hxg] at hta
        rw [← hxk] at c0 hxz
        rw [← hxv] at c1' hcj hrd0 hxz
        rw [← hxg] at c2
        simp only [← hxk, ← hxg] at hokx
        obtain ⟨nv, hnv⟩ : ∃ nv, nv = xv.length := ⟨_, rfl⟩
        rw [← hnv] at c1' hcj
        obtain ⟨W1, hW1⟩ : ∃ W1, W1 = wL.alloc (.cells #[.string xk, .slice Aj nv cj, .bool xg] 38) := ⟨_, rfl⟩
        have hbw1 : Below wL.heap.size wL W1 := by rw [hW1]; exact (Below.refl _ wL).alloc (Nat.le_refl _) _
        have hx1 : W1.heap[wL.heap.size]? = some (.cells #[.string xk, .slice Aj nv cj, .bool xg] 38) := by rw [hW1]; exact heap_new wL _ _ rfl
        have HGW : Hid (∀ W, Gr W1.heap.size W1.drew W → Below W1.heap.size W1 W) := Lib.hid fun W hW => (Below.drew (Below.refl W1.heap.size W1)).trans hW.1
        have hwp : IntKind.i64.wrap ((p : Int) + 1) = ((p + 1 : Nat) : Int) := by rw [IntKind.wrap_i64]; omega
        have HX1 := Lib.hid hx1; have HBW := Lib.hid hbw1; have HTA := Lib.hid hta; have HOKX := Lib.hid hokx; have HRD := Lib.hid hrd0; have HNV := Lib.hid hnv; have HW1 := Lib.hid hW1; have HBND := Lib.hid hbnd; have HXK := Lib.hid hxk; have HXV := Lib.hid hxv; have HXG := Lib.hid hxg
        clear hx1 hbw1 hta hokx hrd0 hnv hW1 hbnd hxk hxv hxg hro2
        cases xg with
        | true =>
          have HC : Hid (∀ W, Gr W1.heap.size W1.drew W → W.cell? ⟨wL.heap.size, 0, none⟩ = some (.string xk) ∧ W.cell? ⟨wL.heap.size, 2, none⟩ = some (.bool true)) := Lib.hid fun W hW => ⟨cell_below (HGW.out W hW) (by rw [cell_of_row _ wL.heap.size 0 _ _ _ HX1.out]; rfl), cell_below (HGW.out W hW) (by rw [cell_of_row _ wL.heap.size 2 _ _ _ HX1.out]; rfl)⟩
          go_wp2_with fail
          rw [← HW1.out]
          refine wp_region_tbl _ (fun _ => none) (W1.heap.size) (by kernel_rfl) (by kernel_rfl) (by kernel_rfl) ?_
          repeat (first | (refine wpR_plain ?_ (by rfl) (fun K hK => ?_); (focus (first | (simp only [Region.wanted]; done) | (go_simp; done))); apply Exists.intro; refine ⟨fun W hW => ?_, ?_⟩; (go_simp; (try simp only [plainUpon_value, true_and]); rfl); go_simp; refine hK _ ?_; clear hK K) | (refine wpR_plain ?_ (by rfl) (fun K hK => ?_); (focus (first | (simp only [Region.wanted]; done) | (go_simp; done))); apply Exists.intro; refine ⟨fun W hW => ?_, ?_⟩; (have hcw := HC.out W hW; go_simp; (try simp only [plainUpon_value, true_and]); rfl); go_simp; refine hK _ ?_; clear hK K) | (refine wpR_skip ?_ (fun K hK => ?_); (focus (first | (simp only [Region.wanted]; done) | (go_simp; done) | (simp [Region.wanted, yielded, undef]; done) | (go_simp; simp [undef]; done) | (go_simp; decide) | rfl)); go_simp; refine hK _ ?_; clear hK K))
          refine wpR_nil (fun W hW hF => ?_)
          have HX := Lib.hid (HGW.out W hW)
          clear hF hW HGW HC
          go_wp2
          go_ret2
          have hbt := ((HTb.out.below HBW.out).below HX.out).bel
          refine ⟨HB1.out.trans (hbt.mono HW1B.out), .inr ⟨fun ys e hall => ?_, rfl⟩⟩
          rw [HD.out] at e
          injection e with e
          subst e
          have hz := HOKX.out.2 (fun q hq hlq => hall q hq hq)
          exact absurd hz.1 (by decide)
        | false =>
          rcases Nat.eq_zero_or_pos p with h0 | h0
          · have hp0 : decide (0 < p) = false := decide_eq_false (by omega)
            have HP0 := Lib.hid h0
            clear h0
            have HC : Hid (∀ W, Gr W1.heap.size W1.drew W → W.cell? ⟨wL.heap.size, 0, none⟩ = some (.string xk) ∧ W.cell? ⟨wL.heap.size, 2, none⟩ = some (.bool false)) := Lib.hid fun W hW => ⟨cell_below (HGW.out W hW) (by rw [cell_of_row _ wL.heap.size 0 _ _ _ HX1.out]; rfl), cell_below (HGW.out W hW) (by rw [cell_of_row _ wL.heap.size 2 _ _ _ HX1.out]; rfl)⟩
            go_wp2_with fail
            rw [← HW1.out]
            refine wp_region_tbl _ (fun _ => none) (W1.heap.size) (by kernel_rfl) (by kernel_rfl) (by kernel_rfl) ?_
            repeat (first | (refine wpR_plain ?_ (by rfl) (fun K hK => ?_); (focus (first | (simp only [Region.wanted]; done) | (go_simp; done))); apply Exists.intro; refine ⟨fun W hW => ?_, ?_⟩; (go_simp; (try simp only [plainUpon_value, true_and]); rfl); go_simp; refine hK _ ?_; clear hK K) | (refine wpR_plain ?_ (by rfl) (fun K hK => ?_); (focus (first | (simp only [Region.wanted]; done) | (go_simp; done))); apply Exists.intro; refine ⟨fun W hW => ?_, ?_⟩; (have hcw := HC.out W hW; go_simp; (try simp only [plainUpon_value, true_and]); rfl); go_simp; refine hK _ ?_; clear hK K) | (refine wpR_skip ?_ (fun K hK => ?_); (focus (first | (simp only [Region.wanted]; done) | (go_simp; done) | (simp [Region.wanted, yielded, undef]; done) | (go_simp; simp [undef]; done) | (go_simp; decide) | rfl)); go_simp; refine hK _ ?_; clear hK K))
            refine wpR_nil (fun W hW hF => ?_)
            have HX := Lib.hid (HGW.out W hW)
            have hxW : W.heap[wL.heap.size]? = some (.cells #[.string xk, .slice Aj nv cj, .bool false] 38) := (HX.out.block _ (Array.getElem?_eq_some_iff.1 HX1.out).1).trans HX1.out
            have x0 : W.cell? ⟨wL.heap.size, 0, none⟩ = some (.string xk) := by rw [cell_of_row _ wL.heap.size 0 _ _ _ hxW]; rfl
            have x1 : W.cell? ⟨wL.heap.size, 1, none⟩ = some (.slice Aj nv cj) := by rw [cell_of_row _ wL.heap.size 1 _ _ _ hxW]; rfl
            have x2 : W.cell? ⟨wL.heap.size, 2, none⟩ = some (.bool false) := by rw [cell_of_row _ wL.heap.size 2 _ _ _ hxW]; rfl
            have htW := (HTb.out.below HBW.out).below HX.out
            have htvW : TV B wL W := (TV.of_below HBW.out HTb.out.sz).trans (TV.of_below HX.out (Nat.le_trans HTb.out.sz HBW.out.size))
            have hbelW := htW.bel
            obtain ⟨mm, vkk, ff, nn, hTM, hnnp, _, hBsz⟩ := htW
            have hone := kv_one_m W B (B + 1) p mm nn vkk ff _ hTM hnnp hBsz (by omega) HBND.out xk hxz.1 Aj cj xv false hxz.2 (by rw [← HNV.out]; exact hcj) (fun V hV => HRD.out V (htvW.trans hV))
            rw [← HTA.out, ← HNV.out] at hone
            have HONE := Lib.hid hone; have HTM := Lib.hid hTM; have HBelW := Lib.hid hbelW; have HTVW := Lib.hid htvW
            clear hF hW HGW HC hxW htvW hbelW hTM hone
            go_wp2_with fail
            refine HONE.out.mono ?_
            rintro e w3 ⟨rfl, htk⟩
            obtain ⟨htb3, htv3⟩ := htk.tb HTM.out hBsz
            have HT3 := Lib.hid (htb3.lift HBelW.out); have HTV3 := Lib.hid (HTv.out.trans (HTVW.out.trans htv3))
            clear htb3 htv3 htk HONE
            go_wp2
            go_roundw
            case rel => exact ⟨p + 1, by omega, by go_num, HOKX.out.1 ⟨(by first | rfl | trivial), fun i _ hi => absurd hi (by have := HP0.out; omega)⟩, HT3.out, HTV3.out⟩
            case measure => simp [intOf]; omega
          · obtain ⟨r, hrp⟩ : ∃ r, r = p - 1 := ⟨_, rfl⟩
            have hp0 : (0 : Int) < (p : Int) := by omega
            have hwm : IntKind.i64.wrap ((p : Int) - 1) = (r : Int) := by rw [IntKind.wrap_i64]; omega
            have hrn : r < n := by omega
            have hrL : r < xs.length := by omega
            have e0 := HPV.out r hrL
            obtain ⟨yk, hyk⟩ : ∃ yk, yk = xs[r].key := ⟨_, rfl⟩
            rw [← hyk] at e0
            have HYK := Lib.hid hyk
            obtain ⟨cmp, hcmp⟩ : ∃ cmp, cmp = KvMath.bl yk xk := ⟨_, rfl⟩
            have HCMP := Lib.hid hcmp
            have hcm : Op.bytesLess yk.toList xk.toList = cmp := by rw [hcmp]; rfl
            have HRP := Lib.hid hrp
            clear hyk hcmp hrp
            have HC : Hid (∀ W, Gr W1.heap.size W1.drew W → W.cell? ⟨wL.heap.size, 0, none⟩ = some (.string xk) ∧ W.cell? ⟨wL.heap.size, 2, none⟩ = some (.bool false) ∧ W.cell? (a.add (r * 3)) = some (.string yk)) := Lib.hid fun W hW => ⟨cell_below (HGW.out W hW) (by rw [cell_of_row _ wL.heap.size 0 _ _ _ HX1.out]; rfl), cell_below (HGW.out W hW) (by rw [cell_of_row _ wL.heap.size 2 _ _ _ HX1.out]; rfl), cell_below (HGW.out W hW) (cell_below HBW.out e0)⟩
            clear e0
            cases cmp with
            | false =>
              go_wp2_with fail
              rw [← HW1.out]
              refine wp_region_tbl _ (fun _ => none) (W1.heap.size) (by kernel_rfl) (by kernel_rfl) (by kernel_rfl) ?_
              repeat (first | (refine wpR_plain ?_ (by rfl) (fun K hK => ?_); (focus (first | (simp only [Region.wanted]; done) | (go_simp; done))); apply Exists.intro; refine ⟨fun W hW => ?_, ?_⟩; (go_simp; (try simp only [plainUpon_value, true_and]); rfl); go_simp; refine hK _ ?_; clear hK K) | (refine wpR_plain ?_ (by rfl) (fun K hK => ?_); (focus (first | (simp only [Region.wanted]; done) | (go_simp; done))); apply Exists.intro; refine ⟨fun W hW => ?_, ?_⟩; (have hcw := HC.out W hW; go_simp; (try simp only [plainUpon_value, true_and]); rfl); go_simp; refine hK _ ?_; clear hK K) | (refine wpR_skip ?_ (fun K hK => ?_); (focus (first | (simp only [Region.wanted]; done) | (go_simp; done) | (simp [Region.wanted, yielded, undef]; done) | (go_simp; simp [undef]; done) | (go_simp; decide) | rfl)); go_simp; refine hK _ ?_; clear hK K))
              refine wpR_nil (fun W hW hF => ?_)
              have HX := Lib.hid (HGW.out W hW)
              clear hF hW HGW HC
              go_wp2
              go_ret2
              have hbt := ((HTb.out.below HBW.out).below HX.out).bel
              refine ⟨HB1.out.trans (hbt.mono HW1B.out), .inr ⟨fun ys e hall => ?_, rfl⟩⟩
              rw [HD.out] at e
              injection e with e
              subst e
              have hz := HOKX.out.2 (fun q hq hlq => hall q hq hq)
              have hz2 := hz.2 r hrL (by have := HRP.out; omega)
              rw [← HYK.out, ← HCMP.out] at hz2
              cases hz2
            | true =>
              go_wp2_with fail
              rw [← HW1.out]
              refine wp_region_tbl _ (fun _ => none) (W1.heap.size) (by kernel_rfl) (by kernel_rfl) (by kernel_rfl) ?_
              repeat (first | (refine wpR_plain ?_ (by rfl) (fun K hK => ?_); (focus (first | (simp only [Region.wanted]; done) | (go_simp; done))); apply Exists.intro; refine ⟨fun W hW => ?_, ?_⟩; (go_simp; (try simp only [plainUpon_value, true_and]); rfl); go_simp; refine hK _ ?_; clear hK K) | (refine wpR_plain ?_ (by rfl) (fun K hK => ?_); (focus (first | (simp only [Region.wanted]; done) | (go_simp; done))); apply Exists.intro; refine ⟨fun W hW => ?_, ?_⟩; (have hcw := HC.out W hW; go_simp; (try simp only [plainUpon_value, true_and]); rfl); go_simp; refine hK _ ?_; clear hK K) | (refine wpR_skip ?_ (fun K hK => ?_); (focus (first | (simp only [Region.wanted]; done) | (go_simp; done) | (simp [Region.wanted, yielded, undef]; done) | (go_simp; simp [undef]; done) | (go_simp; decide) | rfl)); go_simp; refine hK _ ?_; clear hK K))
              refine wpR_nil (fun W hW hF => ?_)
              have HX := Lib.hid (HGW.out W hW)
              have hxW : W.heap[wL.heap.size]? = some (.cells #[.string xk, .slice Aj nv cj, .bool false] 38) := (HX.out.block _ (Array.getElem?_eq_some_iff.1 HX1.out).1).trans HX1.out
              have x0 : W.cell? ⟨wL.heap.size, 0, none⟩ = some (.string xk) := by rw [cell_of_row _ wL.heap.size 0 _ _ _ hxW]; rfl
              have x1 : W.cell? ⟨wL.heap.size, 1, none⟩ = some (.slice Aj nv cj) := by rw [cell_of_row _ wL.heap.size 1 _ _ _ hxW]; rfl
              have x2 : W.cell? ⟨wL.heap.size, 2, none⟩ = some (.bool false) := by rw [cell_of_row _ wL.heap.size 2 _ _ _ hxW]; rfl
              have htW := (HTb.out.below HBW.out).below HX.out
              have htvW : TV B wL W := (TV.of_below HBW.out HTb.out.sz).trans (TV.of_below HX.out (Nat.le_trans HTb.out.sz HBW.out.size))
              have hbelW := htW.bel
              obtain ⟨mm, vkk, ff, nn, hTM, hnnp, _, hBsz⟩ := htW
              have hone := kv_one_m W B (B + 1) p mm nn vkk ff _ hTM hnnp hBsz (by omega) HBND.out xk hxz.1 Aj cj xv false hxz.2 (by rw [← HNV.out]; exact hcj) (fun V hV => HRD.out V (htvW.trans hV))
              rw [← HTA.out, ← HNV.out] at hone
              have HONE := Lib.hid hone; have HTM := Lib.hid hTM; have HBelW := Lib.hid hbelW; have HTVW := Lib.hid htvW
              clear hF hW HGW HC hxW htvW hbelW hTM hone
              go_wp2_with fail
              refine HONE.out.mono ?_
              rintro e w3 ⟨rfl, htk⟩
              obtain ⟨htb3, htv3⟩ := htk.tb HTM.out hBsz
              have HT3 := Lib.hid (htb3.lift HBelW.out); have HTV3 := Lib.hid (HTv.out.trans (HTVW.out.trans htv3))
              clear htb3 htv3 htk HONE
              go_wp2
              go_roundw
              case rel => exact ⟨p + 1, by omega, by go_num, HOKX.out.1 ⟨(by first | rfl | trivial), fun i hi he => (by
                have e : i = r := by have := HRP.out; omega
                subst e
                rw [← HYK.out, ← HCMP.out])⟩, HT3.out, HTV3.out⟩
              case measure => simp [intOf]; omega
      · have hltI : ¬ (p : Int) < n := by omega
        have hpn : p = n := by omega
        have HPN := Lib.hid hpn
        clear hpn
        go_wp2
        go_ret2
        have e := HPN.out
        have htb := HTb.out
        have hok := HOK.out
        rw [e] at htb hok
        rw [List.take_of_length_le (by rw [← HN.out]; exact Nat.le_refl _)] at htb
        have hn := HN.out
        refine ⟨HB1.out.trans (htb.bel.mono HW1B.out), .inl ⟨xs, B, B + 1, w1, HD.out, by rw [← hn]; exact hok, rfl, by rw [← hn]; exact htb, HW1B.out⟩⟩
  · have HB1 := Lib.hid hb1; have HD := Lib.hid hd
    clear hb1 hd hdec
    go_wp2
    go_ret2
    exact ⟨HB1.out, .inr ⟨fun xs e => (by rw [HD.out] at e; cases e), rfl⟩⟩
end Go.Proofs.Ytgaccogekmaijaa
