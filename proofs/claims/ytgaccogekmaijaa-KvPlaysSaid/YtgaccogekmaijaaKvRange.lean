/- A range of a table. -/
import Derived.Test.YtgaccogekmaijaaKvCommit
import Derived.Test.YtgaccogekmaijaaKvRecs
import Derived.Test.YtgaccogekmaijaaRelApp
namespace Go.Proofs.Ytgaccogekmaijaa
open Go.RowKit
set_option linter.unusedVariables false
set_option linter.unusedSimpArgs false
attribute [local irreducible] wpR relOp
theorem clone_relG {Tr : Nat → Option ATr} {S0 : Nat} (W : World) (hS : S0 ≤ W.heap.size) (A : Option Addr) (n c : Nat) (l : List UInt8) (hr : Rd W A l) (hl : n = l.length) (hz : n ≤ 200000) :
    Calls Try.prog 31 #[.slice A n c] W fun e w'' => ∃ v, e = .returned v ∧ GA Tr W w'' ∧ (∃ A c, v = .slice A n c ∧ n ≤ c) ∧ SlF S0 v l w'' := by
  subst hl
  refine (clone_any W A c l hr (by omega)).mono ?_
  rintro e w1 ⟨v, rfl, ho, hb⟩
  obtain ⟨A1, c1, rfl, h1, h2⟩ := ho.rd
  exact ⟨_, rfl, GA.of_below hb, ⟨A1, c1, rfl, h1⟩, ho.sl, fun g hg => Nat.le_trans hS (own_base ho g hg)⟩
theorem info_pair : (Try.prog.info? 34).map (fun i => (i.zero, i.size, i.bytes)) = some (some (.agg #[.string ByteArray.empty, .slice none 0 0]), 2, 40) := by kernel_rfl
theorem Src.lit {B0 e : Nat} {xs : List Value} {gL n c : Nat} {W : World} (h : LitG B0 e xs (.slice (some ⟨gL, 0, none⟩) n c) W) : Src W (some ⟨gL, 0, none⟩) xs := by
  obtain ⟨h1, _⟩ := h
  obtain ⟨fr, h2⟩ : ∃ fr, W.heap[gL]? = some (Obj.cells xs.toArray e fr) := h1
  intro _
  refine ⟨_, rfl, fun j u hu => ?_⟩
  have ha : (⟨gL, 0, none⟩ : Addr).add j = ⟨gL, j, none⟩ := by unfold Addr.add; split <;> simp_all
  rw [ha, cell_of_row _ gL j _ _ _ h2]
  simpa using hu
theorem pair_app {o : Oper} {a : Act} {W : World} {Tr : Nat → Option ATr} {pp : ATr} {S0 B n gL nl c7 : Nat} {kk : ByteArray} {l : List UInt8} {A7 : Option Addr} {xs : List Value} {v : Value} {s x : Operand}
    (ho : o.op = .call { callee := .builtin .append, args := #[s, x], argTypes := #[30, 30] }) (hs : a.eval s = v) (hx : a.eval x = .slice (some ⟨gL, 0, none⟩) 1 1)
    (hpp : pp = ⟨n * 2, 2, fun news W => ∃ A c, news = [.string kk, .slice A nl c] ∧ nl ≤ c ∧ SlF S0 (.slice A nl c) l W⟩)
    (h9 : LitG S0 34 (flatC [.agg #[.string kk, .slice A7 nl c7]]) (.slice (some ⟨gL, 0, none⟩) 1 1) W) (h7 : SlF S0 (.slice A7 nl c7) l W) (hc7 : nl ≤ c7)
    (hrow : W.ownsRow B 34 2 v n xs) (hn : n ≤ 1000000) (hB : B ≤ S0) (hS : S0 ≤ W.heap.size) (hB0 : ∀ k, S0 ≤ k → Tr k = none) (hTv : ∀ k, v.ownBlock = some k → Tr k = some pp) :
    relUpon Try.prog (GA Tr) W (fun v W' => (∃ A c, v = .slice A (n + 1) c ∧ n + 1 ≤ c) ∧ RowQ Tr S0 B 34 2 (n + 1) xs pp v W') ((execOp a.eval o).run Try.prog W) := by
  have hfl : flatC [.agg #[.string kk, .slice A7 nl c7]] = [.string kk, .slice A7 nl c7] := rfl
  rw [hfl] at h9
  refine rel_app Tr pp S0 B s x 30 34 (.agg #[.string ByteArray.empty, .slice none 0 0]) 2 40 ho Try.underlying30 info_pair rfl (by decide) (by decide) v n xs [.string kk, .slice A7 nl c7] (some ⟨gL, 0, none⟩) 1 1 hs hx hrow rfl (Src.lit h9) ?_ (Nat.le_trans hB hS) (by omega) hB0 hS hTv (by rw [hpp]) (by rw [hpp]) (fun W' hch => ?_)
  · intro u hu
    simp at hu
    rcases hu with rfl | rfl <;> rfl
  · rw [hpp]
    exact ⟨A7, c7, rfl, hc7, h7.chg hB0 hch⟩
def rgTbl (Tr : Nat → Option ATr) (S0 B n nl : Nat) (l : List UInt8) (xs : List Value) (pp : ATr) (hB0 : ∀ k, S0 ≤ k → Tr k = none) (hgst : ∀ news W W', pp.good news W → Chg (Td Tr) W W' → pp.good news W') (h1 : pp.pos = xs.length) (h2 : pp.len + xs.length = (n + 1) * 2) : Nat → Option (SpG Tr)
  | 20 => some (slG Tr S0 nl l hB0)
  | 22 => some (.lit 34 flatC)
  | 23 => some (rowG Tr S0 B 34 2 (n + 1) xs pp hgst h1 h2)
  | _ => none
/-- a key's cell in the keys' row -/
theorem TbM.key {w : World} {B g m n : Nat} {vk : Value} {f : ByteArray → Option Value} {L : List KvMath.Ent} (h : TbM w B g m vk f n L) (j : Nat) (hj : j < L.length) : ∃ ad c, vk = .slice (some ad) L.length c ∧ ∀ i, (hi : i < L.length) → w.cell? (ad.add i) = some (.string L[i].1) := by
  rcases h.ks.2 with ⟨_, h0⟩ | ⟨gk, cap, cur, e0, hb, hh, hc, hm, hsz, htk⟩
  · omega
  · refine ⟨_, _, e0, fun i hi => ?_⟩
    have ho := h.ks
    rw [e0] at ho
    exact World.ownsRow.cells (g := gk) ho rfl i _ (by simp [svl, hi])
theorem toE (k : ByteArray) : k.toList.isEmpty = decide (k.size = 0) := by
  rw [Lib.toList_data]
  have : k.size = k.data.toList.length := by rw [Array.length_toList]; rfl
  rw [this]
  cases k.data.toList <;> simp
set_option maxRecDepth 20000 in
set_option maxHeartbeats 4000000 in
theorem kv_range {w0 w : World} {B g N : Nat} {L : List KvMath.Ent} (h : Tb w0 w B g N L) (from_ to : ByteArray) (most : Int) (hL : L.length ≤ 100000) :
    Calls Try.prog 12 #[.pointer (some ⟨g, 0, none⟩), .string from_, .string to, .int .i64 most] w fun e w' => ∃ v, e = .returned v ∧ Recs w' w.heap.size 34 v (KvMath.range L from_ to most) ∧ Below w.heap.size w w' := by
  obtain ⟨m, vk, f, n, hT, _⟩ := h
  obtain ⟨Ak, ck, hvk, hck⟩ := orow_shape hT.ks
  have hbs := bs_any w B L hT.ri from_ Ak ck (by rw [← hvk]; exact hT.ks) (by omega)
  have hri := hT.ri
  obtain ⟨nk, hnk⟩ : ∃ nk, nk = L.length := ⟨_, rfl⟩
  obtain ⟨pq, hpq⟩ : ∃ pq, pq = KvMath.pos L from_ := ⟨_, rfl⟩
  have hpl := KvMath.pos_le L from_
  rw [← hpq] at hbs hpl
  rw [← hnk] at hvk hck hbs hpl
  have g1 : w.cell? ⟨g, 1, none⟩ = some (.slice Ak nk ck) := by rw [cell_of_row _ g 1 _ _ _ hT.nn.st, hvk]; rfl
  have hnkl : nk ≤ 100000 := by omega
  have HTb := Lib.hid hT; have HVK := Lib.hid hvk; have HNK := Lib.hid hnk; have HPQ := Lib.hid hpq; have HBS := Lib.hid hbs; have HRI := Lib.hid hri
  generalize KvMath.has L from_ = bh at *
  have hDlen : (L.drop pq).length = nk - pq := by rw [List.length_drop, ← hnk]
  have HDL0 := Lib.hid hDlen
  clear hT hvk hnk hpq hbs hri hDlen
  go_enter Try.func12, Try.ntmps12
  go_wp2_with fail
  refine HBS.out.mono ?_
  rintro e w1 ⟨rfl, hb1⟩
  have HB1 := Lib.hid hb1
  clear hb1 HBS g1
  go_wp2_with fail
  rename World => wA
  go_loopw [9, 10] (fun l i wr => ∃ q : Nat, pq + q ≤ nk ∧ i = .int .i64 ((pq + q : Nat) : Int) ∧ Recs wr w.heap.size 34 l ((L.drop pq).take q) ∧ Below w.heap.size w wr ∧ q ≤ most.toNat ∧ ∀ j, (hj : j < (L.drop pq).length) → j < q → KvMath.inR to (L.drop pq)[j] = true) (fun _ i _ => nk - (intOf i).toNat)
  case atStart => exact ⟨0, by omega, rfl, Recs.nil _ _ _, HB1.out, Nat.zero_le _, fun j _ hj => by omega⟩
  case round =>
    rename World => wL
    obtain ⟨q, hqn, rfl, hre, hb, hqm, hin⟩ := hrel
    clear HB1
    have hq1 : q ≤ 1000000 := by omega
    have HTn := Lib.hid (HTb.out.below hb)
    have g1 : wL.cell? ⟨g, 1, none⟩ = some (.slice Ak nk ck) := by rw [cell_of_row _ g 1 _ _ _ HTn.out.nn.st, HVK.out]; rfl
    have HRe := Lib.hid hre; have HB := Lib.hid hb; have HIn := Lib.hid hin
    obtain ⟨Al, cl, hl0, hcl, _⟩ := hre.rd
    have hlq : ((L.drop pq).take q).length = q := by rw [List.length_take, HDL0.out]; omega
    rw [hlq] at hl0 hcl
    subst hl0
    obtain ⟨t, ht⟩ : ∃ t, t = pq + q := ⟨_, rfl⟩
    rw [← ht] at hqn ⊢
    have HT := Lib.hid ht
    clear hre hb hin ht hlq
    by_cases h1 : t < nk
    · have hqd : q < (L.drop pq).length := by rw [HDL0.out]; have := HT.out; omega
      have htl : t < L.length := by rw [← HNK.out]; exact h1
      obtain ⟨ad, ck2, hvk2, hkey⟩ := HTn.out.key t htl
      obtain ⟨rfl, hck2⟩ : Ak = some ad ∧ ck2 = ck := by
        have := HVK.out
        rw [hvk2] at this
        injection this with e1 e2 e3
        exact ⟨e1.symm, e3⟩
      have c1 := hkey t htl
      have hgd : (L.drop pq)[q] = L[t] := by simp [HT.out]
      have HKz := Lib.hid (HTn.out.kz L[t] (List.getElem_mem htl))
      have hfm := HTn.out.nn.fm L[t].1
      rw [KvMath.get_of_mem HRI.out (List.getElem_mem htl)] at hfm
      obtain ⟨vv, hfv, hsv⟩ := hfm
      have hlk := HTn.out.nn.mp.look1 L[t].1 (by have := HKz.out.1; unfold maxLen; omega)
      rw [hfv] at hlk
      have HIq : Hid (∀ h : q < (L.drop pq).length, KvMath.inR to (L.drop pq)[q] = KvMath.inR to L[t]) := Lib.hid fun h => by rw [hgd]
      have HTK : Hid ((L.drop pq).take (q + 1) = (L.drop pq).take q ++ [(L[t].1, L[t].2)]) := Lib.hid (by rw [List.take_add_one, List.getElem?_eq_getElem hqd, hgd]; rfl)
      have HQD := Lib.hid hqd
      clear hkey hvk2 hck2 hgd hqd hfv
      generalize L[t] = x at *
      clear htl
      obtain ⟨kk, xv⟩ := x
      dsimp only at *
      by_cases h2 : (q : Int) < most
      · have hqm2 : q + 1 ≤ most.toNat := by omega
        -- the region's facts
        obtain ⟨S0, hS0⟩ : ∃ S0, S0 = wL.heap.size := ⟨_, rfl⟩
        obtain ⟨Av, cv, rfl, hcv, hrdv⟩ := hsv.rd
        obtain ⟨nl, hnl⟩ : ∃ nl, nl = xv.length := ⟨_, rfl⟩
        rw [← hnl] at hcv hlk
        have HNL := Lib.hid hnl
        have HNZ : Hid (nl ≤ 200000) := Lib.hid (by rw [hnl]; exact HKz.out.2)
        obtain ⟨xs, hown, hCe⟩ := HRe.out
        have hlq : ((L.drop pq).take q).length = q := by rw [List.length_take, HDL0.out]; have := HT.out; omega
        rw [hlq] at hown
        have hxl : xs.length = q * 2 := hown.1
        obtain ⟨pp, hpp⟩ : ∃ pp : ATr, pp = ⟨q * 2, 2, fun news W => ∃ A c, news = [.string kk, .slice A nl c] ∧ nl ≤ c ∧ SlF S0 (.slice A nl c) xv W⟩ := ⟨_, rfl⟩
        obtain ⟨Tr, hTr⟩ : ∃ Tr : Nat → Option ATr, ∀ k, Tr k = if some k = (Value.slice Al q cl).ownBlock then some pp else none := ⟨_, fun k => rfl⟩
        have hB0 : ∀ k, S0 ≤ k → Tr k = none := by
          intro k hk
          rw [hTr]
          refine if_neg (fun e => ?_)
          have := (hown.lt k e.symm).2
          omega
        have hgst : ∀ news W W', pp.good news W → Chg (Td Tr) W W' → pp.good news W' := by
          intro news W W' hg hch
          rw [hpp] at hg ⊢
          obtain ⟨A, c, e, hc, hsf⟩ := hg
          exact ⟨A, c, e, hc, hsf.chg hB0 hch⟩
        have hst : GSt Tr := by
          intro g p hp news W W' hg hch
          rw [hTr] at hp
          split at hp
          · injection hp with hp
            subst hp
            exact hgst _ _ _ hg hch
          · cases hp
        have hlow : ∀ k, Td Tr k → w.heap.size ≤ k ∧ ∃ cs, wL.heap[k]? = some (.cells cs 34 (0, 0)) := fun k hk => by
          unfold Td at hk
          rw [hTr] at hk
          split at hk
          · rename_i e
            obtain ⟨cs, e', hB⟩ := orow_typ hown e.symm
            exact ⟨hB, cs, e'⟩
          · cases hk
        have hGB : ∀ W, GA Tr wL.drew W → Below w.heap.size w W := fun W hW => Chg.below (S := Td Tr) HB.out ((GA.drew Tr wL).trans hst hW).chg HB.out.size (fun k hk => (hlow k hk).1)
        have hTW : ∀ W, GA Tr wL.drew W → TbM W B g m vk f n L := fun W hW => HTb.out.below (hGB W hW)
        have hSW : ∀ W, GA Tr wL.drew W → ∀ v l, Sl wL v l → Sl W v l := fun W hW v l hs => hs.chg ((GA.drew Tr wL).trans hst hW).chg (fun k hk cs fr e => by
          obtain ⟨_, cs', e'⟩ := hlow k hk
          rw [e'] at e
          injection e with e
          injection e with _ e
          exact absurd e (by decide))
        have hcW : ∀ W, GA Tr wL.drew W → ∀ (a : Addr) v, a.block < w.heap.size → wL.cell? a = some v → W.cell? a = some v := fun W hW a v ha hc => by
          have hb := hGB W hW
          rw [World.cell?_of_block (w := wL) (by rw [hb.block _ ha, HB.out.block _ ha])]
          exact hc
        have hgw : g < w.heap.size := (Array.getElem?_eq_some_iff.1 HTb.out.nn.st).1
        have g0 : wL.cell? ⟨g, 0, none⟩ = some (.map (some m)) := by rw [cell_of_row _ g 0 _ _ _ HTn.out.nn.st]; rfl
        have hadb : (ad.add t).block < w.heap.size := by
          have hvk := HVK.out
          rcases HTb.out.ks.2 with ⟨e0, _⟩ | ⟨gk, cap, cur, e0, hb, hh, hc, hm, hsz, htk⟩
          · rw [hvk] at e0; cases e0
          · rw [hvk] at e0
            injection e0 with e0
            injection e0 with e0
            subst e0
            have ha : (⟨gk, 0, none⟩ : Addr).add t = ⟨gk, t, none⟩ := by unfold Addr.add; split <;> simp_all
            rw [ha]
            exact (Array.getElem?_eq_some_iff.1 hh).1
        have HC : Hid (∀ W, GA Tr wL.drew W → W.cell? ⟨g, 0, none⟩ = some (.map (some m)) ∧ W.cell? ⟨g, 1, none⟩ = some (.slice (some ad) nk ck) ∧ W.cell? (ad.add t) = some (.string kk)) := Lib.hid fun W hW => ⟨hcW W hW _ _ hgw g0, hcW W hW _ _ hgw g1, hcW W hW _ _ hadb c1⟩
        have HLk : Hid (∀ W, GA Tr wL.drew W → (Instr.lookup 65 (.map (some m)) (.string kk) false).run Try.prog W = .ok (.slice Av nl cv) W) := Lib.hid fun W hW => by
          have hm := (hTW W hW).nn.mp
          have hl2 := hm.look1 kk (by have := HKz.out.1; unfold maxLen; omega)
          have h3 := HTn.out.nn.mp.look1 kk (by have := HKz.out.1; unfold maxLen; omega)
          rw [hlk] at h3
          injection h3 with h3
          rw [hl2, ← h3]
          rfl
        have HRd : Hid (∀ W, GA Tr wL.drew W → Rd W Av xv) := Lib.hid fun W hW => by
          obtain ⟨A', c', e, _, hr⟩ := (hSW W hW _ _ hsv).rd
          injection e with e1
          subst e1
          exact hr
        have HRow : Hid (∀ W, GA Tr wL.drew W → W.ownsRow w.heap.size 34 2 (.slice Al q cl) q xs) := Lib.hid fun W hW => by
          refine ((GA.drew Tr wL).trans hst hW).row hown (fun k hk p hp => ?_)
          rw [hTr] at hp
          split at hp
          · injection hp with hp
            subst hp
            rw [hpp]
            exact Nat.le_refl _
          · cases hp
        have HSz : Hid (∀ W, GA Tr wL.drew W → S0 ≤ W.heap.size) := Lib.hid fun W hW => by rw [hS0]; exact hW.size
        have HTv : Hid (∀ k, (Value.slice Al q cl).ownBlock = some k → Tr k = some pp) := Lib.hid fun k hk => by rw [hTr, if_pos hk.symm]
        have HPP := Lib.hid hpp; have HXL := Lib.hid hxl; have HCe := Lib.hid hCe
        have HWB : Hid (w.heap.size ≤ S0) := Lib.hid (by rw [hS0]; exact HB.out.size)
        have HBW := Lib.hid hGB; have HSW := Lib.hid hSW
        have HS0 : Hid (S0 ≤ wL.drew.heap.size) := Lib.hid (by rw [hS0]; exact Nat.le_refl _)
        have HDL : Hid (∀ i, pq + i ≤ nk → ((L.drop pq).take i).length = i) := Lib.hid fun i hi => by rw [List.length_take, HDL0.out]; omega
        have hwt : IntKind.i64.wrap ((t : Int) + 1) = ((t + 1 : Nat) : Int) := by rw [IntKind.wrap_i64]; omega
        clear hnl hcv hown hCe hlq hxl hpp hTr hlow hGB hTW hSW hcW g0 hS0 hrdv hsv hlk
        by_cases h3 : to.size = 0
        · have hto : to.toList.isEmpty = true := by rw [toE]; exact decide_eq_true h3
          have HInq : Hid (∀ h : q < (L.drop pq).length, KvMath.inR to (L.drop pq)[q] = true) := Lib.hid fun h => by rw [HIq.out h]; unfold KvMath.inR; rw [decide_eq_true h3]; rfl
          clear h3
          go_wp2_with fail
          refine wp_region_app_tail _ 24 (Tr) (rgTbl Tr S0 w.heap.size q nl xv xs pp hB0 hgst (by rw [HPP.out]; exact HXL.out.symm) (by rw [HPP.out, HXL.out]; show 2 + q * 2 = _; omega)) (S0) (hB0) (hst) (by kernel_rfl) (by kernel_rfl) (by kernel_rfl) ?_; simp only [List.take_succ_cons, List.take_zero, List.drop_succ_cons, List.drop_zero]
          repeat (first
            | (refine wpR_plain ?_ (by rfl) (fun K hK => ?_); (focus (first | (simp only [Region.wanted]; done) | (go_simp; done))); apply Exists.intro; refine ⟨fun W hW => ?_, ?_⟩; (go_simp; (try simp only [plainUpon_value, true_and]); rfl); go_simp; refine hK _ ?_; clear hK K)
            | (refine wpR_plain ?_ (by rfl) (fun K hK => ?_); (focus (first | (simp only [Region.wanted]; done) | (go_simp; done))); apply Exists.intro; refine ⟨fun W hW => ?_, ?_⟩; (have hcw := HC.out W hW; go_simp; (try simp only [plainUpon_value, true_and]); rfl); go_simp; refine hK _ ?_; clear hK K)
            | (refine wpR_plain ?_ (by rfl) (fun K hK => ?_); (focus (first | (simp only [Region.wanted]; done) | (go_simp; done))); apply Exists.intro; refine ⟨fun W hW => ?_, ?_⟩; (have hcw := HLk.out W hW; go_simp; (try simp only [plainUpon_value, true_and]); rfl); go_simp; refine hK _ ?_; clear hK K)
            | (refine wpR_propG (by rfl) ?_ (fun W hW hF => ?_) (fun K v hv hK => ?_); (focus (first | (simp only [Region.wanted]; done) | (go_simp; done))); (go_simp; simp only [relUpon_enter]; exact clone_relG W (HSz.out W hW) Av nl cv xv (HRd.out W hW) HNL.out HNZ.out); obtain ⟨A7, c7, rfl, hc7⟩ := hv; go_simp; refine hK _ ?_; clear hK K)
            | (refine wpR_litG (by rfl) ?_ HS0.out ?_; (focus (first | (simp only [Region.wanted]; done) | (go_simp; done))); apply Exists.intro; apply Exists.intro; refine ⟨fun W => ?_, ?_, ?litc, fun K gL hK => ?_⟩; (case litc => ((simp only [Oper.argv, Op.operands]; go_simp) <;> rfl)); (focus (go_simp; first | exact ⟨rfl, rfl⟩ | rfl)); (focus rfl); go_simp; refine hK _ ?_; clear hK K)
            | (refine wpR_propG (by rfl) ?_ (fun W hW hF => ?_) (fun K v hv hK => ?_); (focus (first | (simp only [Region.wanted]; done) | (go_simp; done))); (exact pair_app rfl rfl rfl HPP.out (hF 22 rfl) (hF 20 rfl) hc7 (HRow.out W hW) hq1 HWB.out (HSz.out W hW) hB0 HTv.out); obtain ⟨A10, c10, rfl, hc10⟩ := hv; go_simp; refine hK _ ?_; clear hK K))
          refine wpR_nil (fun W hW hF => ?_)
          have h10 : RowQ Tr S0 w.heap.size 34 2 (q + 1) xs pp (.slice A10 (q + 1) c10) W := hF 23
          have H10 := Lib.hid h10
          have HB := Lib.hid (HBW.out W hW)
          have HSL := Lib.hid (HSW.out W hW)
          clear hF hW h10 HC HLk HSz HRd HRow HBW HSW
          go_wp2
          go_roundw
          case rel =>
            obtain ⟨r1, news, r2, r3⟩ := H10.out
            rw [HPP.out] at r2
            obtain ⟨A8, c8, rfl, hc8, hsl8⟩ := r2
            refine ⟨q + 1, by have := HT.out; omega, by rw [HT.out]; go_num, ?_, HB.out, by omega, fun j hj hjq => ?_⟩
            · refine ⟨xs ++ [.string kk, .slice A8 nl c8], ?_, ?_⟩
              · rw [HDL.out (q + 1) (by have := HT.out; omega)]
                exact r3
              · rw [HTK.out]
                exact (HCe.out.imp HSL.out).snoc hsl8.1
            · by_cases hjj : j < q
              · exact HIn.out j hj hjj
              · have : j = q := by omega
                subst this
                exact HInq.out hj
          case measure => simp [intOf]; omega
        · have hto : to.toList.isEmpty = false := by rw [toE]; exact decide_eq_false h3
          cases h4 : Op.bytesLess kk.toList to.toList with
          | true =>
            have HInq : Hid (∀ h : q < (L.drop pq).length, KvMath.inR to (L.drop pq)[q] = true) := Lib.hid fun h => by rw [HIq.out h]; unfold KvMath.inR KvMath.bl; rw [h4, Bool.or_true]
            clear h3
            go_wp2_with fail
            refine wp_region_app_tail _ 24 (Tr) (rgTbl Tr S0 w.heap.size q nl xv xs pp hB0 hgst (by rw [HPP.out]; exact HXL.out.symm) (by rw [HPP.out, HXL.out]; show 2 + q * 2 = _; omega)) (S0) (hB0) (hst) (by kernel_rfl) (by kernel_rfl) (by kernel_rfl) ?_; simp only [List.take_succ_cons, List.take_zero, List.drop_succ_cons, List.drop_zero]
            repeat (first
              | (refine wpR_plain ?_ (by rfl) (fun K hK => ?_); (focus (first | (simp only [Region.wanted]; done) | (go_simp; done))); apply Exists.intro; refine ⟨fun W hW => ?_, ?_⟩; (go_simp; (try simp only [plainUpon_value, true_and]); rfl); go_simp; refine hK _ ?_; clear hK K)
              | (refine wpR_plain ?_ (by rfl) (fun K hK => ?_); (focus (first | (simp only [Region.wanted]; done) | (go_simp; done))); apply Exists.intro; refine ⟨fun W hW => ?_, ?_⟩; (have hcw := HC.out W hW; go_simp; (try simp only [plainUpon_value, true_and]); rfl); go_simp; refine hK _ ?_; clear hK K)
              | (refine wpR_plain ?_ (by rfl) (fun K hK => ?_); (focus (first | (simp only [Region.wanted]; done) | (go_simp; done))); apply Exists.intro; refine ⟨fun W hW => ?_, ?_⟩; (have hcw := HLk.out W hW; go_simp; (try simp only [plainUpon_value, true_and]); rfl); go_simp; refine hK _ ?_; clear hK K)
              | (refine wpR_propG (by rfl) ?_ (fun W hW hF => ?_) (fun K v hv hK => ?_); (focus (first | (simp only [Region.wanted]; done) | (go_simp; done))); (go_simp; simp only [relUpon_enter]; exact clone_relG W (HSz.out W hW) Av nl cv xv (HRd.out W hW) HNL.out HNZ.out); obtain ⟨A7, c7, rfl, hc7⟩ := hv; go_simp; refine hK _ ?_; clear hK K)
              | (refine wpR_litG (by rfl) ?_ HS0.out ?_; (focus (first | (simp only [Region.wanted]; done) | (go_simp; done))); apply Exists.intro; apply Exists.intro; refine ⟨fun W => ?_, ?_, ?litc, fun K gL hK => ?_⟩; (case litc => ((simp only [Oper.argv, Op.operands]; go_simp) <;> rfl)); (focus (go_simp; first | exact ⟨rfl, rfl⟩ | rfl)); (focus rfl); go_simp; refine hK _ ?_; clear hK K)
              | (refine wpR_propG (by rfl) ?_ (fun W hW hF => ?_) (fun K v hv hK => ?_); (focus (first | (simp only [Region.wanted]; done) | (go_simp; done))); (exact pair_app rfl rfl rfl HPP.out (hF 22 rfl) (hF 20 rfl) hc7 (HRow.out W hW) hq1 HWB.out (HSz.out W hW) hB0 HTv.out); obtain ⟨A10, c10, rfl, hc10⟩ := hv; go_simp; refine hK _ ?_; clear hK K))
            refine wpR_nil (fun W hW hF => ?_)
            have h10 : RowQ Tr S0 w.heap.size 34 2 (q + 1) xs pp (.slice A10 (q + 1) c10) W := hF 23
            have H10 := Lib.hid h10
            have HB := Lib.hid (HBW.out W hW)
            have HSL := Lib.hid (HSW.out W hW)
            clear hF hW h10 HC HLk HSz HRd HRow HBW HSW
            go_wp2
            go_roundw
            case rel =>
              obtain ⟨r1, news, r2, r3⟩ := H10.out
              rw [HPP.out] at r2
              obtain ⟨A8, c8, rfl, hc8, hsl8⟩ := r2
              refine ⟨q + 1, by have := HT.out; omega, by rw [HT.out]; go_num, ?_, HB.out, by omega, fun j hj hjq => ?_⟩
              · refine ⟨xs ++ [.string kk, .slice A8 nl c8], ?_, ?_⟩
                · rw [HDL.out (q + 1) (by have := HT.out; omega)]
                  exact r3
                · rw [HTK.out]
                  exact (HCe.out.imp HSL.out).snoc hsl8.1
              · by_cases hjj : j < q
                · exact HIn.out j hj hjj
                · have : j = q := by omega
                  subst this
                  exact HInq.out hj
            case measure => simp [intOf]; omega
          | false =>
            have HInq : Hid (KvMath.inR to (kk, xv) = false) := Lib.hid (by unfold KvMath.inR KvMath.bl; rw [decide_eq_false h3, h4]; rfl)
            clear h3
            have HE := Lib.hid (KvMath.take_while_stop (L.drop pq) (KvMath.inR to) most.toNat q (by rw [HDL0.out]; have := HT.out; omega) hqm HIn.out (.inr (.inr ⟨HQD.out, by rw [HIq.out HQD.out]; exact HInq.out⟩)))
            go_wp2
            go_ret
            refine ⟨_, rfl, ?_, HB.out⟩
            unfold KvMath.range
            rw [← HPQ.out, HE.out]
            exact HRe.out
      · have hqe : Hid (q = most.toNat) := Lib.hid (by omega)
        have HE := Lib.hid (KvMath.take_while_stop (L.drop pq) (KvMath.inR to) most.toNat q (by rw [HDL0.out]; have := HT.out; omega) hqm HIn.out (.inr (.inl hqe.out)))
        go_wp2
        go_ret
        refine ⟨_, rfl, ?_, HB.out⟩
        unfold KvMath.range
        rw [← HPQ.out, HE.out]
        exact HRe.out
    · have hqe : Hid (q = (L.drop pq).length) := Lib.hid (by rw [HDL0.out]; have := HT.out; omega)
      have HE := Lib.hid (KvMath.take_while_stop (L.drop pq) (KvMath.inR to) most.toNat q (by rw [HDL0.out]; have := HT.out; omega) hqm HIn.out (.inl hqe.out))
      go_wp2
      go_ret
      refine ⟨_, rfl, ?_, HB.out⟩
      unfold KvMath.range
      rw [← HPQ.out, HE.out]
      exact HRe.out
end Go.Proofs.Ytgaccogekmaijaa
