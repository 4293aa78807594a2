/- The law KvBack, walked. -/
import Derived.Test.YtgaccogekmaijaaKvRT
import Derived.Test.YtgaccogekmaijaaKvApt
namespace Go.Proofs.Ytgaccogekmaijaa
open Go.RowKit
set_option linter.unusedVariables false
set_option linter.unusedSimpArgs false
attribute [local irreducible] wpR relOp
theorem PutsR.puts {w : World} {base B : Nat} {v : Value} {rs : List PutD} (h : PutsR w base v rs) (hz : ∀ x ∈ rs, x.key.size ≤ 200 ∧ x.val.length ≤ 200000) : ∃ A c, v = .slice A rs.length c ∧ rs.length ≤ c ∧ PutS B w A rs ∧ Row KPut 3 w A rs := by
  obtain ⟨A, c, hv, hc, hrow⟩ := h.row (fun x hx => by have := hz x hx; omega)
  refine ⟨A, c, hv, hc, ?_, hrow⟩
  obtain ⟨xs, ho, hC⟩ := h
  obtain ⟨hxl, hat⟩ := hC.at_
  rcases ho.2 with ⟨e, hn⟩ | ⟨g, cap, cur, e, hb, hh, hcap, hm, hsz, htk⟩
  · intro hp; omega
  · rw [e] at hv
    injection hv with e1 e2 e3
    subst e1
    refine PutS.own hh (fun j hj => ?_)
    obtain ⟨vb, h1, h2, h3, h4⟩ := hat j hj
    obtain ⟨z1, z2⟩ := hz rs[j] (List.getElem_mem hj)
    have hcur : ∀ i, i < rs.length * 3 → cur[i]? = xs[i]? := fun i hi => by
      rw [← htk, List.getElem?_take_of_lt hi, Array.getElem?_toList]
    exact ⟨vb, by rw [hcur _ (by omega)]; exact h1, by rw [hcur _ (by omega)]; exact h2, by rw [hcur _ (by omega)]; exact h3, h4, by omega, by omega⟩
theorem a2_new' {w0 w : World} {B0 g0 N : Nat} {L : List KvMath.Ent} (h : Tb w0 w B0 g0 N L) : Calls Try.prog 10 #[] w fun e w' => e = .returned (.pointer (some ⟨w.heap.size + 1, 0, none⟩)) ∧ A2 w0 w' B0 g0 (w.heap.size + 1) N L [] ∧ Below w.heap.size w w' := by
  refine (kv_new w).mono ?_
  rintro e w1 ⟨rfl, ht, hb⟩
  refine ⟨rfl, ?_, hb⟩
  obtain ⟨m, vk, f, n, h1, h2, h3, h4⟩ := h
  obtain ⟨m', vk', f', n', k1, k2, k3, k4⟩ := ht
  refine ⟨m, vk, f, n, m', vk', f', n', h1.below hb, k1.base h4, fun k hk hk' => ?_, h2, by omega, below_then h3 h4 hb, Nat.le_trans h4 hb.size⟩
  have e1 := h1.lt k hk
  have e2 := (k1.typ k hk').1
  omega
theorem encS_len (M : List PutD) (h : ∀ x ∈ M, x.key.size ≤ 200 ∧ x.val.length ≤ 200) : (KvMath.encB (M.map PutD.ent)).length ≤ M.length * 500 := by
  induction M with
  | nil => simp [KvMath.encB]
  | cons p M ih =>
    have h1 := ih fun q hq => h q (List.mem_cons_of_mem _ hq)
    have h2 := h p (List.mem_cons_self ..)
    have e : KvMath.encB ((p :: M).map PutD.ent) = KvMath.encP p.ent ++ KvMath.encB (M.map PutD.ent) := by simp [KvMath.encB]
    rw [e, List.length_append, List.length_cons]
    have h3 : (KvMath.encP p.ent).length ≤ 500 := by
      have hkl : p.key.data.toList.length = p.key.size := by rw [Array.length_toList]; rfl
      obtain ⟨k, v, gone⟩ := p
      cases gone with
      | true =>
        have e2 : KvMath.encP (PutD.ent ⟨k, v, true⟩) = [0] ++ KvMath.numB k.size 2 ++ k.data.toList := rfl
        rw [e2]
        dsimp only at *
        simp only [List.length_append, KvMath.numB_len, hkl, List.length_cons, List.length_nil]
        omega
      | false =>
        have e2 : KvMath.encP (PutD.ent ⟨k, v, false⟩) = [1] ++ KvMath.numB k.size 2 ++ k.data.toList ++ KvMath.numB v.length 4 ++ v := rfl
        rw [e2]
        dsimp only at *
        simp only [List.length_append, KvMath.numB_len, hkl, List.length_cons, List.length_nil]
        omega
    omega
theorem all_mem (ps : List PutD) : ∀ (L : List KvMath.Ent), ∀ p ∈ KvMath.all L (ps.map PutD.ent), p ∈ L ∨ ∃ x ∈ ps, p = (x.key, x.val) := by
  induction ps with
  | nil => intro L p h; exact .inl h
  | cons x xs ih =>
    intro L p h
    rcases ih (KvMath.one L x.key x.val x.gone) p h with h | ⟨y, hy, h⟩
    · rcases KvMath.mem_one h with h | h
      · exact .inl h
      · exact .inr ⟨x, List.mem_cons_self .., h⟩
    · exact .inr ⟨y, List.mem_cons_of_mem _ hy, h⟩
def backTbl (n : Nat) (l : List UInt8) (q : Nat) : Nat → Option Sp
  | 15 => some (slSp n l)
  | 16 => some (.val (.string ⟨l.toArray⟩))
  | 18 => some (slSp n l)
  | 19 => some (.val (.string ⟨l.toArray⟩))
  | 32 => some (.val (.int .i64 q))
  | 34 => some (.val (.int .i64 q))
  | 39 => some (slSp n l)
  | 40 => some (.val (.string ⟨l.toArray⟩))
  | 42 => some (slSp n l)
  | 43 => some (.val (.string ⟨l.toArray⟩))
  | _ => none
theorem light_len {xs : List PutD} (h : lightB [xs] = true) : xs.length ≤ 8 ∧ ∀ x ∈ xs, x.key.size ≤ 300 ∧ x.val.length ≤ 200 := by
  simp only [lightB, List.all_cons, List.all_nil, Bool.and_true, Bool.and_eq_true, smallL, decide_eq_true_eq, List.all_eq_true, PutD.small] at h
  exact ⟨h.2.1, fun x hx => h.2.2 x hx⟩
set_option maxRecDepth 20000 in
set_option maxHeartbeats 4000000 in
theorem KvBack_walk (A : Option Addr) (c : Nat) (xs : List PutD) (w : World) (hr : Row KPut 3 w A xs) (hc : xs.length ≤ c) (hl : xs.length * 48 ≤ 140737488351232) :
    Calls Try.prog 7 #[.slice A xs.length c] w fun e w' => e = .returned (.bool true) ∧ Below w.heap.size w w' := by
  obtain ⟨n, hnn⟩ : ∃ n, n = xs.length := ⟨_, rfl⟩
  rw [← hnn] at hc ⊢
  have HN := Lib.hid hnn; have HR := Lib.hid hr
  clear hnn hr hl
  go_enter Try.func7, Try.ntmps7
  go_wp2_with fail
  refine (awake7_any _).mono ?_
  rintro e w1 ⟨rfl, hb1⟩
  have HB1 := Lib.hid hb1
  clear hb1
  go_wp2_with fail
  obtain ⟨W2, hW2⟩ : ∃ W2, W2 = w1.alloc (.cells #[.slice A n c] 22) := ⟨_, rfl⟩
  rw [← hW2]
  have hb2 : Below w1.heap.size w1 W2 := by rw [hW2]; exact (Below.refl _ w1).alloc (Nat.le_refl _) _
  have HB2 := Lib.hid (below_add HB1.out hb2)
  have hls : PutLs W2 (some ⟨w1.heap.size, 0, none⟩) [xs] := fun _ => ⟨_, rfl, fun i hi => by
    have hi0 : i = 0 := by simpa using hi
    subst hi0
    have ha : (⟨w1.heap.size, 0, none⟩ : Addr).add 0 = ⟨w1.heap.size, 0, none⟩ := by unfold Addr.add; split <;> simp_all
    refine ⟨A, c, ?_, by show xs.length ≤ c; rw [← HN.out]; exact hc, puts_below HR.out HB2.out⟩
    rw [ha, hW2, cell_of_row _ w1.heap.size 0 _ _ _ (heap_new w1 _ _ rfl), HN.out]
    rfl⟩
  have hlt := Lib.hid (kv_light W2 (some ⟨w1.heap.size, 0, none⟩) 1 [xs] hls (by simp))
  clear hls hb2 hW2
  refine hlt.out.mono ?_
  rintro e w2 ⟨rfl, rfl⟩
  clear hlt
  cases hsm : lightB [xs] with
  | false =>
    clear hsm
    go_wp2
    go_ret
    exact ⟨rfl, HB2.out⟩
  | true =>
    obtain ⟨h8, hsz⟩ := light_len hsm
    rw [← HN.out] at h8
    have HSZ := Lib.hid hsz
    clear hsm hsz
    go_wp2_with fail
    refine (kv_new _).mono ?_
    rintro e w3 ⟨rfl, ht3, hb3⟩
    obtain ⟨g, hg⟩ : ∃ g, g = w2.heap.size + 1 := ⟨_, rfl⟩
    obtain ⟨B, hB⟩ : ∃ B, B = w2.heap.size := ⟨_, rfl⟩
    rw [← hg, ← hB] at ht3
    rw [← hg]
    have hwB : w.heap.size ≤ B := by rw [hB]; exact HB2.out.size
    have hput : PutS B w3 A xs := PutS.of_row (puts_below HR.out HB2.out) (by rw [hB]; exact hb3) (by rw [hB]; exact Nat.le_refl _)
    have hcon := kv_commit ht3 A c xs hput (by rw [← HN.out]; exact hc) (by rw [← HN.out]; omega) (by decide) (by decide)
    rw [← HN.out] at hcon
    have hbw : Below w.heap.size w w3 := below_then HB2.out HB2.out.size hb3
    have HB3 := Lib.hid hbw
    have HWB := Lib.hid hwB
    clear ht3 hb3 hput hbw hg hB
    cases hgood : xs.all PutD.good with
    | false =>
      rw [hgood] at hcon
      have HG := Lib.hid hgood
      have hcon := Lib.hid hcon
      clear hgood
      go_wp2_with fail
      refine hcon.out.mono ?_
      rintro e w4 ⟨rfl, ht4, htv⟩
      have hb4 := HB3.out.trans (htv.1.mono hwB)
      have henc := kv_encode w4 A c xs (puts_below HR.out hb4) (by rw [← HN.out]; exact hc) (by rw [← HN.out]; omega)
      rw [HG.out, ← HN.out] at henc
      have HENC := Lib.hid henc; have HB4 := Lib.hid hb4
      clear henc hb4 ht4 htv hcon
      go_wp2_with fail
      refine HENC.out.mono ?_
      rintro e w5 ⟨v5, rfl, ho5, hb5⟩
      obtain ⟨A5, c5, rfl, _⟩ := ho5.rd
      have HB5 := Lib.hid (below_then HB4.out HB4.out.size hb5)
      clear ho5 hb5 HENC
      go_wp2
      go_ret
      exact ⟨rfl, HB5.out⟩
    | true =>
      rw [hgood] at hcon
      have HG := Lib.hid hgood
      obtain ⟨L, hL⟩ : ∃ L, L = KvMath.all [] (xs.map PutD.ent) := ⟨_, rfl⟩
      simp only [if_true] at hcon
      rw [← hL] at hcon
      have hLk : ∀ p ∈ L, 0 < p.1.size ∧ p.1.size ≤ 200 ∧ p.2.length ≤ 200000 := by
        rw [hL]
        exact all_keys xs hgood [] (fun p hp => by cases hp)
      have hLr : KvMath.Rise L := by rw [hL]; exact KvMath.Rise.all List.Pairwise.nil _
      have hLl : L.length ≤ 8 := by
        have h1 := KvMath.all_len [] List.Pairwise.nil (xs.map PutD.ent)
        rw [List.length_map, ← HN.out, ← hL] at h1
        have h3 : ([] : List KvMath.Ent).length = 0 := rfl
        omega
      have hcon := Lib.hid hcon; have HL := Lib.hid hL; have HLK := Lib.hid hLk; have HLR := Lib.hid hLr
      clear hgood hL hLk hLr
      go_wp2_with fail
      refine hcon.out.mono ?_
      rintro e w4 ⟨rfl, ht4, htv⟩
      have hb4 := HB3.out.trans (htv.1.mono hwB)
      have henc := kv_encode w4 A c xs (puts_below HR.out hb4) (by rw [← HN.out]; exact hc) (by rw [← HN.out]; omega)
      rw [HG.out, ← HN.out] at henc
      have HENC := Lib.hid henc; have HT4 := Lib.hid ht4; have HB4 := Lib.hid hb4
      clear henc ht4 htv hcon hb4
      go_wp2_with fail
      refine HENC.out.mono ?_
      rintro e w5 ⟨v5, rfl, ho5, hb5⟩
      have hdec0 := decB_enc xs HG.out
      have hgz : ∀ x ∈ xs, x.key.size ≤ 200 ∧ x.val.length ≤ 200 := fun x hx => ⟨((PutD.good_iff x).1 (List.all_eq_true.1 HG.out x hx)).2.1, (HSZ.out x hx).2⟩
      have hlen5 := encS_len xs hgz
      rw [← HN.out] at hlen5
      simp only [if_true] at ho5
      generalize KvMath.encB (xs.map PutD.ent) = eb at *
      obtain ⟨A5, c5, rfl, hc5, hrd5⟩ := ho5.rd
      have hdc := Lib.hid (kv_decode w5 A5 c5 eb hrd5 hc5 (by omega))
      have HT5 := Lib.hid (HT4.out.below hb5); have HB5 := Lib.hid (below_then HB4.out HB4.out.size hb5)
      obtain ⟨ne, hne⟩ : ∃ ne, ne = eb.length := ⟨_, rfl⟩
      rw [← hne] at hdc hc5 hlen5 ⊢
      have HD0 := Lib.hid hdec0; have HGZ := Lib.hid hgz
      clear ho5 hb5 hrd5 hdec0 hgz hne HT4 HB4 HENC
      go_wp2_with fail
      refine hdc.out.mono ?_
      rintro e w6 ⟨hb6, (⟨ys, v6, hd6, rfl, hpr6⟩ | ⟨hd6, rfl⟩)⟩
      · rw [HD0.out] at hd6
        injection hd6 with hd6
        subst hd6
        obtain ⟨A6, c6, rfl, hc6, _, _⟩ := hpr6.puts (B := B) (fun x hx => by have := HGZ.out x hx; omega)
        have HPR6 := Lib.hid hpr6; have HT6 := Lib.hid (HT5.out.below hb6); have HB6 := Lib.hid (below_then HB5.out HB5.out.size hb6)
        rw [← HN.out] at hc6 ⊢
        clear hpr6 hb6 hdc HT5 HB5
        go_wp2_with fail
        refine (a2_new' HT6.out).mono ?_
        rintro e w7 ⟨rfl, ha7, hb7⟩
        obtain ⟨g2, hg2⟩ : ∃ g2, g2 = w6.heap.size + 1 := ⟨_, rfl⟩
        rw [← hg2] at ha7 ⊢
        obtain ⟨A6', c6', he6, _, hps7, _⟩ := (HPR6.out.below hb7).puts (B := B) (fun x hx => by have := HGZ.out x hx; omega)
        injection he6 with he6a _ he6c
        subst he6a
        subst he6c
        have HB7 := Lib.hid (below_then HB6.out HB6.out.size hb7)
        have hcon := a2_commit ha7.swap A6 c6 xs hps7 (by rw [← HN.out]; exact hc6) (by rw [← HN.out]; omega) (by omega) (by simp) HG.out
        rw [← HL.out, ← HN.out] at hcon
        have hcon := Lib.hid hcon
        clear ha7 hb7 hps7 hg2 HT6 HB6 HPR6
        go_wp2_with fail
        refine hcon.out.mono ?_
        rintro e w8 ⟨rfl, ha8, htv8⟩
        have HA8 := Lib.hid ha8.swap
        have HB8 := Lib.hid (HB7.out.trans (htv8.1.mono HWB.out))
        clear ha8 htv8 hcon HB7
        go_wp2_with fail
        refine (kv_bytes HA8.out.fst (by omega)).mono ?_
        rintro e w9 ⟨v9, rfl, hs9, hb9⟩
        have hd9 := decB_bytes L HLK.out
        have hlen9 : (bytesB L).length ≤ 20000 := bytesB_len L hLl (fun p hp => by
          rw [HL.out] at hp
          rcases all_mem xs [] p hp with hp | ⟨x, hx, rfl⟩
          · cases hp
          · exact HGZ.out x hx)
        obtain ⟨A9, c9, rfl, hc9, hrd9⟩ := hs9.rd
        have hld := Lib.hid (kv_load w9 A9 c9 (bytesB L) hrd9 hc9 (by omega))
        obtain ⟨nb, hnb⟩ : ∃ nb, nb = (bytesB L).length := ⟨_, rfl⟩
        rw [← hnb] at hld hc9 ⊢
        have HA9 := Lib.hid (HA8.out.below hb9); have HB9 := Lib.hid (below_then HB8.out HB8.out.size hb9)
        have HD9 := Lib.hid hd9; have HNB := Lib.hid hnb
        clear hs9 hrd9 hb9 hd9 hnb HA8 HB8 hlen9
        go_wp2_with fail
        refine hld.out.mono ?_
        rintro e w10 ⟨hb10, (⟨ys, B3, g3, wq, hd10, hok, rfl, ht10, hB3⟩ | ⟨hd10, rfl⟩)⟩
        · rw [HD9.out] at hd10
          injection hd10 with hd10
          subst hd10
          rw [all_rise L HLR.out] at ht10
          have HT10 := Lib.hid ht10
          have HA10 := Lib.hid (HA9.out.below hb10); have HB10 := Lib.hid (below_then HB9.out HB9.out.size hb10)
          clear hb10 hok ht10 hB3 HA9 HB9 hld
          have hBW : ∀ W, Gr w10.heap.size w10.drew W → Below w10.heap.size w10 W := fun W hW => (Below.drew (Below.refl w10.heap.size w10)).trans hW.1
          have HBW := Lib.hid hBW
          have HAW := Lib.hid (fun W hW => HA10.out.below (hBW W hW))
          have HTW := Lib.hid (fun W hW => HT10.out.below (hBW W hW))
          have HSz : Hid (∀ W, Gr w10.heap.size w10.drew W → w10.heap.size ≤ W.heap.size) := Lib.hid fun W hW => hW.1.size
          obtain ⟨q, hq⟩ : ∃ q, q = L.length := ⟨_, rfl⟩
          have HQ := Lib.hid hq
          have HL1 : Hid (L.length ≤ 1000) := Lib.hid (by omega)
          clear hBW hq HA10 HT10
          go_wp2_with fail
          (refine wp_region_tbl_tail _ 46 (backTbl nb (bytesB L) q) w10.heap.size (by kernel_rfl) (by kernel_rfl) (by kernel_rfl) ?_; simp only [List.take_succ_cons, List.take_zero, List.drop_succ_cons, List.drop_zero])
          repeat (refine wpR_plain ?_ (by rfl) (fun K hK => ?_); (focus (first | (simp only [Region.wanted]; done) | (go_simp; done))); apply Exists.intro; refine ⟨fun W hW => ?_, ?_⟩; (go_simp; (try simp only [plainUpon_value, true_and]); rfl); go_simp; refine hK _ ?_; clear hK K)
          (refine wpR_prop (by rfl) ?_ (fun W hW hF => ?_) (fun K v hv hK => ?_); (focus (first | (simp only [Region.wanted]; done) | (go_simp; done))); (go_simp; simp only [relUpon_enter]; exact tb_rel _ W B g2 _ L (HAW.out W hW).swap.fst HL1.out (HSz.out W hW) HNB.out); obtain ⟨A1, c1, rfl, hc1⟩ := hv; go_simp; refine hK _ ?_; clear hK K)
          (refine wpR_val (by rfl) ?_ (fun W hW hF => ?_) (fun K hK => ?_); (focus (first | (simp only [Region.wanted]; done) | (go_simp; done))); (have hcw := (show Sl W (.slice A1 nb c1) (bytesB L) from hF 15 rfl).str; go_simp; (try simp only [relUpon_value]); (first | exact ⟨Gr.refl _ _, rfl⟩ | exact ⟨Gr.refl _ _, trivial⟩)); go_simp; refine hK _ ?_; clear hK K)
          (refine wpR_plain ?_ (by rfl) (fun K hK => ?_); (focus (first | (simp only [Region.wanted]; done) | (go_simp; done))); apply Exists.intro; refine ⟨fun W hW => ?_, ?_⟩; (go_simp; (try simp only [plainUpon_value, true_and]); rfl); go_simp; refine hK _ ?_; clear hK K)
          (refine wpR_prop (by rfl) ?_ (fun W hW hF => ?_) (fun K v hv hK => ?_); (focus (first | (simp only [Region.wanted]; done) | (go_simp; done))); (go_simp; simp only [relUpon_enter]; exact tb_rel _ W B g _ L (HAW.out W hW).fst HL1.out (HSz.out W hW) HNB.out); obtain ⟨A4, c4, rfl, hc4⟩ := hv; go_simp; refine hK _ ?_; clear hK K)
          (refine wpR_val (by rfl) ?_ (fun W hW hF => ?_) (fun K hK => ?_); (focus (first | (simp only [Region.wanted]; done) | (go_simp; done))); (have hcw := (show Sl W (.slice A4 nb c4) (bytesB L) from hF 18 rfl).str; go_simp; (try simp only [relUpon_value]); (first | exact ⟨Gr.refl _ _, rfl⟩ | exact ⟨Gr.refl _ _, trivial⟩)); go_simp; refine hK _ ?_; clear hK K)
          repeat (refine wpR_plain ?_ (by rfl) (fun K hK => ?_); (focus (first | (simp only [Region.wanted]; done) | (go_simp; done))); apply Exists.intro; refine ⟨fun W hW => ?_, ?_⟩; (go_simp; (try simp only [plainUpon_value, true_and]); rfl); go_simp; refine hK _ ?_; clear hK K)
          (refine wpR_val (by rfl) ?_ (fun W hW hF => ?_) (fun K hK => ?_); (focus (first | (simp only [Region.wanted]; done) | (go_simp; done))); (go_simp; simp only [relUpon_enter]; refine (kv_len (HTW.out W hW)).mono ?_; rintro e w' ⟨rfl, rfl⟩; exact ⟨_, rfl, Gr.refl _ _, by rw [HQ.out]⟩); go_simp; refine hK _ ?_; clear hK K)
          (refine wpR_plain ?_ (by rfl) (fun K hK => ?_); (focus (first | (simp only [Region.wanted]; done) | (go_simp; done))); apply Exists.intro; refine ⟨fun W hW => ?_, ?_⟩; (go_simp; (try simp only [plainUpon_value, true_and]); rfl); go_simp; refine hK _ ?_; clear hK K)
          (refine wpR_val (by rfl) ?_ (fun W hW hF => ?_) (fun K hK => ?_); (focus (first | (simp only [Region.wanted]; done) | (go_simp; done))); (go_simp; simp only [relUpon_enter]; refine (kv_len (HAW.out W hW).fst).mono ?_; rintro e w' ⟨rfl, rfl⟩; exact ⟨_, rfl, Gr.refl _ _, by rw [HQ.out]⟩); go_simp; refine hK _ ?_; clear hK K)
          repeat (refine wpR_plain ?_ (by rfl) (fun K hK => ?_); (focus (first | (simp only [Region.wanted]; done) | (go_simp; done))); apply Exists.intro; refine ⟨fun W hW => ?_, ?_⟩; (go_simp; (try simp only [plainUpon_value, true_and]); rfl); go_simp; refine hK _ ?_; clear hK K)
          (refine wpR_prop (by rfl) ?_ (fun W hW hF => ?_) (fun K v hv hK => ?_); (focus (first | (simp only [Region.wanted]; done) | (go_simp; done))); (go_simp; simp only [relUpon_enter]; exact tb_rel _ W B3 g3 _ L (HTW.out W hW) HL1.out (HSz.out W hW) HNB.out); obtain ⟨A5', c5', rfl, hc5'⟩ := hv; go_simp; refine hK _ ?_; clear hK K)
          (refine wpR_val (by rfl) ?_ (fun W hW hF => ?_) (fun K hK => ?_); (focus (first | (simp only [Region.wanted]; done) | (go_simp; done))); (have hcw := (show Sl W (.slice A5' nb c5') (bytesB L) from hF 39 rfl).str; go_simp; (try simp only [relUpon_value]); (first | exact ⟨Gr.refl _ _, rfl⟩ | exact ⟨Gr.refl _ _, trivial⟩)); go_simp; refine hK _ ?_; clear hK K)
          (refine wpR_plain ?_ (by rfl) (fun K hK => ?_); (focus (first | (simp only [Region.wanted]; done) | (go_simp; done))); apply Exists.intro; refine ⟨fun W hW => ?_, ?_⟩; (go_simp; (try simp only [plainUpon_value, true_and]); rfl); go_simp; refine hK _ ?_; clear hK K)
          (refine wpR_prop (by rfl) ?_ (fun W hW hF => ?_) (fun K v hv hK => ?_); (focus (first | (simp only [Region.wanted]; done) | (go_simp; done))); (go_simp; simp only [relUpon_enter]; exact tb_rel _ W B g _ L (HAW.out W hW).fst HL1.out (HSz.out W hW) HNB.out); obtain ⟨A6', c6'', rfl, hc6''⟩ := hv; go_simp; refine hK _ ?_; clear hK K)
          (refine wpR_val (by rfl) ?_ (fun W hW hF => ?_) (fun K hK => ?_); (focus (first | (simp only [Region.wanted]; done) | (go_simp; done))); (have hcw := (show Sl W (.slice A6' nb c6'') (bytesB L) from hF 42 rfl).str; go_simp; (try simp only [relUpon_value]); (first | exact ⟨Gr.refl _ _, rfl⟩ | exact ⟨Gr.refl _ _, trivial⟩)); go_simp; refine hK _ ?_; clear hK K)
          repeat (refine wpR_plain ?_ (by rfl) (fun K hK => ?_); (focus (first | (simp only [Region.wanted]; done) | (go_simp; done))); apply Exists.intro; refine ⟨fun W hW => ?_, ?_⟩; (go_simp; (try simp only [plainUpon_value, true_and]); rfl); go_simp; refine hK _ ?_; clear hK K)
          refine wpR_nil (fun W hW hF => ?_)
          have HBF := Lib.hid (below_then HB10.out HB10.out.size (HBW.out W hW))
          clear hF hW HAW HSz HTW HBW
          go_wp2
          go_ret
          exact ⟨rfl, HBF.out⟩
        · exact absurd (okTo_rise L HLR.out) (hd10 _ HD9.out)
      · rw [HD0.out] at hd6
        cases hd6
end Go.Proofs.Ytgaccogekmaijaa
