/- The law KvRange, walked. -/
import Derived.Test.YtgaccogekmaijaaKvLight
namespace Go.Proofs.Ytgaccogekmaijaa
open Go.RowKit
set_option linter.unusedVariables false
set_option linter.unusedSimpArgs false
attribute [local irreducible] wpR relOp
theorem RecCells.app {w : World} {xs ys : List Value} {rs ss : List (ByteArray × List UInt8)} (h : RecCells w xs rs) (k : RecCells w ys ss) : RecCells w (xs ++ ys) (rs ++ ss) := by
  induction rs generalizing xs with
  | nil => cases h; exact k
  | cons r rs ih =>
    obtain ⟨v, t, rfl, h1, h2⟩ := h
    exact ⟨v, t ++ ys, rfl, h1, ih h2⟩
theorem RecCells.one {w : World} {xs : List Value} {rs : List (ByteArray × List UInt8)} (h : RecCells w xs rs) : ∀ u ∈ xs, u.oneCell' = true := by
  induction rs generalizing xs with
  | nil => cases h; intro u hu; cases hu
  | cons r rs ih =>
    obtain ⟨v, t, rfl, h1, h2⟩ := h
    obtain ⟨A, c, rfl, _⟩ := h1
    intro u hu
    rcases List.mem_cons.1 hu with rfl | hu
    · rfl
    · rcases List.mem_cons.1 hu with rfl | hu
      · rfl
      · exact ih h2 u hu
theorem Src.of_row {W : World} {base e size n nn c : Nat} {A : Option Addr} {xs : List Value} (h : W.ownsRow base e size (.slice A nn c) n xs) : nn = n ∧ Src W A xs := by
  rcases h.2 with ⟨e, h0⟩ | ⟨g, cap, cur, e, _, _, hc, _⟩
  · injection e with e1 e2 e3
    refine ⟨by omega, fun hp => ?_⟩
    have := h.1
    rw [h0] at this
    omega
  · injection e with e1 e2 e3
    subst e1; subst e2; subst e3
    refine ⟨rfl, fun _ => ⟨_, rfl, fun j u hu => ?_⟩⟩
    exact World.ownsRow.cells (g := g) h rfl j u hu
/-- append(v, l...) of rows of pairs. -/
theorem Recs.cat {P : Program} {ops : Array Oper} {rest : List Oper} {o : Oper} {a : Act} {Q : Exit → Act → World → Prop} {w : World} (base b2 : Nat) (hgd : o.guard = none) (s x : Operand) (t e : TypeId) (i0 : Value)
    (ho : o.op = .call { callee := .builtin .append, args := #[s, x], argTypes := #[t, t] })
    (ht : P.underlying t = some (.slice e)) (hinfo : (P.info? e).map (fun i => (i.zero, i.size, i.bytes)) = some (some i0, 2, 40)) (hz : i0.cells.size = 2) (he : e ≠ 5)
    (v : Value) (rs ss : List (ByteArray × List UInt8)) (A : Option Addr) (n c : Nat) (hs : a.eval s = v) (hx : a.eval x = .slice A n c)
    (HO : Recs w base e v rs) (HS : Recs w b2 e (.slice A n c) ss) (hbase : base ≤ w.heap.size) (hlen : rs.length + ss.length ≤ 1000000000)
    (h : ∀ v1 w1, Recs w1 base e v1 (rs ++ ss) → Below base w w1 → wpList P ops Q rest (a.put o.dst v1) w1) : wpList P ops Q (o :: rest) a w := by
  obtain ⟨xs, hO, hC⟩ := HO
  obtain ⟨ys, hO2, hC2⟩ := HS
  obtain ⟨rfl, hsrc⟩ := Src.of_row hO2
  refine wpList_app (w0 := w) base hgd s x t e i0 2 40 ho ht hinfo hz (by decide) (by decide) v rs.length xs ys A ss.length c hs hx hO hO2.1 hsrc hC2.one (Below.refl _ w) hbase (by omega) ?_
  intro v1 w1 h1 h2 h3 _
  refine h v1 w1 ⟨xs ++ ys, by rw [List.length_append]; exact h1, ?_⟩ h2
  exact (hC.imp fun _ _ h => h.wrote hO he h3).app (hC2.imp fun _ _ h => h.wrote hO he h3)
/-- the i-th pair of a row, read -/
theorem Recs.at_ {w : World} {base e : Nat} {A : Option Addr} {n c : Nat} {rs : List (ByteArray × List UInt8)} (h : Recs w base e (.slice A n c) rs) (i : Nat) (hi : i < rs.length) : ∃ g Av cv, A = some ⟨g, 0, none⟩ ∧ w.cell? ⟨g, i * 2, none⟩ = some (.string rs[i].1) ∧ w.cell? ⟨g, i * 2 + 1, none⟩ = some (.slice Av rs[i].2.length cv) ∧ Sl w (.slice Av rs[i].2.length cv) rs[i].2 := by
  obtain ⟨A', c', e, hc, hr⟩ := h.rd
  injection e with e1 e2 e3
  subst e1
  obtain ⟨g, vb, h1, h2, h3, h4⟩ := hr i hi
  obtain ⟨Av, cv, rfl, _⟩ := h4.rd
  exact ⟨g, Av, cv, h1, h2, h3, h4⟩
set_option maxRecDepth 20000 in
set_option maxHeartbeats 4000000 in
theorem KvRange_ok (A : Option Addr) (c : Nat) (xs : List PutD) (mid : ByteArray) (w : World) (hr : Row KPut 3 w A xs) (hc : xs.length ≤ c) (hsm : lightB [xs] = true) (hm1 : mid.size ≤ 300) (hm0 : mid.size ≠ 0) :
    Calls Try.prog 3 #[.slice A xs.length c, .string mid] w fun e w' => e = .returned (.bool true) ∧ Below w.heap.size w w' := by
  have h8 : xs.length ≤ 8 := by
    simp [lightB, smallL] at hsm
    exact hsm.1
  obtain ⟨n, hnn⟩ : ∃ n, n = xs.length := ⟨_, rfl⟩
  rw [← hnn] at hc h8 ⊢
  have HN := Lib.hid hnn; have HR := Lib.hid hr; have HSM := Lib.hid hsm
  have hmi : ¬ (300 : Int) < mid.size := by omega
  have hme : mid.toList.isEmpty = false := by rw [toE]; exact decide_eq_false hm0
  have HM0 := Lib.hid hm0
  clear hnn hr hsm hm0
  go_enter Try.func3, Try.ntmps3
  go_wp2_with fail
  refine (awake7_any _).mono ?_
  rintro e w1 ⟨rfl, hb1⟩
  have HB1 := Lib.hid hb1
  clear hb1
  go_wp2_with fail
  obtain ⟨W2, hW2⟩ : ∃ W2, W2 = w1.alloc (.cells #[.slice A n c] 22) := ⟨_, rfl⟩
  rw [← hW2]
  have hb2 : Below w1.heap.size w1 W2 := by rw [hW2]; exact (Below.refl _ w1).alloc (Nat.le_refl _) _
  have HB2 := Lib.hid (below_add HB1.out hb2)
  have hls : PutLs W2 (some ⟨w1.heap.size, 0, none⟩) [xs] := fun _ => ⟨_, rfl, fun i hi => by
    have hi0 : i = 0 := by simpa using hi
    subst hi0
    have ha : (⟨w1.heap.size, 0, none⟩ : Addr).add 0 = ⟨w1.heap.size, 0, none⟩ := by unfold Addr.add; split <;> simp_all
    refine ⟨A, c, ?_, by show xs.length ≤ c; rw [← HN.out]; exact hc, puts_below HR.out HB2.out⟩
    rw [ha, hW2, cell_of_row _ w1.heap.size 0 _ _ _ (heap_new w1 _ _ rfl), HN.out]
    rfl⟩
  have hlt := kv_light W2 (some ⟨w1.heap.size, 0, none⟩) 1 [xs] hls (by simp)
  rw [HSM.out] at hlt
  have hlt := Lib.hid hlt
  clear hls hb2 hW2
  refine hlt.out.mono ?_
  rintro e w2 ⟨rfl, rfl⟩
  clear hlt
  go_wp2_with fail
  refine (kv_new _).mono ?_
  rintro e w3 ⟨rfl, ht3, hb3⟩
  obtain ⟨g, hg⟩ : ∃ g, g = w2.heap.size + 1 := ⟨_, rfl⟩
  obtain ⟨B, hB⟩ : ∃ B, B = w2.heap.size := ⟨_, rfl⟩
  rw [← hg, ← hB] at ht3
  rw [← hg]
  have hwB : w.heap.size ≤ B := by rw [hB]; exact HB2.out.size
  have hput : PutS B w3 A xs := PutS.of_row (puts_below HR.out HB2.out) (by rw [hB]; exact hb3) (by rw [hB]; exact Nat.le_refl _)
  have hcon := kv_commit ht3 A c xs hput (by rw [← HN.out]; exact hc) (by rw [← HN.out]; omega) (by decide) (by decide)
  rw [← HN.out] at hcon
  obtain ⟨L, hL⟩ : ∃ L, L = (if xs.all PutD.good then KvMath.all [] (xs.map PutD.ent) else []) := ⟨_, rfl⟩
  rw [← hL] at hcon
  have hLr : KvMath.Rise L := by
    rw [hL]
    split
    · exact KvMath.Rise.all List.Pairwise.nil _
    · exact List.Pairwise.nil
  have hLl : L.length ≤ 8 := by
    rw [hL]
    split
    · have := KvMath.all_len [] List.Pairwise.nil (xs.map PutD.ent)
      rw [List.length_map, ← HN.out] at this
      simp at this
      omega
    · exact Nat.zero_le _
  have hbw : Below w.heap.size w w3 := below_then HB2.out HB2.out.size hb3
  generalize (if xs.all PutD.good then (0 : Int) else 1) = er at hcon
  have hcon := Lib.hid hcon; have HLr := Lib.hid hLr; have HB3 := Lib.hid hbw
  clear ht3 hb3 hput hL hLr hbw hg hB
  go_wp2_with fail
  refine hcon.out.mono ?_
  rintro e w4 ⟨rfl, ht4, htv⟩
  have HT4 := Lib.hid ht4
  have HB4 := Lib.hid (HB3.out.trans (htv.1.mono hwB))
  clear ht4 htv hcon HB3
  go_wp2_with fail
  refine (kv_range HT4.out KvMath.e0 KvMath.e0 1000 (by omega)).mono ?_
  rintro e w5 ⟨v5, rfl, hr5, hb5⟩
  rw [KvMath.range_all L (by omega)] at hr5
  obtain ⟨A5, c5, rfl, hc5, _⟩ := hr5.rd
  have HT5 := Lib.hid (HT4.out.below hb5); have HR5 := Lib.hid hr5
  have HB5 := Lib.hid (below_then HB4.out HB4.out.size hb5)
  obtain ⟨q, hq⟩ : ∃ q, q = L.length := ⟨_, rfl⟩
  rw [← hq] at HR5 hc5 hLl ⊢
  have HQ := Lib.hid hq
  clear hr5 hb5 hq HT4 HB4
  go_wp2_with fail
  refine (kv_range HT5.out KvMath.e0 mid 1000 (by rw [← HQ.out]; omega)).mono ?_
  rintro e w6 ⟨v6, rfl, hr6, hb6⟩
  have HT6 := Lib.hid (HT5.out.below hb6); have HR6 := Lib.hid hr6
  have HR5 := Lib.hid (HR5.out.below hb6)
  have HB6 := Lib.hid (below_then HB5.out HB5.out.size hb6)
  obtain ⟨A6, c6, rfl, hc6, _⟩ := hr6.rd
  clear hr6 hb6 HT5 HB5
  go_wp2_with fail
  refine (kv_range HT6.out mid KvMath.e0 1000 (by rw [← HQ.out]; omega)).mono ?_
  rintro e w7 ⟨v7, rfl, hr7, hb7⟩
  have HT7 := Lib.hid (HT6.out.below hb7); have HR7 := Lib.hid hr7
  have HR5 := Lib.hid (HR5.out.below hb7); have HR6 := Lib.hid (HR6.out.below hb7)
  have HB7 := Lib.hid (below_then HB6.out HB6.out.size hb7)
  obtain ⟨A7, c7, rfl, hc7, _⟩ := hr7.rd
  have HPart := Lib.hid (KvMath.range_parts L HLr.out mid HM0.out (by rw [← HQ.out]; omega))
  clear hr7 hb7 HT6 HB6
  generalize KvMath.range L KvMath.e0 mid 1000 = La at *
  generalize KvMath.range L mid KvMath.e0 1000 = Lb at *
  obtain ⟨na, hna⟩ : ∃ na, na = La.length := ⟨_, rfl⟩
  obtain ⟨nb, hnb⟩ : ∃ nb, nb = Lb.length := ⟨_, rfl⟩
  rw [← hna] at HR6 hc6 ⊢
  rw [← hnb] at HR7 hc7 ⊢
  have HNA := Lib.hid hna; have HNB := Lib.hid hnb
  have HAB : Hid (na + nb = q) := Lib.hid (by rw [hna, hnb, HQ.out, ← HPart.out, List.length_append])
  clear hna hnb
  go_wp2_with fail
  rename World => wA
  go_loopw [9] (fun i wr => ∃ p : Nat, p ≤ q ∧ i = .int .i64 p ∧ Below wA.heap.size wA wr) (fun i _ => q - (intOf i).toNat)
  case atStart => exact ⟨0, by omega, rfl, Below.refl _ _⟩
  case round =>
    rename World => wL
    obtain ⟨p, hp, rfl, hbl⟩ := hrel
    by_cases hlt2 : p < q
    · have hltI : (p : Int) < q := by omega
      have hpL : p < L.length := by rw [← HQ.out]; exact hlt2
      have hwp : IntKind.i64.wrap ((p : Int) + 1) = ((p + 1 : Nat) : Int) := by rw [IntKind.wrap_i64]; omega
      have HBl := Lib.hid hbl
      have HGW : Hid (∀ W, Gr wL.heap.size wL.drew W → Below wA.heap.size wA W) := Lib.hid fun W hW => below_then hbl hbl.size ((Below.drew (Below.refl wL.heap.size wL)).trans hW.1)
      rcases Nat.eq_zero_or_pos p with h0 | h0
      · subst h0
        clear hbl
        go_wp2_with fail
        refine wp_region_tbl _ (fun _ => none) (wL.heap.size) (by kernel_rfl) (by kernel_rfl) (by kernel_rfl) ?_
        repeat (first | (refine wpR_plain ?_ (by rfl) (fun K hK => ?_); (focus (first | (simp only [Region.wanted]; done) | (go_simp; done))); apply Exists.intro; refine ⟨fun W hW => ?_, ?_⟩; (go_simp; (try simp only [plainUpon_value, true_and]); rfl); go_simp; refine hK _ ?_; clear hK K) | (refine wpR_skip ?_ (fun K hK => ?_); (focus (first | (simp only [Region.wanted]; done) | (go_simp; done) | (simp [Region.wanted, yielded, undef]; done) | (go_simp; simp [undef]; done) | (go_simp; decide) | rfl)); go_simp; refine hK _ ?_; clear hK K))
        refine wpR_nil (fun W hW hF => ?_)
        have HX := Lib.hid (HGW.out W hW)
        clear hF hW HGW
        go_wp2
        go_roundw
        case rel => exact ⟨1, by omega, by first | rfl | go_num, HX.out⟩
        case measure => simp [intOf]; omega
      · obtain ⟨r, hrp⟩ : ∃ r, r = p - 1 := ⟨_, rfl⟩
        have hp0 : (0 : Int) < (p : Int) := by omega
        have hwm : IntKind.i64.wrap ((p : Int) - 1) = (r : Int) := by rw [IntKind.wrap_i64]; omega
        have hrq : r < q := by omega
        have hrL : r < L.length := by omega
        have hadj := HLr.out.adj r p hpL (by omega)
        unfold KvMath.bl at hadj
        obtain ⟨g1, Av1, cv1, e1, x0, _⟩ := HR5.out.at_ r hrL
        obtain ⟨g2, Av2, cv2, e2, y0, _⟩ := HR5.out.at_ p hpL
        subst e1
        injection e2 with e2
        injection e2 with e2
        subst e2
        have HC : Hid (∀ W, Gr wL.heap.size wL.drew W → W.cell? ⟨g1, r * 2, none⟩ = some (.string (L[r]'hrL).1) ∧ W.cell? ⟨g1, p * 2, none⟩ = some (.string (L[p]'hpL).1)) := Lib.hid fun W hW => ⟨cell_below (HGW.out W hW) x0, cell_below (HGW.out W hW) y0⟩
        generalize (L[r]'hrL).1 = k1 at *
        generalize (L[p]'hpL).1 = k2 at *
        clear hrp
        clear hbl x0 y0
        go_wp2_with fail
        refine wp_region_tbl _ (fun _ => none) (wL.heap.size) (by kernel_rfl) (by kernel_rfl) (by kernel_rfl) ?_
        repeat (first | (refine wpR_plain ?_ (by rfl) (fun K hK => ?_); (focus (first | (simp only [Region.wanted]; done) | (go_simp; done))); apply Exists.intro; refine ⟨fun W hW => ?_, ?_⟩; (go_simp; (try simp only [plainUpon_value, true_and]); rfl); go_simp; refine hK _ ?_; clear hK K) | (refine wpR_plain ?_ (by rfl) (fun K hK => ?_); (focus (first | (simp only [Region.wanted]; done) | (go_simp; done))); apply Exists.intro; refine ⟨fun W hW => ?_, ?_⟩; (have hcw := HC.out W hW; go_simp; (try simp only [plainUpon_value, true_and]); rfl); go_simp; refine hK _ ?_; clear hK K))
        refine wpR_nil (fun W hW hF => ?_)
        have HX := Lib.hid (HGW.out W hW)
        clear hF hW HGW HC
        go_wp2
        go_roundw
        case rel => exact ⟨p + 1, by omega, by go_num, HX.out⟩
        case measure => simp [intOf]; omega
    · have hltI : ¬ (p : Int) < q := by omega
      obtain ⟨W9, hW9⟩ : ∃ W9, W9 = wL.alloc (.cells #[] 34) := ⟨_, rfl⟩
      have hb9 : Below wL.heap.size wL W9 := by rw [hW9]; exact (Below.refl _ wL).alloc (Nat.le_refl _) _
      have HR0 : Hid (Recs W9 wL.heap.size 34 (.slice (some ⟨wL.heap.size, 0, none⟩) 0 0) []) := Lib.hid ⟨[], by rw [hW9]; exact World.ownsRow_made wL #[] 0 (Nat.le_refl _) (Nat.zero_le _) rfl, rfl⟩
      have HR6 := Lib.hid ((HR6.out.below hbl).below hb9); have HR7 := Lib.hid (HR7.out.below hbl); have HR5 := Lib.hid (HR5.out.below hbl); have HT9 := Lib.hid (HT7.out.below hbl); have HBL := Lib.hid (below_then HB7.out HB7.out.size hbl); have HB9 := Lib.hid hb9
      have hsz9 : wL.heap.size ≤ W9.heap.size := hb9.size
      have HW9 := Lib.hid hW9
      have hlen : La.length + Lb.length ≤ 1000000000 := by rw [← HNA.out, ← HNB.out]; have := HAB.out; omega
      have HLen := Lib.hid hlen
      clear hbl hb9 hW9 hlen HB7 HT7
      go_wp2_with (at_builtin; (rw [← HW9.out]); go_loud (refine Recs.cat wL.heap.size w5.heap.size rfl (.tmp 61) (.tmp 62) 30 34 (.agg #[.string ByteArray.empty, .slice none 0 0]) rfl Try.underlying30 info_pair rfl (by decide) _ [] La A6 na c6 rfl rfl HR0.out HR6.out hsz9 (by have := HLen.out; simp; omega) ?_))
      intro v10 w10 hr10 hb10
      have hbT : Below wL.heap.size wL w10 := HB9.out.trans hb10
      have HR7 := Lib.hid (HR7.out.below hbT); have HBT := Lib.hid hbT
      have hsz10 : wL.heap.size ≤ w10.heap.size := hbT.size
      have HR10 := Lib.hid hr10
      obtain ⟨A10, c10, hv10, hc10, _⟩ := hr10.rd
      rw [← HNA.out] at hv10 hc10
      subst hv10
      clear hr10 hb10 hbT HR6 HR0 HB9 HW9
      go_wp2_with (at_builtin; go_loud (refine Recs.cat wL.heap.size w6.heap.size rfl (.tmp 63) (.tmp 64) 30 34 (.agg #[.string ByteArray.empty, .slice none 0 0]) rfl Try.underlying30 info_pair rfl (by decide) _ La Lb A7 nb c7 rfl rfl HR10.out HR7.out hsz10 HLen.out ?_))
      intro v11 w11 hr11 hb11
      rw [HPart.out] at hr11
      have hbT : Below wL.heap.size wL w11 := HBT.out.trans hb11
      have HR5 := Lib.hid (HR5.out.below hbT); have HT11 := Lib.hid (HT9.out.below hbT); have HB11 := Lib.hid (below_then HBL.out HBL.out.size hbT)
      have HR11 := Lib.hid hr11
      obtain ⟨A11, c11, hv11, hc11, _⟩ := hr11.rd
      rw [← HQ.out] at hv11 hc11
      subst hv11
      have hab := HAB.out
      have habi : ((na : Int) + nb = q) := by omega
      clear hr11 hb11 hbT HR10 HR7 HT9 HBL HBT hc10
      go_wp2_with fail
      rename World => wC
      go_loopw [11] (fun i wr => ∃ s : Nat, s ≤ q ∧ i = .int .i64 s ∧ Below wC.heap.size wC wr) (fun i _ => q - (intOf i).toNat)
      case atStart => exact ⟨0, by omega, rfl, Below.refl _ _⟩
      case round =>
        rename World => wD
        obtain ⟨s, hs, rfl, hbd⟩ := hrel
        by_cases hlt3 : s < q
        · have hltS : (s : Int) < q := by omega
          have hsL : s < L.length := by rw [← HQ.out]; exact hlt3
          have hws : IntKind.i64.wrap ((s : Int) + 1) = ((s + 1 : Nat) : Int) := by rw [IntKind.wrap_i64]; omega
          have HGW : Hid (∀ W, Gr wD.heap.size wD.drew W → Below wC.heap.size wC W) := Lib.hid fun W hW => below_then hbd hbd.size ((Below.drew (Below.refl wD.heap.size wD)).trans hW.1)
          obtain ⟨g1, Av1, cv1, e1, x0, x1, xs1⟩ := HR5.out.at_ s hsL
          obtain ⟨g2, Av2, cv2, e2, y0, y1, ys1⟩ := HR11.out.at_ s hsL
          subst e1; subst e2
          obtain ⟨nv, hnv⟩ : ∃ nv, nv = (L[s]'hsL).2.length := ⟨_, rfl⟩
          rw [← hnv] at x1 xs1 y1 ys1
          have HC : Hid (∀ W, Gr wD.heap.size wD.drew W → W.cell? ⟨g1, s * 2, none⟩ = some (.string (L[s]'hsL).1) ∧ W.cell? ⟨g1, s * 2 + 1, none⟩ = some (.slice Av1 nv cv1) ∧ W.cell? ⟨g2, s * 2, none⟩ = some (.string (L[s]'hsL).1) ∧ W.cell? ⟨g2, s * 2 + 1, none⟩ = some (.slice Av2 nv cv2)) := Lib.hid fun W hW => ⟨cell_below (HGW.out W hW) x0, cell_below (HGW.out W hW) x1, cell_below (HGW.out W hW) y0, cell_below (HGW.out W hW) y1⟩
          have HK1 : Hid (∀ W, Gr wD.heap.size wD.drew W → (convert 32 9 (.slice Av1 nv cv1)).run Try.prog W = .ok (.string ⟨(L[s]'hsL).2.toArray⟩) W) := Lib.hid fun W hW => (xs1.below (HGW.out W hW)).str
          have HK2 : Hid (∀ W, Gr wD.heap.size wD.drew W → (convert 32 9 (.slice Av2 nv cv2)).run Try.prog W = .ok (.string ⟨(L[s]'hsL).2.toArray⟩) W) := Lib.hid fun W hW => (ys1.below (HGW.out W hW)).str
          clear hbd x0 x1 y0 y1 xs1 ys1 hnv
          generalize (L[s]'hsL).1 = k1 at *
          generalize (⟨(L[s]'hsL).2.toArray⟩ : ByteArray) = z1 at *
          go_wp2_with fail
          refine wp_region_tbl _ (fun _ => none) (wD.heap.size) (by kernel_rfl) (by kernel_rfl) (by kernel_rfl) ?_
          repeat (first | (refine wpR_plain ?_ (by rfl) (fun K hK => ?_); (focus (first | (simp only [Region.wanted]; done) | (go_simp; done))); apply Exists.intro; refine ⟨fun W hW => ?_, ?_⟩; (go_simp; (try simp only [plainUpon_value, true_and]); rfl); go_simp; refine hK _ ?_; clear hK K) | (refine wpR_plain ?_ (by rfl) (fun K hK => ?_); (focus (first | (simp only [Region.wanted]; done) | (go_simp; done))); apply Exists.intro; refine ⟨fun W hW => ?_, ?_⟩; (have hcw := HC.out W hW; go_simp; (try simp only [plainUpon_value, true_and]); rfl); go_simp; refine hK _ ?_; clear hK K) | (refine wpR_plain ?_ (by rfl) (fun K hK => ?_); (focus (first | (simp only [Region.wanted]; done) | (go_simp; done))); apply Exists.intro; refine ⟨fun W hW => ?_, ?_⟩; (have hcw := HK1.out W hW; go_simp; (try simp only [plainUpon_value, true_and]); rfl); go_simp; refine hK _ ?_; clear hK K) | (refine wpR_plain ?_ (by rfl) (fun K hK => ?_); (focus (first | (simp only [Region.wanted]; done) | (go_simp; done))); apply Exists.intro; refine ⟨fun W hW => ?_, ?_⟩; (have hcw := HK2.out W hW; go_simp; (try simp only [plainUpon_value, true_and]); rfl); go_simp; refine hK _ ?_; clear hK K))
          refine wpR_nil (fun W hW hF => ?_)
          have HX := Lib.hid (HGW.out W hW)
          clear hF hW HGW HC HK1 HK2
          go_wp2
          go_roundw
          case rel => exact ⟨s + 1, by omega, by go_num, HX.out⟩
          case measure => simp [intOf]; omega
        · have hltS : ¬ (s : Int) < q := by omega
          have HBF := Lib.hid (below_then HB11.out HB11.out.size hbd)
          have hcon := kv_len (HT11.out.below hbd)
          rw [← HQ.out] at hcon
          have hcon := Lib.hid hcon
          clear hbd
          go_wp2_with fail
          refine hcon.out.mono ?_
          rintro e w12 ⟨rfl, rfl⟩
          go_wp2
          go_ret
          exact ⟨rfl, HBF.out⟩
set_option maxRecDepth 1000000 in
theorem KvRange_walk (A : Option Addr) (c : Nat) (xs : List PutD) (mid : ByteArray) (w : World) (hr : Row KPut 3 w A xs) (hc : xs.length ≤ c) (hl : xs.length * 48 ≤ 140737488351232) (hms : mid.size ≤ 140737488351232) :
    Calls Try.prog 3 #[.slice A xs.length c, .string mid] w fun e w' => e = .returned (.bool true) ∧ Below w.heap.size w w' := by
  by_cases hok : lightB [xs] = true ∧ mid.size ≤ 300 ∧ mid.size ≠ 0
  · exact KvRange_ok A c xs mid w hr hc hok.1 hok.2.1 hok.2.2
  · obtain ⟨n, hnn⟩ : ∃ n, n = xs.length := ⟨_, rfl⟩
    rw [← hnn] at hc hl ⊢
    have HN := Lib.hid hnn; have HR := Lib.hid hr; have HOK := Lib.hid hok
    clear hnn hr hok
    go_enter Try.func3, Try.ntmps3
    go_wp2_with fail
    refine (awake7_any _).mono ?_
    rintro e w1 ⟨rfl, hb1⟩
    have HB1 := Lib.hid hb1
    clear hb1
    go_wp2_with fail
    obtain ⟨W2, hW2⟩ : ∃ W2, W2 = w1.alloc (.cells #[.slice A n c] 22) := ⟨_, rfl⟩
    rw [← hW2]
    have hb2 : Below w1.heap.size w1 W2 := by rw [hW2]; exact (Below.refl _ w1).alloc (Nat.le_refl _) _
    have HB2 := Lib.hid (below_add HB1.out hb2)
    have hls : PutLs W2 (some ⟨w1.heap.size, 0, none⟩) [xs] := fun _ => ⟨_, rfl, fun i hi => by
      have hi0 : i = 0 := by simpa using hi
      subst hi0
      have ha : (⟨w1.heap.size, 0, none⟩ : Addr).add 0 = ⟨w1.heap.size, 0, none⟩ := by unfold Addr.add; split <;> simp_all
      refine ⟨A, c, ?_, by show xs.length ≤ c; rw [← HN.out]; exact hc, puts_below HR.out HB2.out⟩
      rw [ha, hW2, cell_of_row _ w1.heap.size 0 _ _ _ (heap_new w1 _ _ rfl), HN.out]
      rfl⟩
    have hlt := Lib.hid (kv_light W2 (some ⟨w1.heap.size, 0, none⟩) 1 [xs] hls (by simp))
    clear hls hb2 hW2
    refine hlt.out.mono ?_
    rintro e w2 ⟨rfl, rfl⟩
    clear hlt
    cases hsm : lightB [xs] with
    | false =>
      clear hsm
      go_wp2
      go_ret
      exact ⟨rfl, HB2.out⟩
    | true =>
      by_cases h3 : mid.size ≤ 300
      · have h3i : ¬ (300 : Int) < mid.size := by omega
        have hme : mid.toList.isEmpty = true := by
          rw [toE]
          refine decide_eq_true ?_
          by_cases e : mid.size = 0
          · exact e
          · exact absurd ⟨hsm, h3, e⟩ HOK.out
        clear hsm
        go_wp2
        go_ret
        exact ⟨rfl, HB2.out⟩
      · have h3i : (300 : Int) < mid.size := by omega
        clear hsm
        go_wp2
        go_ret
        exact ⟨rfl, HB2.out⟩
end Go.Proofs.Ytgaccogekmaijaa
