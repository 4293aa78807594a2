/- The law KvKnown, walked. -/
import Derived.Test.YtgaccogekmaijaaKvBk
namespace Go.Proofs.Ytgaccogekmaijaa
open Go.RowKit
set_option linter.unusedVariables false
set_option linter.unusedSimpArgs false
attribute [local irreducible] wpR relOp
def bC : ByteArray := ⟨#[99]⟩
def bZ : ByteArray := ⟨#[122]⟩
def bN : ByteArray := ⟨#[]⟩
theorem bl_bc : KvMath.bl bB bC = true := by unfold KvMath.bl; rw [Lib.toList_data, Lib.toList_data]; rfl
theorem bl_cb : KvMath.bl bC bB = false := KvMath.bl_asymm bl_bc
theorem kn1 : ([⟨bA, [49], false⟩, ⟨bN, [], false⟩] : List PutD).all PutD.good = false := by decide
theorem kn2 : ([⟨bA, [49], true⟩] : List PutD).all PutD.good = false := by decide
theorem kn3 : ([⟨bA, [49], false⟩, ⟨bA, [], true⟩, ⟨bZ, [], true⟩] : List PutD).all PutD.good = true := by decide
theorem kn3L : KvMath.all [] (([⟨bA, [49], false⟩, ⟨bA, [], true⟩, ⟨bZ, [], true⟩] : List PutD).map PutD.ent) = [] := by
  simp [KvMath.all, PutD.ent, KvMath.one, KvMath.low, KvMath.high, KvMath.bl_irrefl]
theorem kn4 : ([⟨bB, [], false⟩, ⟨bC, [51], false⟩] : List PutD).all PutD.good = true := by decide
def knL : List KvMath.Ent := [(bB, []), (bC, [51])]
theorem kn4L : KvMath.all [] (([⟨bB, [], false⟩, ⟨bC, [51], false⟩] : List PutD).map PutD.ent) = knL := by
  simp [KvMath.all, PutD.ent, KvMath.one, KvMath.low, KvMath.high, bl_bc, bl_cb, knL]
theorem knR : KvMath.Rise knL := by rw [← kn4L]; exact KvMath.Rise.all List.Pairwise.nil _
theorem knK : ∀ p ∈ knL, 0 < p.1.size ∧ p.1.size ≤ 200 ∧ p.2.length ≤ 200000 := by rw [← kn4L]; exact all_keys _ kn4 [] (fun p hp => by cases hp)
theorem kn5 : (KvMath.range knL KvMath.e0 KvMath.e0 1).length = 1 := by
  unfold KvMath.range
  rw [KvMath.pos_e0, KvMath.tw_all _ _ KvMath.inR_e0]
  rfl
theorem kn6 : (KvMath.range knL KvMath.e0 KvMath.e0 0).length = 0 := by
  unfold KvMath.range
  rw [KvMath.pos_e0, KvMath.tw_all _ _ KvMath.inR_e0]
  rfl
theorem kn7 : (KvMath.range knL bC KvMath.e0 9).length = 1 := by
  have h1 : KvMath.pos knL bC = 1 := by simp [KvMath.pos, KvMath.low, knL, bl_bc, KvMath.bl_irrefl]
  unfold KvMath.range
  rw [h1, KvMath.tw_all _ _ KvMath.inR_e0]
  rfl
theorem kn8 : decB [2] = none := by rfl
theorem kn9 : decB [0, 0, 1, 97, 1, 0, 1, 98, 0, 0, 0, 1, 120] = some [⟨bA, [], true⟩, ⟨bB, [120], false⟩] := by kernel_rfl
theorem kn10 : decB [0, 0, 1, 97] = some [⟨bA, [], true⟩] := by kernel_rfl
theorem lit2 (w1 : World) (b : UInt8) (cs : Array Value) : Below w1.heap.size w1 ((w1.alloc (.cells #[.int .u8 (b.toNat : Int)] 5 (1, 2))).alloc (.cells cs 38)) ∧ ((w1.alloc (.cells #[.int .u8 (b.toNat : Int)] 5 (1, 2))).alloc (.cells cs 38)).heap[w1.heap.size + 1]? = some (.cells cs 38) ∧ Sl ((w1.alloc (.cells #[.int .u8 (b.toNat : Int)] 5 (1, 2))).alloc (.cells cs 38)) (.slice (some ⟨w1.heap.size, 0, none⟩) 1 1) [b] :=
  ⟨((Below.refl _ w1).alloc (Nat.le_refl _) _).alloc (by simp) _, heap_new _ _ _ (by simp), Sl.lit1 (fr := (1, 2)) (heap_old (heap_new _ _ _ rfl))⟩
theorem PutsR.at_ {w : World} {base : Nat} {v : Value} {rs : List PutD} (h : PutsR w base v rs) (hp : 0 < rs.length) : ∃ g cap, v = .slice (some ⟨g, 0, none⟩) rs.length cap ∧ rs.length ≤ cap ∧ ∀ i, (hi : i < rs.length) → ∃ vb, w.cell? ⟨g, i * 3, none⟩ = some (.string rs[i].key) ∧ w.cell? ⟨g, i * 3 + 1, none⟩ = some vb ∧ w.cell? ⟨g, i * 3 + 2, none⟩ = some (.bool rs[i].gone) ∧ Sl w vb rs[i].val := by
  obtain ⟨xs, ho, hC⟩ := h
  obtain ⟨hxl, hat⟩ := hC.at_
  rcases ho.2 with ⟨e, hn⟩ | ⟨g, cap, cur, e, hb, hh, hcap, hm, hsz, htk⟩
  · omega
  · refine ⟨g, cap, e, hcap, fun i hi => ?_⟩
    obtain ⟨vb, h1, h2, h3, h4⟩ := hat i hi
    have hcur : ∀ i, i < rs.length * 3 → cur[i]? = xs[i]? := fun i hi => by
      rw [← htk, List.getElem?_take_of_lt hi, Array.getElem?_toList]
    exact ⟨vb, by rw [cell_of_row _ g _ _ _ _ hh, hcur _ (by omega)]; exact h1, by rw [cell_of_row _ g _ _ _ _ hh, hcur _ (by omega)]; exact h2, by rw [cell_of_row _ g _ _ _ _ hh, hcur _ (by omega)]; exact h3, h4⟩
theorem rd_lit (w : World) (l : List UInt8) (cs : Array Value) (h : cs.toList = bvl l) (hl : l.length ≤ 1000) : Rd (w.alloc (.cells cs 5)) (some ⟨w.heap.size, 0, none⟩) l := by
  refine ⟨by omega, fun _ => ⟨_, rfl, fun j hj => ?_⟩⟩
  have ha : (⟨w.heap.size, 0, none⟩ : Addr).add j = ⟨w.heap.size, j, none⟩ := by unfold Addr.add; split <;> simp_all
  rw [ha, cell_of_row _ w.heap.size j _ _ _ (heap_new w _ _ rfl), ← Array.getElem?_toList, h]
  simp [bvl, hj]
def anySl (n : Nat) : Sp := .rel (fun v => ∃ A c, v = .slice A n c ∧ n ≤ c) (fun _ _ => True) ⟨_, none, _, rfl, Nat.le_refl _⟩ (fun _ _ _ _ _ _ => trivial)
def litPut : Sp := .rel (fun v => ∃ g : Nat, v = .slice (some ⟨g, 0, none⟩) 1 1) (fun v W => ∃ g : Nat, v = .slice (some ⟨g, 0, none⟩) 1 1 ∧ ∃ fr, W.heap[g]? = some (.cells #[.string ⟨#[]⟩, .slice none 0 0, .bool false] 38 fr)) ⟨_, 0, rfl⟩ (fun _ _ _ _ h hg => by
  obtain ⟨g, e, fr, h⟩ := h
  exact ⟨g, e, hg.2 g _ _ fr h⟩)
def knTbl : Nat → Option Sp
  | 38 => some (.val (.string ⟨#[120]⟩))
  | 55 => some (.val (.int .i64 2))
  | 60 => some (anySl 1)
  | 66 => some (anySl 0)
  | 72 => some (anySl 1)
  | 78 => some litPut
  | 79 => some (anySl 0)
  | _ => none
theorem rng_rel {S0 : Nat} (w0 w : World) (B g N : Nat) (L : List KvMath.Ent) (h : Tb w0 w B g N L) (f t : ByteArray) (m : Int) (hL : L.length ≤ 1000) (hS : S0 ≤ w.heap.size) {n : Nat} (hn : (KvMath.range L f t m).length = n) : Calls Try.prog 12 #[.pointer (some ⟨g, 0, none⟩), .string f, .string t, .int .i64 m] w fun e w' => ∃ v, e = .returned v ∧ Gr S0 w w' ∧ (∃ A c, v = .slice A n c ∧ n ≤ c) ∧ True := by
  subst hn
  refine (kv_range h f t m (by omega)).mono ?_
  rintro e w1 ⟨v, rfl, hs, hb⟩
  obtain ⟨A, c, h1, h2, _⟩ := hs.rd
  exact ⟨v, rfl, ⟨hb.mono hS, fun i x e fr hx => ⟨fr, (hb.block i (Array.getElem?_eq_some_iff.1 hx).1).trans hx⟩⟩, ⟨A, c, h1, h2⟩, trivial⟩
set_option maxRecDepth 20000 in
set_option maxHeartbeats 4000000 in
theorem KvKnown_walk (w : World) : Calls Try.prog 5 #[] w fun e w' => e = .returned (.bool true) ∧ Below w.heap.size w w' := by
  have kc := conv_const Try.underlying32 Try.underlying5
  go_enter Try.func5, Try.ntmps5
  go_wp2_with fail
  refine (awake7_any _).mono ?_
  rintro e w0 ⟨rfl, hb0⟩
  have HB0 := Lib.hid hb0
  clear hb0
  go_wp2_with fail
  refine (kv_new w0).mono ?_
  rintro e w1 ⟨rfl, ht1, hb1⟩
  have HT1 := Lib.hid ht1
  obtain ⟨g, hg⟩ : ∃ g, g = w0.heap.size + 1 := ⟨_, rfl⟩
  obtain ⟨B, hB⟩ : ∃ B, B = w0.heap.size := ⟨_, rfl⟩
  rw [← hg, ← hB] at HT1
  rw [← hg]
  have HWB : Hid (w.heap.size ≤ B) := Lib.hid (by rw [hB]; exact HB0.out.size)
  clear ht1 hb1 hg hB
  go_wp2_with fail
  obtain ⟨hba, hha, hsa⟩ := lit2 w1 49 #[.string ⟨#[97]⟩, .slice (some ⟨w1.heap.size, 0, none⟩) 1 1, .bool false, .string ⟨#[]⟩, .slice none 0 0, .bool false]
  obtain ⟨Wa, hWa⟩ : ∃ W, W = (w1.alloc (.cells #[.int .u8 49] 5 (1, 2))).alloc (.cells #[.string ⟨#[97]⟩, .slice (some ⟨w1.heap.size, 0, none⟩) 1 1, .bool false, .string ⟨#[]⟩, .slice none 0 0, .bool false] 38) := ⟨_, rfl⟩
  replace hba : Below w1.heap.size w1 Wa := by rw [hWa]; exact hba
  replace hha : Wa.heap[w1.heap.size + 1]? = some (.cells #[.string ⟨#[97]⟩, .slice (some ⟨w1.heap.size, 0, none⟩) 1 1, .bool false, .string ⟨#[]⟩, .slice none 0 0, .bool false] 38) := by rw [hWa]; exact hha
  replace hsa : Sl Wa (.slice (some ⟨w1.heap.size, 0, none⟩) 1 1) [49] := by rw [hWa]; exact hsa
  rw [← hWa]
  have hz : ∀ x ∈ ([⟨bA, [49], false⟩, ⟨bN, [], false⟩] : List PutD), x.key.size ≤ 140737488351232 ∧ x.val.length ≤ 140737488351232 := by decide
  have hput : PutS B Wa (some ⟨w1.heap.size + 1, 0, none⟩) [⟨bA, [49], false⟩, ⟨bN, [], false⟩] := PutS.own hha (fun j hj => by
    match j, hj with
    | 0, hj => exact ⟨_, rfl, rfl, rfl, hsa, (hz _ (List.getElem_mem hj)).1, (hz _ (List.getElem_mem hj)).2⟩
    | 1, hj => exact ⟨_, rfl, rfl, rfl, Sl.nil _, (hz _ (List.getElem_mem hj)).1, (hz _ (List.getElem_mem hj)).2⟩)
  have hcon := kv_commit (HT1.out.below hba) (some ⟨w1.heap.size + 1, 0, none⟩) 2 [⟨bA, [49], false⟩, ⟨bN, [], false⟩] hput (by decide) (by decide) (by decide) (by decide)
  rw [kn1, if_neg (by decide), if_neg (by decide)] at hcon
  have hcon := Lib.hid hcon
  clear hput hz hsa hha hba hWa HT1
  refine hcon.out.mono ?_
  rintro e w2 ⟨rfl, ht2, -⟩
  have HT2 := Lib.hid ht2
  clear ht2 hcon
  go_wp2_with fail
  obtain ⟨hbb, hhb, hsb⟩ := lit2 w2 49 #[.string ⟨#[97]⟩, .slice (some ⟨w2.heap.size, 0, none⟩) 1 1, .bool true]
  obtain ⟨Wb, hWb⟩ : ∃ W, W = (w2.alloc (.cells #[.int .u8 49] 5 (1, 2))).alloc (.cells #[.string ⟨#[97]⟩, .slice (some ⟨w2.heap.size, 0, none⟩) 1 1, .bool true] 38) := ⟨_, rfl⟩
  replace hbb : Below w2.heap.size w2 Wb := by rw [hWb]; exact hbb
  replace hhb : Wb.heap[w2.heap.size + 1]? = some (.cells #[.string ⟨#[97]⟩, .slice (some ⟨w2.heap.size, 0, none⟩) 1 1, .bool true] 38) := by rw [hWb]; exact hhb
  replace hsb : Sl Wb (.slice (some ⟨w2.heap.size, 0, none⟩) 1 1) [49] := by rw [hWb]; exact hsb
  rw [← hWb]
  have hz : ∀ x ∈ ([⟨bA, [49], true⟩] : List PutD), x.key.size ≤ 140737488351232 ∧ x.val.length ≤ 140737488351232 := by decide
  have hput : PutS B Wb (some ⟨w2.heap.size + 1, 0, none⟩) [⟨bA, [49], true⟩] := PutS.own hhb (fun j hj => by
    match j, hj with
    | 0, hj => exact ⟨_, rfl, rfl, rfl, hsb, (hz _ (List.getElem_mem hj)).1, (hz _ (List.getElem_mem hj)).2⟩)
  have hcon := kv_commit (HT2.out.below hbb) (some ⟨w2.heap.size + 1, 0, none⟩) 1 [⟨bA, [49], true⟩] hput (by decide) (by decide) (by decide) (by decide)
  rw [kn2, if_neg (by decide), if_neg (by decide)] at hcon
  have hcon := Lib.hid hcon
  clear hput hz hsb hhb hbb hWb HT2
  refine hcon.out.mono ?_
  rintro e w3 ⟨rfl, ht3, -⟩
  have HT3 := Lib.hid ht3
  clear ht3 hcon
  go_wp2_with fail
  obtain ⟨hbc, hhc, hsc⟩ := lit2 w3 49 #[.string ⟨#[97]⟩, .slice (some ⟨w3.heap.size, 0, none⟩) 1 1, .bool false, .string ⟨#[97]⟩, .slice none 0 0, .bool true, .string ⟨#[122]⟩, .slice none 0 0, .bool true]
  obtain ⟨Wc, hWc⟩ : ∃ W, W = (w3.alloc (.cells #[.int .u8 49] 5 (1, 2))).alloc (.cells #[.string ⟨#[97]⟩, .slice (some ⟨w3.heap.size, 0, none⟩) 1 1, .bool false, .string ⟨#[97]⟩, .slice none 0 0, .bool true, .string ⟨#[122]⟩, .slice none 0 0, .bool true] 38) := ⟨_, rfl⟩
  replace hbc : Below w3.heap.size w3 Wc := by rw [hWc]; exact hbc
  replace hhc : Wc.heap[w3.heap.size + 1]? = some (.cells #[.string ⟨#[97]⟩, .slice (some ⟨w3.heap.size, 0, none⟩) 1 1, .bool false, .string ⟨#[97]⟩, .slice none 0 0, .bool true, .string ⟨#[122]⟩, .slice none 0 0, .bool true] 38) := by rw [hWc]; exact hhc
  replace hsc : Sl Wc (.slice (some ⟨w3.heap.size, 0, none⟩) 1 1) [49] := by rw [hWc]; exact hsc
  rw [← hWc]
  have hz : ∀ x ∈ ([⟨bA, [49], false⟩, ⟨bA, [], true⟩, ⟨bZ, [], true⟩] : List PutD), x.key.size ≤ 140737488351232 ∧ x.val.length ≤ 140737488351232 := by decide
  have hput : PutS B Wc (some ⟨w3.heap.size + 1, 0, none⟩) [⟨bA, [49], false⟩, ⟨bA, [], true⟩, ⟨bZ, [], true⟩] := PutS.own hhc (fun j hj => by
    match j, hj with
    | 0, hj => exact ⟨_, rfl, rfl, rfl, hsc, (hz _ (List.getElem_mem hj)).1, (hz _ (List.getElem_mem hj)).2⟩
    | 1, hj => exact ⟨_, rfl, rfl, rfl, Sl.nil _, (hz _ (List.getElem_mem hj)).1, (hz _ (List.getElem_mem hj)).2⟩
    | 2, hj => exact ⟨_, rfl, rfl, rfl, Sl.nil _, (hz _ (List.getElem_mem hj)).1, (hz _ (List.getElem_mem hj)).2⟩)
  have hcon := kv_commit (HT3.out.below hbc) (some ⟨w3.heap.size + 1, 0, none⟩) 3 [⟨bA, [49], false⟩, ⟨bA, [], true⟩, ⟨bZ, [], true⟩] hput (by decide) (by decide) (by decide) (by decide)
  rw [kn3, if_pos rfl, if_pos rfl, kn3L] at hcon
  have hcon := Lib.hid hcon
  clear hput hz hsc hhc hbc hWc HT3
  refine hcon.out.mono ?_
  rintro e w4 ⟨rfl, ht4, -⟩
  have HT4 := Lib.hid ht4
  clear ht4 hcon
  go_wp2_with fail
  refine (kv_len HT4.out).mono ?_
  rintro e w4 ⟨rfl, rfl⟩
  go_wp2_with fail
  obtain ⟨hbd, hhd, hsd⟩ := lit2 w4 51 #[.string ⟨#[98]⟩, .slice none 0 0, .bool false, .string ⟨#[99]⟩, .slice (some ⟨w4.heap.size, 0, none⟩) 1 1, .bool false]
  obtain ⟨Wd, hWd⟩ : ∃ W, W = (w4.alloc (.cells #[.int .u8 51] 5 (1, 2))).alloc (.cells #[.string ⟨#[98]⟩, .slice none 0 0, .bool false, .string ⟨#[99]⟩, .slice (some ⟨w4.heap.size, 0, none⟩) 1 1, .bool false] 38) := ⟨_, rfl⟩
  replace hbd : Below w4.heap.size w4 Wd := by rw [hWd]; exact hbd
  replace hhd : Wd.heap[w4.heap.size + 1]? = some (.cells #[.string ⟨#[98]⟩, .slice none 0 0, .bool false, .string ⟨#[99]⟩, .slice (some ⟨w4.heap.size, 0, none⟩) 1 1, .bool false] 38) := by rw [hWd]; exact hhd
  replace hsd : Sl Wd (.slice (some ⟨w4.heap.size, 0, none⟩) 1 1) [51] := by rw [hWd]; exact hsd
  rw [← hWd]
  have hz : ∀ x ∈ ([⟨bB, [], false⟩, ⟨bC, [51], false⟩] : List PutD), x.key.size ≤ 140737488351232 ∧ x.val.length ≤ 140737488351232 := by decide
  have hput : PutS B Wd (some ⟨w4.heap.size + 1, 0, none⟩) [⟨bB, [], false⟩, ⟨bC, [51], false⟩] := PutS.own hhd (fun j hj => by
    match j, hj with
    | 0, hj => exact ⟨_, rfl, rfl, rfl, Sl.nil _, (hz _ (List.getElem_mem hj)).1, (hz _ (List.getElem_mem hj)).2⟩
    | 1, hj => exact ⟨_, rfl, rfl, rfl, hsd, (hz _ (List.getElem_mem hj)).1, (hz _ (List.getElem_mem hj)).2⟩)
  have hcon := kv_commit (HT4.out.below hbd) (some ⟨w4.heap.size + 1, 0, none⟩) 2 [⟨bB, [], false⟩, ⟨bC, [51], false⟩] hput (by decide) (by decide) (by decide) (by decide)
  rw [kn4, if_pos rfl, if_pos rfl, kn4L] at hcon
  have hcon := Lib.hid hcon
  clear hput hz hsd hhd hbd hWd HT4
  refine hcon.out.mono ?_
  rintro e w5 ⟨rfl, ht5, -⟩
  have HT5 := Lib.hid ht5
  clear ht5 hcon
  go_wp2_with fail
  obtain ⟨We, hWe⟩ : ∃ W, W = w5.alloc (.cells #[.int .u8 2] 5) := ⟨_, rfl⟩
  have hrde : Rd We (some ⟨w5.heap.size, 0, none⟩) [2] := by rw [hWe]; exact rd_lit w5 [2] _ rfl (by decide)
  have hbe : Below w5.heap.size w5 We := by rw [hWe]; exact (Below.refl _ w5).alloc (Nat.le_refl _) _
  rw [← hWe]
  have hcon := Lib.hid (kv_decode We (some ⟨w5.heap.size, 0, none⟩) 1 [2] hrde (by decide) (by decide))
  have HT5a := Lib.hid (HT5.out.below hbe)
  clear hrde hbe hWe HT5
  refine hcon.out.mono ?_
  rintro e w6 ⟨hb6, (⟨ys, v6, hd6, rfl, hpr6⟩ | ⟨hd6, rfl⟩)⟩
  · rw [kn8] at hd6
    cases hd6
  have HT6 := Lib.hid (HT5a.out.below hb6)
  clear hb6 hd6 hcon HT5a
  go_wp2_with fail
  obtain ⟨Wf, hWf⟩ : ∃ W, W = w6.alloc (.cells #[.int .u8 0, .int .u8 0, .int .u8 1, .int .u8 97, .int .u8 1, .int .u8 0, .int .u8 1, .int .u8 98, .int .u8 0, .int .u8 0, .int .u8 0, .int .u8 1, .int .u8 120] 5) := ⟨_, rfl⟩
  have hrdf : Rd Wf (some ⟨w6.heap.size, 0, none⟩) [0, 0, 1, 97, 1, 0, 1, 98, 0, 0, 0, 1, 120] := by rw [hWf]; exact rd_lit w6 [0, 0, 1, 97, 1, 0, 1, 98, 0, 0, 0, 1, 120] _ rfl (by decide)
  have hbf : Below w6.heap.size w6 Wf := by rw [hWf]; exact (Below.refl _ w6).alloc (Nat.le_refl _) _
  rw [← hWf]
  have hcon := Lib.hid (kv_decode Wf (some ⟨w6.heap.size, 0, none⟩) 13 [0, 0, 1, 97, 1, 0, 1, 98, 0, 0, 0, 1, 120] hrdf (by decide) (by decide))
  have HT6a := Lib.hid (HT6.out.below hbf)
  clear hrdf hbf hWf HT6
  refine hcon.out.mono ?_
  rintro e w7 ⟨hb7, (⟨ys, v7, hd7, rfl, hpr7⟩ | ⟨hd7, rfl⟩)⟩
  case inr => rw [kn9] at hd7; cases hd7
  rw [kn9] at hd7
  injection hd7 with hd7
  subst hd7
  obtain ⟨g7, c7, rfl, hc7, hat7⟩ := hpr7.at_ (by decide)
  obtain ⟨_, _, _, z0, _⟩ := hat7 0 (by decide)
  obtain ⟨vb7, _, z1, _, z2⟩ := hat7 1 (by decide)
  obtain ⟨A7, d7, rfl, _, _⟩ := z2.rd
  have HE7 : Hid (w7.cell? ⟨g7, 2, none⟩ = some (.bool true) ∧ w7.cell? ⟨g7, 4, none⟩ = some (.slice A7 1 d7) ∧ Sl w7 (.slice A7 1 d7) [120]) := Lib.hid ⟨z0, z1, z2⟩
  have HT7 := Lib.hid (HT6a.out.below hb7)
  replace hc7 : 2 ≤ c7 := hc7
  clear hb7 hcon HT6a hpr7 hat7 z0 z1 z2
  go_wp2_with fail
  obtain ⟨Wg, hWg⟩ : ∃ W, W = w7.alloc (.cells #[.int .u8 0, .int .u8 0, .int .u8 1, .int .u8 97] 5) := ⟨_, rfl⟩
  have hrdg : Rd Wg (some ⟨w7.heap.size, 0, none⟩) [0, 0, 1, 97] := by rw [hWg]; exact rd_lit w7 [0, 0, 1, 97] _ rfl (by decide)
  have hbg : Below w7.heap.size w7 Wg := by rw [hWg]; exact (Below.refl _ w7).alloc (Nat.le_refl _) _
  rw [← hWg]
  have hcon := Lib.hid (kv_load Wg (some ⟨w7.heap.size, 0, none⟩) 4 [0, 0, 1, 97] hrdg (by decide) (by decide))
  have HT7a := Lib.hid (HT7.out.below hbg)
  have HE7a : Hid (Below w7.heap.size w7 Wg) := Lib.hid hbg
  clear hrdg hbg hWg HT7
  refine hcon.out.mono ?_
  rintro e w8 ⟨hb8, (⟨ys, B8, g8, wq8, hd8, hok8, rfl, _, _⟩ | ⟨hd8, rfl⟩)⟩
  · rw [kn10] at hd8
    injection hd8 with hd8
    subst hd8
    exact absurd (hok8 0 (by decide) (by decide)).1 (by decide)
  have HT8 := Lib.hid (HT7a.out.below hb8)
  have HB8 := Lib.hid (below_then HE7a.out HE7a.out.size hb8)
  clear hb8 hd8 hcon HT7a HE7a
  go_wp2_with fail
  refine (kv_bytes HT8.out (by decide)).mono ?_
  rintro e w9 ⟨v9, rfl, hs9, hb9⟩
  obtain ⟨A9, c9, rfl, hc9, hrd9⟩ := hs9.rd
  have hd9 := decB_bytes knL knK
  have hld := Lib.hid (kv_load w9 A9 c9 (bytesB knL) hrd9 hc9 (by decide))
  have HD9 := Lib.hid hd9
  have HT9 := Lib.hid (HT8.out.below hb9); have HB9 := Lib.hid (below_then HB8.out HB8.out.size hb9)
  obtain ⟨nb, hnb⟩ : ∃ nb, nb = (bytesB knL).length := ⟨_, rfl⟩
  rw [← hnb] at hld hc9 ⊢
  clear hs9 hrd9 hb9 hd9 HT8 HB8 hnb
  go_wp2_with fail
  refine hld.out.mono ?_
  rintro e w10 ⟨hb10, (⟨ys, B3, g3, wq, hd10, hok, rfl, ht10, hB3⟩ | ⟨hd10, rfl⟩)⟩
  case inr => exact absurd (okTo_rise knL knR) (hd10 _ HD9.out)
  rw [HD9.out] at hd10
  injection hd10 with hd10
  subst hd10
  rw [all_rise knL knR] at ht10
  have HT10 := Lib.hid (HT9.out.below hb10); have HU10 := Lib.hid ht10
  have HB10 := Lib.hid (below_then HB9.out HB9.out.size hb10)
  clear hb10 hok ht10 hB3 HT9 HB9 hld
  have y0 : w10.cell? ⟨g7, 2, none⟩ = some (.bool true) := cell_below HB10.out HE7.out.1
  have y1 : w10.cell? ⟨g7, 4, none⟩ = some (.slice A7 1 d7) := cell_below HB10.out HE7.out.2.1
  have ys : (convert 32 9 (.slice A7 1 d7)).run Try.prog w10 = .ok (.string ⟨#[120]⟩) w10 := (HE7.out.2.2.below HB10.out).str
  go_wp2_with fail
  refine (kv_len HU10.out).mono ?_
  rintro e w11 ⟨rfl, rfl⟩
  go_wp2_with fail
  refine (kv_range HT10.out KvMath.e0 KvMath.e0 1 (by decide)).mono ?_
  rintro e w12 ⟨v12, rfl, hr12, hb12⟩
  obtain ⟨A12, c12, rfl, hc12, _⟩ := hr12.rd
  have HT12 := Lib.hid (HT10.out.below hb12); have HB12 := Lib.hid hb12
  rw [kn5] at hc12 ⊢
  clear hr12 hb12 y0 y1 ys
  go_wp2_with fail
  refine (kv_range HT12.out KvMath.e0 KvMath.e0 0 (by decide)).mono ?_
  rintro e w13 ⟨v13, rfl, hr13, hb13⟩
  obtain ⟨A13, c13, rfl, hc13, _⟩ := hr13.rd
  have HT13 := Lib.hid (HT12.out.below hb13)
  rw [kn6] at hc13 ⊢
  clear hr13 hb13
  go_wp2_with fail
  refine (kv_range HT13.out bC KvMath.e0 9 (by decide)).mono ?_
  rintro e w14 ⟨v14, rfl, hr14, hb14⟩
  obtain ⟨A14, c14, rfl, hc14, _⟩ := hr14.rd
  have HT14 := Lib.hid (HT13.out.below hb14)
  rw [kn7] at hc14 ⊢
  clear hr14 hb14
  go_wp2_with fail
  obtain ⟨Wz, hWz⟩ : ∃ W, W = w14.alloc (.cells #[.string ⟨#[]⟩, .slice none 0 0, .bool false] 38) := ⟨_, rfl⟩
  have hbz : Below w14.heap.size w14 Wz := by rw [hWz]; exact (Below.refl _ w14).alloc (Nat.le_refl _) _
  have hhz : Wz.heap[w14.heap.size]? = some (.cells #[.string ⟨#[]⟩, .slice none 0 0, .bool false] 38) := by rw [hWz]; exact heap_new w14 _ _ rfl
  rw [← hWz]
  have hput : PutS B Wz (some ⟨w14.heap.size, 0, none⟩) [⟨bN, [], false⟩] := PutS.own hhz (fun j hj => by
    match j, hj with
    | 0, hj => exact ⟨_, rfl, rfl, rfl, Sl.nil _, (by decide : bN.size ≤ 140737488351232), (by decide : ([] : List UInt8).length ≤ 140737488351232)⟩)
  have henc := kv_encode Wz (some ⟨w14.heap.size, 0, none⟩) 1 [⟨bN, [], false⟩] hput.row (by decide) (by decide)
  rw [show ([⟨bN, [], false⟩] : List PutD).all PutD.good = false by decide, if_neg (by decide)] at henc
  have henc := Lib.hid henc
  have HTz := Lib.hid (HT14.out.below hbz)
  clear hput hhz hbz hWz
  refine henc.out.mono ?_
  rintro e w15 ⟨v15, rfl, ho15, hb15⟩
  obtain ⟨A15, c15, rfl, _⟩ := ho15.rd
  have HBF := Lib.hid (HB0.out.trans ((HTz.out.below hb15).bel.mono HWB.out))
  clear ho15 hb15 henc HTz
  go_wp2
  go_ret
  exact ⟨rfl, HBF.out⟩
end Go.Proofs.Ytgaccogekmaijaa
