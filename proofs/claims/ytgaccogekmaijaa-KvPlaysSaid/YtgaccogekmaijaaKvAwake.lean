/- kv: the law's awake and light. -/
import Derived.Test.YtgaccogekmaijaaKvRange
namespace Go.Proofs.Ytgaccogekmaijaa
open Go.RowKit
set_option linter.unusedVariables false
set_option linter.unusedSimpArgs false
attribute [local irreducible] wpR relOp
theorem Sl.str {w : World} {A : Option Addr} {n c : Nat} {l : List UInt8} (h : Sl w (.slice A n c) l) : (convert 32 9 (.slice A n c)).run Try.prog w = .ok (.string ⟨l.toArray⟩) w := by
  obtain ⟨A', c', e, _, hr⟩ := h.rd
  injection e with e1 e2 e3
  subst e1
  exact hr.str n c e2.symm
/-- changes in a literal of the law's -/
theorem PutS.own {B gl : Nat} {w : World} {cs : Array Value} {fr : Nat × Nat} {xs : List PutD} (h : w.heap[gl]? = some (.cells cs 38 fr)) (hc : ∀ j, (hj : j < xs.length) → ∃ v, cs[j * 3]? = some (.string xs[j].key) ∧ cs[j * 3 + 1]? = some v ∧ cs[j * 3 + 2]? = some (.bool xs[j].gone) ∧ Sl w v xs[j].val ∧ xs[j].key.size ≤ 140737488351232 ∧ xs[j].val.length ≤ 140737488351232) : PutS B w (some ⟨gl, 0, none⟩) xs := fun hp => by
  refine ⟨_, rfl, fun j hj => ?_⟩
  obtain ⟨v, h1, h2, h3, h4, h5, h6⟩ := hc j hj
  obtain ⟨A, c, rfl, h7, h8, h9⟩ := h4
  refine ⟨A, c, h7, h5, h6, fun W hW => ?_⟩
  have hh := hW.2 _ _ _ _ (by decide) (by decide) h
  have ha : (⟨gl, 0, none⟩ : Addr).add (j * 3) = ⟨gl, j * 3, none⟩ := by unfold Addr.add; split <;> simp_all
  rw [ha]
  refine ⟨by rw [cell_of_row _ gl _ _ _ _ hh]; exact h1, by rw [cell_of_row _ gl _ _ _ _ hh]; exact h2, by rw [cell_of_row _ gl _ _ _ _ hh]; exact h3, ?_⟩
  obtain ⟨A', c', e, _, hr⟩ := (hW.sl (⟨A, c, rfl, h7, h8, h9⟩ : Sl w (.slice A xs[j].val.length c) xs[j].val)).rd
  injection e with e1
  subst e1
  exact hr
/-- a byte row of a literal -/
theorem Sl.lit1 {w : World} {gl : Nat} {fr : Nat × Nat} {b : UInt8} (h : w.heap[gl]? = some (.cells #[.int .u8 (b.toNat : Int)] 5 fr)) : Sl w (.slice (some ⟨gl, 0, none⟩) 1 1) [b] := by
  refine ⟨_, 1, rfl, Nat.le_refl _, ⟨by simp, fun _ => ⟨_, rfl, fun j hj => ?_⟩⟩, fun a e => ?_⟩
  · have : j = 0 := by simpa using hj
    subst this
    have ha : (⟨gl, 0, none⟩ : Addr).add 0 = ⟨gl, 0, none⟩ := by unfold Addr.add; split <;> simp_all
    rw [ha, cell_of_row _ gl 0 _ _ _ h]
    rfl
  · injection e with e
    subst e
    exact ⟨_, _, h⟩
def bA : ByteArray := ⟨#[97]⟩
def bB : ByteArray := ⟨#[98]⟩
theorem bl_ab : KvMath.bl bA bB = true := by unfold KvMath.bl; rw [Lib.toList_data, Lib.toList_data]; rfl
theorem bl_ba : KvMath.bl bB bA = false := KvMath.bl_asymm bl_ab
theorem awL : KvMath.all [] [(bB, [50], false), (bA, [49], false)] = [(bA, [49]), (bB, [50])] := by
  simp [KvMath.all, KvMath.one, KvMath.low, KvMath.high, bl_ab, bl_ba]
theorem awR : KvMath.range [(bA, [49]), (bB, [50])] bA bB 9 = [(bA, [49])] := by
  have h1 : KvMath.pos [(bA, [49]), (bB, [50])] bA = 0 := by simp [KvMath.pos, KvMath.low, KvMath.bl_irrefl, bl_ba]
  have h2 : bB.size = 1 := rfl
  simp [KvMath.range, h1, KvMath.inR, bl_ab, KvMath.bl_irrefl, h2]
theorem awG : KvMath.get [(bA, [49]), (bB, [50])] bB = some [50] := by
  have h : bA ≠ bB := KvMath.bl_ne bl_ab
  simp [KvMath.get, h]
set_option maxRecDepth 20000 in
set_option maxHeartbeats 2000000 in
theorem awake7_any (w : World) : Calls Try.prog 8 #[] w fun e w' => e = .returned (.bool true) ∧ Below w.heap.size w w' := by
  have kc := conv_const Try.underlying32 Try.underlying5
  go_enter Try.func8, Try.ntmps8
  go_wp2_with fail
  refine (kv_new w).mono ?_
  rintro e w1 ⟨rfl, ht1, hb1⟩
  have HT1 := Lib.hid ht1; have HB1 := Lib.hid hb1
  clear ht1 hb1
  go_wp2_with fail
  obtain ⟨W2, hW2⟩ : ∃ W, W = ((w1.alloc (.cells #[.int .u8 50] 5 (1, 2))).alloc (.cells #[.int .u8 49] 5 (1, 2))).alloc (.cells #[.string ⟨#[98]⟩, .slice (some ⟨w1.heap.size, 0, none⟩) 1 1, .bool false, .string ⟨#[97]⟩, .slice (some ⟨w1.heap.size + 1, 0, none⟩) 1 1, .bool false] 38) := ⟨_, rfl⟩
  rw [← hW2]
  have hb2 : Below w1.heap.size w1 W2 := by rw [hW2]; exact (((Below.refl _ w1).alloc (Nat.le_refl _) _).alloc (by simp) _).alloc (by simp; omega) _
  have hl : W2.heap[w1.heap.size + 1 + 1]? = some (.cells #[.string ⟨#[98]⟩, .slice (some ⟨w1.heap.size, 0, none⟩) 1 1, .bool false, .string ⟨#[97]⟩, .slice (some ⟨w1.heap.size + 1, 0, none⟩) 1 1, .bool false] 38) := by rw [hW2]; exact heap_new _ _ _ (by simp)
  have h5 : Sl W2 (.slice (some ⟨w1.heap.size, 0, none⟩) 1 1) [50] := Sl.lit1 (fr := (1, 2)) (by rw [hW2]; exact heap_old (heap_old (heap_new _ _ _ rfl)))
  have h4 : Sl W2 (.slice (some ⟨w1.heap.size + 1, 0, none⟩) 1 1) [49] := Sl.lit1 (fr := (1, 2)) (by rw [hW2]; exact heap_old (heap_new _ _ _ (by simp)))
  have hput : PutS w.heap.size W2 (some ⟨w1.heap.size + 1 + 1, 0, none⟩) [⟨bB, [50], false⟩, ⟨bA, [49], false⟩] := PutS.own hl (fun j hj => by
    match j, hj with
    | 0, _ => exact ⟨_, rfl, rfl, rfl, h5, (by decide : bB.size ≤ 140737488351232), (by decide : ([50] : List UInt8).length ≤ 140737488351232)⟩
    | 1, _ => exact ⟨_, rfl, rfl, rfl, h4, (by decide : bA.size ≤ 140737488351232), (by decide : ([49] : List UInt8).length ≤ 140737488351232)⟩)
  have hcon := kv_commit (HT1.out.below hb2) (some ⟨w1.heap.size + 1 + 1, 0, none⟩) 2 [⟨bB, [50], false⟩, ⟨bA, [49], false⟩] hput (by decide) (by decide) (by decide) (by decide)
  have hgd : ([⟨bB, [50], false⟩, ⟨bA, [49], false⟩] : List PutD).all PutD.good = true := by decide
  rw [hgd, if_pos rfl, if_pos rfl, show ([⟨bB, [50], false⟩, ⟨bA, [49], false⟩] : List PutD).map PutD.ent = [(bB, [50], false), (bA, [49], false)] from rfl, awL] at hcon
  have hcon := Lib.hid hcon
  have HB2 := Lib.hid (HB1.out.trans (hb2.mono HB1.out.size))
  clear hput h5 h4 hl hb2 hW2 hgd HT1 HB1
  refine hcon.out.mono ?_
  rintro e w3 ⟨rfl, ht3, -⟩
  have HT3 := Lib.hid ht3
  clear ht3 hcon
  go_wp2_with fail
  refine (kv_range HT3.out bA bB 9 (by decide)).mono ?_
  rintro e w4 ⟨v4, rfl, hr4, hb4⟩
  rw [awR] at hr4
  have HT4 := Lib.hid (HT3.out.below hb4)
  obtain ⟨A4, c4, rfl, hc4, hrd4⟩ := hr4.rd
  obtain ⟨g4, vb4, rfl, y0, y1, ys⟩ := hrd4 0 (by decide)
  have HR4 : Hid (w4.cell? ⟨g4, 0, none⟩ = some (.string bA) ∧ w4.cell? ⟨g4, 1, none⟩ = some vb4 ∧ Sl w4 vb4 [49]) := Lib.hid ⟨y0, y1, ys⟩
  clear hb4 hr4 hrd4 y0 y1 ys
  go_wp2_with fail
  refine (kv_get HT4.out bB (by decide)).mono ?_
  rintro e w5 ⟨v5, rfl, hs5, hb5⟩
  rw [awG] at hs5 ⊢
  obtain ⟨A5, c5, rfl, hc5, hrd5⟩ := hs5.rd
  have k5 := hs5.str
  have HT5 := Lib.hid (HT4.out.below hb5)
  obtain ⟨y0, y1, ys⟩ := HR4.out
  replace y0 := cell_below hb5 y0
  replace y1 := cell_below hb5 y1
  replace ys := ys.below hb5
  obtain ⟨A6, c6, rfl, hc6, hrd6⟩ := ys.rd
  have k6 : (convert 32 9 (.slice A6 1 c6)).run Try.prog w5 = .ok (.string ⟨#[49]⟩) w5 := ys.str
  replace k5 : (convert 32 9 (.slice A5 1 c5)).run Try.prog w5 = .ok (.string ⟨#[50]⟩) w5 := k5
  replace y1 : w5.cell? ⟨g4, 1, none⟩ = some (.slice A6 1 c6) := y1
  replace y0 : w5.cell? ⟨g4, 0, none⟩ = some (.string ⟨#[97]⟩) := y0
  replace hc4 : 1 ≤ c4 := hc4
  have hcon := Lib.hid (kv_len HT5.out)
  have HB5 : Hid (Below w.heap.size w w5) := Lib.hid HT5.out.bel
  clear hs5 hb5 ys hrd5 hrd6 HR4
  go_wp2_with fail
  refine hcon.out.mono ?_
  rintro e w6 ⟨rfl, rfl⟩
  go_wp2
  go_ret
  exact ⟨rfl, HB5.out⟩
end Go.Proofs.Ytgaccogekmaijaa
