/- RecKnown: the walk of the law, and Size. -/
import Derived.Test.YthhdkhgafeaehaaRecTurned
import Derived.Test.YthhdkhgafeaehaaRecRow
namespace Go.Proofs.Ythhdkhgafeaehaa
open Go.RowKit
set_option linter.unusedVariables false
set_option linter.unusedSimpArgs false
def sizeI (num : Int) (m : Nat) : Int := if 1 ≤ num ∧ m ≤ 200000 then 16 + m else 0
theorem size_any (num : Int) (B : Option Addr) (m c : Nat) (w : World) (wf : (Lit.int .i64 num).wf = true) (hm : m ≤ 140737488351232) :
    Calls Try.prog 22 #[.agg #[.int .i64 num, .slice B m c]] w fun e w' => e = .returned (.int .i64 (sizeI num m)) ∧ Below w.heap.size w w' := by
  obtain ⟨W0, hW0, hB0, hs0, hbx⟩ := box2 w (.int .i64 num) (.slice B m c) 32
  have h0 := hbx W0 (Below.refl _ _)
  have hgo := good_any num B m c W0 wf hm
  unfold sizeI
  by_cases h : 1 ≤ num ∧ m ≤ 200000
  · rw [decide_eq_true h] at hgo
    rw [if_pos h]
    clear h
    go_enter Try.func22, Try.ntmps22
    go_wp2_with fail
    rw [← hW0]
    clear hW0
    refine hgo.mono ?_
    rintro e w1 ⟨rfl, hb1⟩
    have hx1 := hbx w1 hb1
    have HB1 := Lib.hid (below_then hB0 (by omega) hb1)
    have hw : IntKind.i64.wrap (16 + (m : Int)) = 16 + m := by rw [IntKind.wrap_i64]; omega
    have hw2 : IntKind.i64.wrap ((m : Int) + 16) = 16 + m := by rw [IntKind.wrap_i64]; omega
    clear hb1 hbx hgo
    go_wp2
    go_ret
    exact ⟨rfl, HB1.out⟩
  · rw [decide_eq_false h] at hgo
    rw [if_neg h]
    clear h
    go_enter Try.func22, Try.ntmps22
    go_wp2_with fail
    rw [← hW0]
    clear hW0
    refine hgo.mono ?_
    rintro e w1 ⟨rfl, hb1⟩
    have HB1 := Lib.hid (below_then hB0 (by omega) hb1)
    clear hb1 hbx hgo
    go_wp2
    go_ret
    exact ⟨rfl, HB1.out⟩
/-- Get, as far as its error goes -/
theorem get_err (w : World) (A : Option Addr) (n c : Nat) (l : List UInt8) (E : Nat) (hr : Rd w A l) (hn : l.length = n) (hc : n ≤ c) (hl : n ≤ 140737488351232) (hE : (RecMath.get l).err = E) :
    Calls Try.prog 17 #[.slice A n c] w fun e w' => ∃ num A' m c' k, e = .returned (.tuple #[.agg #[.int .i64 num, .slice A' m c'], .int .i64 k, .int .i64 E]) ∧ Below w.heap.size w w' := by
  subst hn
  have h := get_any w A c l hr hc hl
  unfold GotIs at h
  refine h.mono ?_
  rintro e w' ⟨v, rfl, hs, hb⟩
  obtain ⟨A', c', rfl, _, _⟩ := hs.rd
  exact ⟨_, A', _, c', _, by rw [hE], hb⟩
theorem inc_ne (b : UInt8) : b + 1 ≠ b := by
  intro h
  have h1 : (b + 1).toNat = (b.toNat + 1) % 256 := by simp [UInt8.toNat_add]
  rw [h] at h1
  have := b.toNat_lt
  omega
theorem inc8 (b : UInt8) : ((b.toNat : Int) + 1) % 256 = ((b + 1).toNat : Nat) := by
  have h : (b + 1).toNat = (b.toNat + 1) % 256 := by simp [UInt8.toNat_add]
  rw [h]; omega
set_option maxRecDepth 20000 in
set_option maxHeartbeats 4000000 in
theorem RecKnown_walk (w : World) : Calls Try.prog 9 #[] w fun e w' => e = .returned (.bool true) ∧ Below w.heap.size w w' := by
  have kc := conv_const Try.underlying22 Try.underlying5
  go_enter Try.func9, Try.ntmps9
  go_wp2_with fail
  refine (awake5_any _).mono ?_
  rintro e w1 ⟨rfl, hb1⟩
  have HB1 := Lib.hid hb1
  clear hb1
  go_wp2_with fail
  obtain ⟨R, hR⟩ : ∃ R, R = RecMath.recB 7 [] := ⟨_, rfl⟩
  have hRl : R.length = 16 := by rw [hR]; exact RecMath.recB_length _ _
  have hscanR : RecMath.scanAll R 6 = ([], 0) := by
    have hg := RecMath.get_recB 7 [] [] (by decide) (by decide) (by decide)
    rw [List.append_nil, ← hR] at hg
    exact RecMath.scan_stop _ _ _ (.inr (by rw [hg]; decide))
  have hturn := fun x h1 h2 => RecMath.get_turned 7 [] 15 x (by decide) h1 h2 (by decide)
  rw [← hR] at hturn
  have eP : putB [120] 7 [] = 120 :: R := by unfold putB; rw [if_pos (by decide), hR]; rfl
  have hrx : Rd (w1.alloc (.cells #[.int .u8 120] 5 (1, 2))) (some ⟨w1.heap.size, 0, none⟩) [120] := Rd.of_block (t := 5) (fr := (1, 2)) (heap_new w1 _ _ rfl) (by decide)
  have hp := put_any (w1.alloc (.cells #[.int .u8 120] 5 (1, 2))) (some ⟨w1.heap.size, 0, none⟩) 1 [120] 7 none 0 [] hrx (by decide) (Rd.nil _ _) (by decide) (by decide)
  rw [eP, show putE 7 ([] : List UInt8).length = 0 by unfold putE; rw [if_pos (by decide)]] at hp
  refine Calls.mono hp ?_
  rintro e w2 ⟨v2, rfl, ho2, hb2⟩
  have HB2 := Lib.hid (below_then (HB1.out.alloc HB1.out.size _) (Nat.le_trans HB1.out.size (by simp)) hb2)
  obtain ⟨g, c, rfl, hg2, hc2, hm2⟩ := Ob.mb ho2 (by simp)
  have hl17 : (120 :: R).length = 17 := by simp [hRl]
  rw [hl17] at hc2 ⊢
  have hg3 : w.heap.size ≤ g := Nat.le_trans (Nat.le_trans HB1.out.size (by simp)) hg2
  have HM2 := Lib.hid hm2
  have HRl := Lib.hid hRl; have HScan := Lib.hid hscanR; have HTurn := Lib.hid hturn
  have b1 : ¬ c = 1 := by omega
  have b2 : (17 : Int) ≤ c := by omega
  have b3 : (1 : Int) ≤ c := by omega
  clear hp hrx eP ho2 hm2 hb2 hR hRl hscanR hturn hl17
  go_wp2_with fail
  have hp := put_any w2 none 0 [] 0 none 0 [] (Rd.nil _ _) (by decide) (Rd.nil _ _) (by decide) (by decide)
  rw [show putB [] 0 [] = [] by unfold putB; rw [if_neg (by decide)], show putE 0 ([] : List UInt8).length = 1 by unfold putE; rw [if_neg (by decide)]] at hp
  refine Calls.mono hp ?_
  rintro e w3 ⟨v3, rfl, ho3, hb3⟩
  have HB3 := Lib.hid (below_then HB2.out HB2.out.size hb3)
  have HM3 := Lib.hid (HM2.out.below hb3)
  clear hp ho3 hb3 HM2
  go_wp2_with fail
  refine Calls.mono (get_err w3 none 0 0 [] 8 (Rd.nil _ _) rfl (by decide) (by decide) (by decide)) ?_
  rintro e w4 ⟨n4, A4, m4, c4, k4, rfl, hb4⟩
  have HB4 := Lib.hid (below_then HB3.out HB3.out.size hb4)
  have HM4 := Lib.hid (HM3.out.below hb4)
  clear hb4 HM3
  go_wp2_with fail
  have q1 : Rd ((w4.alloc (.cells #[.int .i64 n4, .slice A4 m4 c4] 32)).alloc (.cells #[.int .u8 255, .int .u8 0, .int .u8 0, .int .u8 0] 5)) (some ⟨w4.heap.size + 1, 0, none⟩) [255, 0, 0, 0] := Rd.of_block (t := 5) (fr := (0, 0)) (heap_new _ _ _ (by simp)) (by decide)
  refine Calls.mono (get_err _ _ 4 4 [255, 0, 0, 0] 3 q1 rfl (by decide) (by decide) (by decide)) ?_
  rintro e w5 ⟨n5, A5, m5, c5, k5, rfl, hb5⟩
  have h45 : Below w4.heap.size w4 w5 := below_add (((Below.refl _ w4).alloc (Nat.le_refl _) _).alloc (by simp) _) hb5
  have HB5 := Lib.hid (below_then HB4.out HB4.out.size h45)
  have HM5 := Lib.hid (HM4.out.below h45)
  clear hb5 HM4 h45 q1
  go_wp2_with fail
  have q1 : Rd ((w5.alloc (.cells #[.int .i64 n5, .slice A5 m5 c5] 32)).alloc (.cells #[.int .u8 0, .int .u8 0, .int .u8 0, .int .u8 0] 5)) (some ⟨w5.heap.size + 1, 0, none⟩) [0, 0, 0, 0] := Rd.of_block (t := 5) (fr := (0, 0)) (heap_new _ _ _ (by simp)) (by decide)
  refine Calls.mono (get_err _ _ 4 4 [0, 0, 0, 0] 8 q1 rfl (by decide) (by decide) (by decide)) ?_
  rintro e w6 ⟨n6, A6, m6, c6, k6, rfl, hb6⟩
  have h56 : Below w5.heap.size w5 w6 := below_add (((Below.refl _ w5).alloc (Nat.le_refl _) _).alloc (by simp) _) hb6
  have HB6 := Lib.hid (below_then HB5.out HB5.out.size h56)
  have HM6 := Lib.hid (HM5.out.below h56)
  clear hb6 HM5 h56 q1
  have ht := Try.underlying22
  have hi := info_u8
  obtain ⟨W6, hW6, hB6, hs6, hbx6⟩ := box2 w6 (.int .i64 n6) (.slice A6 m6 c6) 32
  have HM6b := Lib.hid (HM6.out.below hB6)
  have HB6b := Lib.hid (below_then HB6.out HB6.out.size hB6)
  clear hbx6 hs6
  subst hW6
  have hrR : Rd (w6.alloc (.cells #[.int .i64 n6, .slice A6 m6 c6] 32)) (some ⟨g, 1, none⟩) R := HM6b.out.rd.drop 1
  have hb6x : Below w6.heap.size w6 ((w6.alloc (.cells #[.int .i64 n6, .slice A6 m6 c6] 32)).alloc (.cells #[] 5)) := ((Below.refl _ w6).alloc (Nat.le_refl _) _).alloc (by simp) _
  have hE : Hid (Ob ((w6.alloc (.cells #[.int .i64 n6, .slice A6 m6 c6] 32)).alloc (.cells #[] 5)) w6.heap.size 5 (.slice (some ⟨w6.heap.size + 1, 0, none⟩) 0 0) []) := Lib.hid (by
    have h := Ob.empty (w6.alloc (.cells #[.int .i64 n6, .slice A6 m6 c6] 32)) w6.heap.size 5 (by simp)
    simpa using h)
  have HE6 := Lib.hid hb6x
  clear hb6x
  go_wp2_with (at_builtin; go_loud (refine wpList_appn (w0 := w6) w6.heap.size rfl (.tmp 54) (.tmp 56) 22 5 rfl ht hi _ [] R (some ⟨g, 1, none⟩) 16 (c - 1) rfl rfl HRl.out hE.out (hrR.alloc _) HE6.out (by simp; omega) (by simp) ?_))
  intro v7 w7 ho7 hb7 _ _
  obtain ⟨gy, cy, rfl, hgy, hcy, hmy⟩ := Ob.mb ho7 (by simp [HRl.out])
  simp only [List.nil_append, HRl.out] at hcy hmy ⊢
  have HB7 := Lib.hid (below_then HB6.out HB6.out.size hb7)
  have hgy2 : w.heap.size ≤ gy := Nat.le_trans HB6.out.size hgy
  have HM7 := Lib.hid (HM6.out.below hb7)
  have hGy := Lib.hid hgy
  obtain ⟨hcg, hfg⟩ := hmy.cell 15 (by rw [HRl.out]; decide)
  obtain ⟨b, hbb⟩ : ∃ b, b = R[15]'(by rw [HRl.out]; decide) := ⟨_, rfl⟩
  rw [← hbb] at hcg
  have hi8 := inc8 b
  have hne := inc_ne b
  generalize b + 1 = b' at hi8 hne
  have hnew := hmy.set 15 b'
  have hte := HTurn.out b' (by rw [HRl.out]; decide) (by rw [← hbb]; exact hne)
  obtain ⟨B2, hB2⟩ : ∃ B2, B2 = R.set 15 b' := ⟨_, rfl⟩
  rw [← hB2] at hnew hte
  have hl2 : B2.length = 16 := by rw [hB2, List.length_set]; exact HRl.out
  have HNew := Lib.hid hnew; have HTe := Lib.hid hte; have HL2 := Lib.hid hl2
  have HBy := Lib.hid hb7
  clear hnew hte hB2 hl2 hbb ho7 hb7 hmy hrR hE hgy
  go_wp2_with fail
  refine Calls.mono (get_err _ _ 16 cy B2 3 HNew.out.rd HL2.out hcy (by decide) HTe.out) ?_
  rintro e w8 ⟨n8, A8, m8, c8, k8, rfl, hb8⟩
  have h68 : Below w6.heap.size w6 (w8.alloc (.cells #[.int .i64 n8, .slice A8 m8 c8] 32)) := by
    have h := HBy.out.setCell (p := ⟨gy, 15, none⟩) hGy.out (.int .u8 b'.toNat)
    have h2 := below_then h h.size hb8
    exact h2.alloc h2.size _
  have HB8 := Lib.hid (below_then HB6.out HB6.out.size h68)
  have HM8 := Lib.hid (HM6.out.below h68)
  have hrR : Rd _ (some ⟨g, 1, none⟩) R := HM8.out.rd.drop 1
  clear hb8 h68 hcg hfg hi8 hcy
  go_wp2_with fail
  have hsc := scan_any _ (some ⟨g, 1, none⟩) (c - 1) R 6 hrR (by rw [HRl.out]; omega) (by rw [HRl.out]; decide) (by decide)
  rw [HScan.out, HRl.out] at hsc
  refine Calls.mono hsc ?_
  rintro e w9 ⟨v9, rfl, hs9, hb9⟩
  obtain ⟨A9, c9, rfl, _, _⟩ := hs9.rd
  have HB9 := Lib.hid (below_then HB8.out HB8.out.size hb9)
  have hM9 := HM8.out.below hb9
  have hcb : w9.cell? ⟨g, 0, none⟩ = some (.int .u8 120) := (hM9.cell 0 (by simp)).1
  clear hs9 hb9 hM9 hrR hsc
  go_wp2_with fail
  refine Calls.mono (size_any 1 _ 3 3 _ (by decide) (by decide)) ?_
  rintro e w10 ⟨rfl, hb10⟩
  have HB10 := Lib.hid (below_then (HB9.out.alloc HB9.out.size _) (Nat.le_trans HB9.out.size (by simp)) hb10)
  rw [show sizeI 1 3 = 19 by decide]
  clear hb10 hcb
  go_wp2_with fail
  refine Calls.mono (size_any 0 _ 0 0 _ (by decide) (by decide)) ?_
  rintro e w11 ⟨rfl, hb11⟩
  have HB11 := Lib.hid (below_then HB10.out HB10.out.size hb11)
  rw [show sizeI 0 0 = 0 by decide]
  clear hb11
  go_wp2_with fail
  go_ret
  exact ⟨rfl, HB11.out⟩
end Go.Proofs.Ythhdkhgafeaehaa
