/- The law WalKnown, walked. -/
import Derived.Test.YtbpecfbliglboaaWgC
namespace WalMath
theorem burn_off {d : DevMath.Dev} (h : d.off = true) : d.burn = d := by
  unfold DevMath.Dev.burn
  rw [if_neg (by rw [h]; simp)]
theorem commitD_off {d : DevMath.Dev} (ws : List (Int × List UInt8)) (H : List UInt8) (h : d.off = true) : commitD d ws H = (d, 7) := by
  unfold commitD
  cases ws with
  | nil =>
    have e : d.flush = (d, 7) := by
      unfold DevMath.Dev.flush
      rw [burn_off h, if_pos h]
    simp only [wrs, e]
    rfl
  | cons r ws =>
    have e : d.write r.1 r.2 = (d, 7) := by
      unfold DevMath.Dev.write
      rw [if_pos h]
    have e2 : wrs d (r :: ws) = (d, 7) := by
      show (if (d.write r.1 r.2).2 = 0 then _ else d.write r.1 r.2) = _
      rw [e]
      rfl
    simp only [e2]
    rfl
end WalMath
namespace Go.Proofs.Ytbpecfbliglboaa
open Go.RowKit
set_option linter.unusedVariables false
set_option linter.unusedSimpArgs false
def sBase : List UInt8 := [98, 97, 115, 101]
def sX : List UInt8 := [120]
def sY : List UInt8 := [121]
theorem kn_fit1 : (WalMath.addB (WalMath.keepX (WalMath.addX WalMath.empty sA) sBase) sX).length ≤ WalMath.room 64 := by
  rw [addB_len]
  decide
theorem kn_fit2 : (WalMath.addB (WalMath.addX (WalMath.keepX (WalMath.addX WalMath.empty sA) sBase) sX) sY).length ≤ WalMath.room 64 := by
  rw [addB_len]
  show (WalMath.addB _ _).length + 16 + _ ≤ _
  rw [addB_len]
  decide
set_option maxRecDepth 20000 in
set_option maxHeartbeats 8000000 in
theorem WalKnown_walk (w : World) : Calls Try.prog 11 #[] w fun e w' => e = .returned (.bool true) ∧ Below w.heap.size w w' := by
  have kc := conv_const Try.underlying33 Try.underlying5
  obtain ⟨Z, hZ⟩ : ∃ Z, Z = bv (List.replicate 200001 0) := ⟨_, rfl⟩
  have HMK : Hid (∀ W : World, (Instr.makeSlice 33 (.int .i64 200001) (.int .i64 200001)).run Try.prog W = .ok (.slice (some ⟨W.heap.size, 0, none⟩) 200001 200001) (W.alloc (.cells Z 5))) := Lib.hid (by rw [hZ]; exact zeros_run 200001 (by decide))
  clear hZ
  go_enter Try.func11, Try.ntmps11
  go_wp2_with fail
  refine (awake6_any w).mono ?_
  rintro e w1 ⟨rfl, hb1⟩
  have HB1 := Lib.hid hb1
  clear hb1
  go_wp2_with fail
  refine (ds_new w1 7 (by decide) (by decide)).mono ?_
  rintro e w2 ⟨g7, rfl, hd2, hb2⟩
  have HO := Lib.hid (wopen_few hd2 rfl (by decide))
  have HB2 := Lib.hid (HB1.out.trans (hb2.mono HB1.out.size))
  clear hd2 hb2
  go_wp2_with fail
  refine HO.out.mono ?_
  rintro e w2 ⟨rfl, rfl⟩
  clear HO
  go_wp2_with fail
  refine (lk_new w2 64 (by decide) (by decide)).mono ?_
  rintro e w3 ⟨g, d3, rfl, hd3, ho3, hf3, -⟩
  have HO := Lib.hid (lk_open hd3 ho3 hf3)
  clear hd3 ho3 hf3
  go_wp2_with fail
  refine HO.out.mono ?_
  rintro e w4 ⟨gl, rfl, hl4, -⟩
  have HL4 := Lib.hid hl4
  clear hl4 HO
  go_wp2_with fail
  refine (lk_add (m := 1) (body := sA) (HL4.out.below (below_new w4 _)) (sl_new w4 sA (1, 2) (by decide)).rds rfl (by decide) aw_fit1).mono ?_
  rintro e w5 ⟨rfl, ⟨d5, hl5⟩, -⟩
  have HL5 := Lib.hid hl5
  clear hl5 HL4
  go_wp2_with fail
  refine (lk_keep (m := 4) (body := sBase) (HL5.out.below (below_new w5 _)) (Sl.rd_eq (sl_new w5 sBase (4, 5) (by decide))).1 rfl (by decide) (by decide)).mono ?_
  rintro e w6 ⟨rfl, ⟨d6, hl6⟩, -⟩
  have HL6 := Lib.hid hl6
  have HA6 := Lib.hid (lk_all hl6)
  clear hl6 HL5
  go_wp2_with fail
  refine HA6.out.mono ?_
  rintro e w7 ⟨v7, rfl, hs7, hb7⟩
  have hall : (WalMath.keepX (WalMath.addX WalMath.empty sA) sBase).all = [] := rfl
  rw [hall] at hs7
  obtain ⟨A7, c7, rfl, _⟩ := hs7.shp
  have hro := rows_any w7 w6.heap.size A7 none 0 0 c7 0 [] [] rfl rfl hs7 (StR.nil w7) (by decide)
  rw [decide_eq_true (rfl : ([] : List (List UInt8)) = [])] at hro
  have HR := Lib.hid hro
  clear hro
  have HL7 := Lib.hid (HL6.out.below hb7)
  clear hs7 hb7 hall HA6 HL6
  go_wp2_with fail
  refine HR.out.mono ?_
  rintro e w8 ⟨rfl, hb8⟩
  have HL8 := Lib.hid (HL7.out.below hb8)
  clear hb8 HR HL7
  go_wp2_with fail
  refine (lk_add (m := 1) (body := sX) (HL8.out.below (below_new w8 _)) (sl_new w8 sX (1, 2) (by decide)).rds rfl (by decide) kn_fit1).mono ?_
  rintro e w9 ⟨rfl, ⟨d9, hl9⟩, -⟩
  have HL9 := Lib.hid hl9
  have hmk := HMK.out
  have HNO := Lib.hid (wadd_no (hl9.1.below (below_new w9 (.cells Z 5))) (some ⟨w9.heap.size, 0, none⟩) 200001 200001 (by decide))
  clear hl9 HL8
  go_wp2_with fail
  refine HNO.out.mono ?_
  rintro e w10 ⟨rfl, rfl⟩
  rw [show mayE false 200001 = 1 from rfl]
  have hl10 := HL9.out.below (below_new w9 (.cells Z 5))
  obtain ⟨w10, hw10⟩ : ∃ W, W = w9.alloc (.cells Z 5) := ⟨_, rfl⟩
  rw [← hw10] at hl10 ⊢
  obtain ⟨X, hX⟩ : ∃ X, X = WalMath.addX (WalMath.keepX (WalMath.addX WalMath.empty sA) sBase) sX := ⟨_, rfl⟩
  rw [← hX] at hl10
  have HX := Lib.hid hX
  have HCR := Lib.hid (ds_crash hl10.1.ds (by rw [hl10.2.1.on.cache]; simp) (-1) (fun W _ _ => (IntV.nil W).r) (by decide))
  have HL10 := Lib.hid hl10
  clear hX hl10 hw10 HNO HL9 hmk
  go_wp2_with fail
  refine HCR.out.mono ?_
  rintro e w11 ⟨rfl, hd11, ht11⟩
  have hoff : (d9.crash [] (-1)).off = true := by
    unfold DevMath.Dev.crash
    split
    · assumption
    · rfl
  have hsec : (d9.crash [] (-1)).sectors = 64 := by
    rw [show (d9.crash [] (-1)).sectors = d9.sectors by unfold DevMath.Dev.crash; split <;> rfl]
    exact HL10.out.2.1.on.n
  have hcac : (d9.crash [] (-1)).cache = [] := by
    unfold DevMath.Dev.crash
    split
    · exact HL10.out.2.1.on.cache
    · rfl
  have HOK := Lib.hid (WalMath.ok_crash HL10.out.2.1 [] (-1))
  have hls11 := HL10.out.1.tk ht11 hd11
  obtain ⟨d11, hd11e⟩ : ∃ d, d = d9.crash [] (-1) := ⟨_, rfl⟩
  rw [← hd11e] at hoff hsec hcac hls11 HOK
  have hfit : (WalMath.addB X sY).length ≤ WalMath.room 64 := by rw [HX.out]; exact kn_fit2
  have hgo := wadd_go (hls11.below (below_new w11 (.cells (bv sY) 5 (1, 2)))) (by omega) (by omega) hcac (by rw [hsec]; exact HL10.out.2.1.wf) (some ⟨w11.heap.size, 0, none⟩) 1 1 sY rfl (sl_new w11 sY (1, 2) (by decide)).rds (by decide) (by rw [hsec]; exact hfit)
  have hR : WalMath.addR d11 X sY = (d11, 7) := WalMath.commitD_off _ _ hoff
  rw [hR] at hgo
  have HGO := Lib.hid hgo; have HOFF := Lib.hid hoff
  clear hgo hoff hsec hcac hls11 hd11e hd11 ht11 hfit hR HCR
  go_wp2_with fail
  refine HGO.out.mono ?_
  rintro e w12 ⟨rfl, hls12, -⟩
  rw [show comE (d11, 7) = 7 from rfl]
  have hls12' : LS w2 w12 w2.heap.size g gl d11 X true := hls12
  have HDO := Lib.hid (wdone_any hls12')
  have HKN := Lib.hid (wkeep_no hls12' none 0 0 (by decide))
  have HOP := Lib.hid (wopen_off hls12'.ds HOFF.out)
  have HON := Lib.hid (ds_on hls12'.ds)
  clear hls12 hls12' HGO
  go_wp2_with fail
  refine HDO.out.mono ?_
  rintro e w12 ⟨rfl, rfl⟩
  go_wp2_with fail
  refine HKN.out.mono ?_
  rintro e w12 ⟨rfl, rfl⟩
  rw [show mayE true 0 = 7 from rfl]
  go_wp2_with fail
  refine HOP.out.mono ?_
  rintro e w12 ⟨rfl, rfl⟩
  go_wp2_with fail
  refine HON.out.mono ?_
  rintro e w13 ⟨rfl, hd13, -⟩
  have HOP2 := Lib.hid (lk_open hd13 HOK.out.1 HOK.out.2)
  clear hd13 HDO HKN HOP HON
  go_wp2_with fail
  refine HOP2.out.mono ?_
  rintro e w14 ⟨gm, rfl, hl14, -⟩
  have HL14 := Lib.hid hl14
  have hba := lk_base hl14
  have hbase : X.buf.take X.base = sBase := by rw [HX.out]; rfl
  have HALL : Hid (X.all = [sX]) := Lib.hid (by rw [HX.out]; rfl)
  rw [hbase] at hba
  have HBA := Lib.hid hba
  clear hl14 hba hbase HOP2
  go_wp2_with fail
  refine HBA.out.mono ?_
  rintro e w15 ⟨v15, rfl, hs15, hb15⟩
  obtain ⟨A15, c15, rfl, _, _⟩ := hs15.rd
  have q15 := hs15.str
  have HL15 := Lib.hid (HL14.out.below hb15)
  have hal := lk_all HL15.out
  rw [HALL.out] at hal
  have HAL := Lib.hid hal
  clear hs15 hb15 hal
  simp only [sBase, List.length_cons, List.length_nil, Nat.zero_add, Nat.reduceAdd] at q15 ⊢
  go_wp2_with fail
  refine HAL.out.mono ?_
  rintro e w16 ⟨v16, rfl, hs16, hb16⟩
  obtain ⟨A16, c16, rfl, _⟩ := hs16.shp
  clear q15
  have hst : StR (w16.alloc (.cells #[.string ⟨sX.toArray⟩] 9)) (.slice (some ⟨w16.heap.size, 0, none⟩) 1 1) [sX] := ⟨_, 1, rfl, Nat.le_refl _, fun _ => ⟨_, rfl, fun j hj => by
    have : j = 0 := by simpa using hj
    subst this
    have ha : (⟨w16.heap.size, 0, none⟩ : Addr).add 0 = ⟨w16.heap.size, 0, none⟩ := by unfold Addr.add; split <;> simp_all
    rw [ha, cell_of_row _ _ 0 _ _ _ (heap_new w16 _ _ rfl)]
    rfl⟩⟩
  have hro := (rows_any _ w15.heap.size A16 _ 1 1 c16 1 [sX] [sX] rfl rfl (hs16.below (below_new w16 (.cells #[.string ⟨sX.toArray⟩] 9))) hst (by decide))
  rw [decide_eq_true (rfl : [sX] = [sX])] at hro
  have HRO := Lib.hid hro
  clear hro
  have HL16 := Lib.hid ((HL15.out.below hb16).below (below_new w16 (.cells #[.string ⟨sX.toArray⟩] 9)))
  clear hst hs16 hb16 HAL
  go_wp2_with fail
  refine HRO.out.mono ?_
  rintro e w17 ⟨rfl, hb17⟩
  have HL17 := Lib.hid (HL16.out.below hb17)
  have HDN := Lib.hid (wdone_any HL17.out.1)
  have HB17 := Lib.hid (HB2.out.trans ((HL17.out.1.ds.bel).mono HB2.out.size))
  clear hb17 HRO
  go_wp2_with fail
  refine HDN.out.mono ?_
  rintro e w17 ⟨rfl, rfl⟩
  go_wp2
  go_ret
  exact ⟨rfl, HB17.out⟩
end Go.Proofs.Ytbpecfbliglboaa
