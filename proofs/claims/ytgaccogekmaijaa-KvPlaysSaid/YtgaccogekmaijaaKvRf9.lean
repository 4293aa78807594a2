/- The document's Decode. -/
import Derived.Test.YtgaccogekmaijaaKvRf8
namespace Go.Proofs.Ytgaccogekmaijaa
open Go.RowKit Go.Maps
set_option linter.unusedVariables false
set_option linter.unusedSimpArgs false
attribute [local irreducible] wpR relOp Stu.wpR Stu.relOp
theorem bapp0_run {W : World} {ty S0 g0 nn c : Nat} {A : Option Addr} {l : List UInt8} (h2 : W.heap[g0]? = some (.cells #[] 5)) (hg0 : S0 ≤ g0) (hS : S0 ≤ W.heap.size) (hnn : nn = l.length) (hsrc : Rd W A l) (hn : nn ≤ 1000000) :
    ∃ v W', (Builtin.append_ #[32, 32] ty #[.slice (some ⟨g0, 0, none⟩) 0 0, .slice A nn c]).run Try.prog W = .ok v W' ∧ Ob W' S0 5 v l ∧ Below W.heap.size W W' := by
  have hown : W.ownsRow S0 5 1 (.slice (some ⟨g0, 0, none⟩) 0 0) 0 [] := ⟨rfl, .inr ⟨g0, 0, #[], rfl, hg0, h2, Nat.le_refl _, Nat.zero_le _, rfl, rfl⟩⟩
  obtain ⟨i0, hi2, hzz⟩ := Option.map_eq_some_iff.1 info_u8b
  simp only [Prod.mk.injEq] at hzz
  rcases Nat.eq_zero_or_pos nn with h0 | h0
  · subst h0
    obtain rfl : l = [] := List.eq_nil_of_length_eq_zero hnn.symm
    exact ⟨_, _, append_nil W _ _ 5 Try.underlying32 ⟨i0, hi2⟩ g0 0 0 (Nat.le_refl _) A c, hown, Below.refl _ _⟩
  · obtain ⟨v1, W', hr, k1, k2⟩ := append_dicho (P := Try.prog) W S0 32 ty 5 i0 _ 1 1 Try.underlying32 hi2 hzz.1 hzz.2.1 hzz.2.2 rfl (by decide) (by decide) _ 0 [] hown A nn c (bvl l) (by rw [bvl_length]; omega) (Src.of_rd hsrc) (bvl_one l) (by omega) hS
    rw [Nat.zero_add, List.nil_append] at k1
    refine ⟨v1, W', hr, by unfold Ob; rw [← hnn]; exact k1, ?_⟩
    rcases k2 with ⟨g, cur, q1, q2, q3, q4, _⟩ | ⟨q1, q2⟩
    · exfalso
      simp [Value.ownBlock] at q1
      subst q1
      rw [h2] at q3
      injection q3 with q3
      injection q3 with q3
      subst q3
      rw [bvl_length, ← hnn] at q4
      simp at q4
      omega
    · exact q1
def RDec (w : World) (bs : List UInt8) (e : Ending) (w' : World) : Prop := Below w.heap.size w w' ∧
  ((∃ xs v, refB bs = some xs ∧ e = .returned (.tuple #[v, .bool (xs.all PutD.good)]) ∧ PutsG RS w' w.heap.size v xs ∧ xs.length ≤ bs.length ∧ ∀ x ∈ xs, x.key.size ≤ 1000000 ∧ x.val.length ≤ 1000000) ∨
   (refB bs = none ∧ e = .returned (.tuple #[.slice none 0 0, .bool false])))
def lenV2 : Value → Nat
  | .slice _ n _ => n
  | _ => 0
set_option maxRecDepth 20000 in
set_option maxHeartbeats 1000000 in
theorem ref_decode (w : World) (A : Option Addr) (c : Nat) (bs : List UInt8) (hr : Rd w A bs) (hc : bs.length ≤ c) (hl : bs.length ≤ 100000) :
    Calls Try.prog 26 #[.slice A bs.length c] w (RDec w bs) := by
  have HR := Lib.hid hr
  obtain ⟨n, hn⟩ : ∃ n, n = bs.length := ⟨_, rfl⟩
  rw [← hn] at hc hl ⊢
  have HN := Lib.hid hn
  clear hn hr
  go_enter Try.func26, Try.ntmps26
  go_wp2_with fail
  go_loopw [0, 4, 5, 6, 7] (fun vb v _ _ _ wr => ∃ (pre : List PutD) (r : List UInt8) (Ab : Option Addr) (cb : Nat), vb = .slice Ab r.length cb ∧ r.length ≤ cb ∧ (∀ W, Below w.heap.size w W → Rd W Ab r) ∧ refB bs = (refB r).map (pre ++ ·) ∧ PutsG RS wr w.heap.size v pre ∧ Below w.heap.size w wr ∧ pre.length + r.length ≤ n ∧ ∀ x ∈ pre, x.key.size ≤ 1000000 ∧ x.val.length ≤ 1000000) (fun vb _ _ _ _ _ => lenV2 vb)
  case atStart => exact ⟨[], bs, A, c, by rw [HN.out], by rw [← HN.out]; exact hc, fun W hW => HR.out.below hW, by simp, PutsG.nil _ _ _, Below.refl _ _, by rw [HN.out]; simp, fun x hx => by simp at hx⟩
  case round =>
    rename World => wL
    obtain ⟨pre, r, Ab, cb, rfl, hcb, hrd, href, hpg, hb, hlen, hsz⟩ := hrel
    obtain ⟨m, hm⟩ : ∃ m, m = r.length := ⟨_, rfl⟩
    obtain ⟨np, hnp⟩ : ∃ np, np = pre.length := ⟨_, rfl⟩
    obtain ⟨A0, c00, hv0, hc00⟩ := hpg.shape hnp
    subst hv0
    rw [← hm] at hcb hlen ⊢
    have HM := Lib.hid hm; have HRD := Lib.hid hrd; have HRF := Lib.hid href; have HPG := Lib.hid hpg; have HB := Lib.hid hb; have HSZ := Lib.hid hsz; have HNP := Lib.hid hnp
    clear hm hrd href hpg hb hsz hnp
    by_cases h0 : m = 0
    · subst h0
      have hr0 : r = [] := List.eq_nil_of_length_eq_zero HM.out.symm
      have hre : refB bs = some pre := by rw [HRF.out, hr0, refB_nil]; simp
      obtain ⟨A5, c5, hv5, hc5, hrow5⟩ := HPG.out.row (fun v l h => Sl.rd h) (fun x hx => ⟨Nat.le_trans (HSZ.out x hx).1 (by decide), Nat.le_trans (HSZ.out x hx).2 (by decide)⟩)
      rw [← HNP.out] at hv5 hc5
      injection hv5 with e1 e2 e3
      subst e1; subst e3
      have hmay := ref_may wL A0 c00 pre hrow5 (by rw [← HNP.out]; exact hc5) (by omega)
      rw [← HNP.out] at hmay
      have HMY := Lib.hid hmay; have HRE := Lib.hid hre
      clear hr0 hre hrow5 hmay e2
      go_wp2_with fail
      refine HMY.out.mono ?_
      rintro e w1 ⟨rfl, hb1⟩
      have HPG1 := Lib.hid (HPG.out.below hb1 (fun v l h => Sl.below h hb1))
      have HB1 := Lib.hid (below_then HB.out HB.out.size hb1)
      have HL : Hid (pre.length ≤ bs.length) := Lib.hid (by rw [← HN.out]; omega)
      clear hb1 HMY
      go_wp2
      go_ret2
      exact ⟨HB1.out, .inl ⟨pre, _, HRE.out, rfl, HPG1.out, HL.out, HSZ.out⟩⟩
    · have hmp : 0 < m := by omega
      have hmpI : (0 : Int) < m := by omega
      have hrne : r ≠ [] := fun e => by have := HM.out; rw [e] at this; simp at this; omega
      obtain ⟨a, rfl, hat⟩ := (HRD.out wL HB.out).2 (by rw [← HM.out]; exact hmp)
      have x0 := hat 0 (by rw [← HM.out]; exact hmp)
      have hk : KvMath.rd (r.take 1) = (r[0]'(by rw [← HM.out]; exact hmp)).toNat := by
        obtain ⟨b0, t, rfl⟩ := List.exists_cons_of_ne_nil hrne
        simp [KvMath.rd]
      have hb8 : (r[0]'(by rw [← HM.out]; exact hmp)).toNat < 256 := UInt8.toNat_lt _
      generalize (r[0]'(by rw [← HM.out]; exact hmp)).toNat = k at x0 hk hb8
      have ha0 : a.add 0 = a := by simp [Addr.add]
      rw [ha0] at x0
      have HK := Lib.hid hk
      clear hat hk
      obtain ⟨gb, hgb⟩ : ∃ gb, gb = ((k : Int) == 0) := ⟨_, rfl⟩
      have hgb2 : ((k : Int) == 0) = gb := hgb.symm
      obtain ⟨W1, hW1⟩ : ∃ W1, W1 = wL.alloc (.cells #[.string ⟨#[]⟩, .slice none 0 0, .bool gb] 80) := ⟨_, rfl⟩
      have hb1 : Below wL.heap.size wL W1 := by rw [hW1]; exact (Below.refl _ wL).alloc (Nat.le_refl _) _
      have hbx : W1.heap[wL.heap.size]? = some (.cells #[.string ⟨#[]⟩, .slice none 0 0, .bool gb] 80) := by rw [hW1]; exact heap_new wL _ _ rfl
      have x1 : (wL.alloc (.cells #[.string ⟨#[]⟩, .slice none 0 0, .bool gb] 80)).cell? a = some (.int .u8 k) := by rw [← hW1]; exact cell_below hb1 x0
      have HB1 : Hid (Below w.heap.size w W1) := Lib.hid (below_then HB.out HB.out.size hb1)
      have HBX := Lib.hid hbx; have HW1 := Lib.hid hW1; have HB11 := Lib.hid hb1; have HGB := Lib.hid hgb
      clear hbx hb1 hW1 hgb
      by_cases hk1 : 1 < k
      · have hk1i : (1 : Int) < k := by omega
        have HE : Hid (refB bs = none) := Lib.hid (by rw [HRF.out, refB_none r hrne (by unfold rput; rw [if_pos (.inl (by rw [HK.out]; exact hk1))])]; rfl)
        go_wp2
        rw [← HW1.out]
        go_ret2
        exact ⟨HB1.out, .inr ⟨HE.out, rfl⟩⟩
      · have hk1i : ¬ (1 : Int) < k := by omega
        by_cases hm3 : m < 3
        · have hm3i : (m : Int) < 3 := by omega
          have HE : Hid (refB bs = none) := Lib.hid (by rw [HRF.out, refB_none r hrne (by unfold rput; rw [if_pos (.inr (by rw [← HM.out]; exact hm3))])]; rfl)
          go_wp2
          rw [← HW1.out]
          go_ret2
          exact ⟨HB1.out, .inr ⟨HE.out, rfl⟩⟩
        · have hm3i : ¬ (m : Int) < 3 := by omega
          have hcb3 : 3 ≤ cb := by omega
          have hc1 : ¬ cb = 1 := by omega
          have hrd1 := ((HRD.out W1 HB1.out).drop 1).take 2
          have hl2 : ((r.drop 1).take 2).length = 2 := by rw [List.length_take, List.length_drop, ← HM.out]; omega
          have hfrom := ref_from W1 (some (a.add 1)) (cb - 1) _ hrd1 (by omega)
          rw [hl2] at hfrom
          obtain ⟨nk, hnk⟩ : ∃ nk, nk = KvMath.rd ((r.drop 1).take 2) := ⟨_, rfl⟩
          have hnk9 : nk < 65536 := by rw [hnk]; have := KvMath.rd_lt ((r.drop 1).take 2); rw [hl2] at this; exact this
          rw [← hnk] at hfrom
          have HNK := Lib.hid hnk; have HF := Lib.hid hfrom
          clear hrd1 hl2 hnk hfrom
          go_wp2_with fail
          rw [← HW1.out]
          refine HF.out.mono ?_
          rintro e w2 ⟨rfl, rfl⟩
          clear HF
          obtain ⟨q, hq⟩ : ∃ q, q = nk + 3 := ⟨_, rfl⟩
          have hwq : IntKind.i64.wrap ((nk : Int) + 3) = (q : Int) := by rw [IntKind.wrap_i64]; omega
          have HQ := Lib.hid hq
          have x0 := cell_below HB11.out x0
          clear x1
          have hq3 : 3 ≤ q := by omega
          have hq9 : q ≤ 70000 := by omega
          clear hq
          by_cases hmq : m < q
          · have hmqi : (m : Int) < q := by omega
            have HE : Hid (refB bs = none) := Lib.hid (by
              rw [HRF.out, refB_none r hrne (by
                unfold rput
                rw [if_neg (by rw [HK.out, ← HM.out]; omega), if_pos (by rw [← HNK.out, ← HQ.out, ← HM.out]; exact hmq)])]
              rfl)
            go_wp2
            go_ret2
            exact ⟨HB1.out, .inr ⟨HE.out, rfl⟩⟩
          · have hmqi : ¬ (m : Int) < q := by omega
            have hcq : q ≤ cb := by omega
            obtain ⟨key, hkey⟩ : ∃ key : ByteArray, key = ⟨((r.drop 3).take nk).toArray⟩ := ⟨_, rfl⟩
            have HKEY := Lib.hid hkey
            have hkl : ((r.drop 3).take nk).length = nk := by rw [List.length_take, List.length_drop, ← HM.out]; have := HQ.out; omega
            have hstr : ∀ A', Rd w2 A' ((r.drop 3).take nk) → (convert 32 9 (.slice A' nk (cb - 3))).run Try.prog w2 = .ok (.string key) w2 := fun A' h => by
              rw [hkey]
              exact Rd.str h nk (cb - 3) hkl
            have hrdk := ((HRD.out w2 HB1.out).drop 3).take nk
            have f0 : w2.frozen? ⟨wL.heap.size, 0, none⟩ = false := frozen_of_row _ _ 0 _ _ HBX.out
            have z0 : w2.cell? ⟨wL.heap.size, 0, none⟩ = some (.string ⟨#[]⟩) := by rw [cell_of_row _ _ 0 _ _ _ HBX.out]; rfl
            by_cases h3 : cb = 3
            · subst h3
              have hq33 : q = 3 := by omega
              obtain rfl : nk = 0 := by have := HQ.out; omega
              subst hq33
              have hs2 := hstr (some a) (by simp only [List.take_zero]; exact Rd.none')
              have e2 : r.drop 3 = [] := List.drop_eq_nil_of_le (by rw [← HM.out]; omega)
              have hmz : m - 3 = 0 := by omega
              clear hstr hrdk
              have hrest : ∀ W, Below w.heap.size w W → Rd W (some a) (r.drop 3) := (fun W hW => by rw [e2]; exact Rd.none')
              have HREST := Lib.hid hrest
              have hml : (r.drop 3).length = 0 := by rw [List.length_drop, ← HM.out]; try omega
              have HML := Lib.hid hml
              obtain ⟨W3, hW3⟩ : ∃ W3, W3 = w2.setCell ⟨wL.heap.size, 0, none⟩ (.string key) := ⟨_, rfl⟩
              have hx3 : W3.heap[wL.heap.size]? = some (.cells #[.string key, .slice none 0 0, .bool gb] 80) := by rw [hW3]; exact heap_setCell_same w2 wL.heap.size 0 _ _ (.string key) HBX.out
              have hb3 : Below wL.heap.size wL W3 := by rw [hW3]; exact Chg.below HB11.out (Chg.setCell w2 wL.heap.size 0 _) HB11.out.size (fun k hk => Nat.le_of_eq hk.symm)
              have HX3 := Lib.hid hx3; have HB3 := Lib.hid hb3; have HW3 := Lib.hid hW3
              have y0 : (w2.setCell ⟨wL.heap.size, 0, none⟩ (.string key)).cell? ⟨wL.heap.size, 0, none⟩ = some (.string key) := by rw [← hW3, cell_of_row _ _ 0 _ _ _ hx3]; rfl
              have y1 : (w2.setCell ⟨wL.heap.size, 0, none⟩ (.string key)).cell? ⟨wL.heap.size, 1, none⟩ = some (.slice none 0 0) := by rw [← hW3, cell_of_row _ _ 1 _ _ _ hx3]; rfl
              have y2 : (w2.setCell ⟨wL.heap.size, 0, none⟩ (.string key)).cell? ⟨wL.heap.size, 2, none⟩ = some (.bool gb) := by rw [← hW3, cell_of_row _ _ 2 _ _ _ hx3]; rfl
              clear hrest hml hx3 hb3 hW3 hkey hkl
              by_cases hkz : k = 0
              · obtain rfl : gb = true := by rw [HGB.out, hkz]; rfl
                obtain ⟨W4, hW4⟩ : ∃ W4, W4 = W3.alloc (.cells #[.string key, .slice none 0 0, .bool true] 80) := ⟨_, rfl⟩
                have hb4 : Below wL.heap.size wL W4 := by rw [hW4]; exact HB3.out.trans ((Below.refl _ W3).alloc (Nat.le_refl _) _ |>.mono HB3.out.size)
                have HSP : Hid (rput r = some (⟨key, [], true⟩, r.drop 3)) := Lib.hid (by
                  unfold rput
                  rw [if_neg (by rw [HK.out, ← HM.out]; omega), if_neg (by rw [← HNK.out, ← HQ.out, ← HM.out]; exact hmq), if_pos (by rw [HK.out]; exact hkz), ← HNK.out, ← HQ.out, HKEY.out])
                obtain ⟨v5, W5, hrun5, hp5, ht5⟩ := PutsG.app_run (ty := 51) (W := W4) (gl := w2.heap.size) (x := ⟨key, [], true⟩) (vb := .slice none 0 0) (HPG.out.below hb4 (fun v l h => Sl.below h hb4)) (fun W' v l h => RS.te _ _ v l h) (Sl.nil _) rfl (by rw [hW4]; exact heap_new W3 _ _ (by rw [HW3.out, World.size_setCell])) (Nat.le_trans HB.out.size hb4.size) (by have := HNP.out; omega)
                have HRUN := Lib.hid hrun5; have HP5 := Lib.hid hp5; have HW4 := Lib.hid hW4
                have HB5 : Hid (Below w.heap.size w W5) := Lib.hid ((HB.out.trans (hb4.mono HB.out.size)).trans ht5.1)
                clear hW4 hb4 hrun5 hp5 ht5
                go_wp2_with (at_builtin; (rw [← HW3.out, ← HW4.out]); refine Lib.wpList_append_run _ rfl _ _ _ _ rfl _ _ rfl rfl _ _ HRUN.out ?_)
                go_roundw
                case rel =>
                  refine ⟨pre ++ [⟨key, [], true⟩], r.drop 3, some a, 0, by rw [HML.out], by rw [HML.out]; omega, HREST.out, ?_, HP5.out, HB5.out, ?_, ?_⟩
                  · rw [HRF.out, refB_step r hrne _ _ HSP.out]
                    cases refB (r.drop 3) <;> simp
                  · rw [HML.out, List.length_append]; simp; omega
                  · intro x hx
                    rcases List.mem_append.1 hx with hx | hx
                    · exact HSZ.out x hx
                    · rw [List.mem_singleton] at hx
                      subst hx
                      refine ⟨?_, by simp⟩
                      show key.size ≤ _
                      rw [HKEY.out]
                      show (((r.drop 3).take (0)).toArray).size ≤ _
                      simp
                      try omega
                case measure =>
                  simp only [lenV2]
                  omega
              obtain rfl : gb = false := by rw [HGB.out, beq_eq_false_iff_ne]; omega
              by_cases hm4 : 0 < 4
              · have hm4i : ((0 : Nat) : Int) < 4 := by omega
                have HE : Hid (refB bs = none) := Lib.hid (by
                  rw [HRF.out, refB_none r hrne (by
                    unfold rput
                    rw [if_neg (by rw [HK.out, ← HM.out]; omega), if_neg (by rw [← HNK.out, ← HQ.out, ← HM.out]; exact hmq), if_neg (by rw [HK.out]; exact hkz), if_pos (.inl (by rw [← HNK.out, ← HQ.out, HML.out]; exact hm4))])]
                  rfl)
                go_wp2
                rw [← HW3.out]
                go_ret2
                exact ⟨HB.out.trans (HB3.out.mono HB.out.size), .inr ⟨HE.out, rfl⟩⟩
              exfalso
              omega
            · have hs2 := hstr (some ⟨a.block, a.off + 3, none⟩) hrdk
              by_cases h4 : cb = q
              · subst h4
                have hqn : cb - 3 = nk := by have := HQ.out; omega
                have e2 : r.drop cb = [] := List.drop_eq_nil_of_le (by rw [← HM.out]; omega)
                have hmz : m - cb = 0 := by omega
                rw [hqn] at hs2
                clear hstr hrdk
                have hrest : ∀ W, Below w.heap.size w W → Rd W (some a) (r.drop cb) := (fun W hW => by rw [e2]; exact Rd.none')
                have HREST := Lib.hid hrest
                have hml : (r.drop cb).length = 0 := by rw [List.length_drop, ← HM.out]; try omega
                have HML := Lib.hid hml
                obtain ⟨W3, hW3⟩ : ∃ W3, W3 = w2.setCell ⟨wL.heap.size, 0, none⟩ (.string key) := ⟨_, rfl⟩
                have hx3 : W3.heap[wL.heap.size]? = some (.cells #[.string key, .slice none 0 0, .bool gb] 80) := by rw [hW3]; exact heap_setCell_same w2 wL.heap.size 0 _ _ (.string key) HBX.out
                have hb3 : Below wL.heap.size wL W3 := by rw [hW3]; exact Chg.below HB11.out (Chg.setCell w2 wL.heap.size 0 _) HB11.out.size (fun k hk => Nat.le_of_eq hk.symm)
                have HX3 := Lib.hid hx3; have HB3 := Lib.hid hb3; have HW3 := Lib.hid hW3
                have y0 : (w2.setCell ⟨wL.heap.size, 0, none⟩ (.string key)).cell? ⟨wL.heap.size, 0, none⟩ = some (.string key) := by rw [← hW3, cell_of_row _ _ 0 _ _ _ hx3]; rfl
                have y1 : (w2.setCell ⟨wL.heap.size, 0, none⟩ (.string key)).cell? ⟨wL.heap.size, 1, none⟩ = some (.slice none 0 0) := by rw [← hW3, cell_of_row _ _ 1 _ _ _ hx3]; rfl
                have y2 : (w2.setCell ⟨wL.heap.size, 0, none⟩ (.string key)).cell? ⟨wL.heap.size, 2, none⟩ = some (.bool gb) := by rw [← hW3, cell_of_row _ _ 2 _ _ _ hx3]; rfl
                clear hrest hml hx3 hb3 hW3 hkey hkl
                by_cases hkz : k = 0
                · obtain rfl : gb = true := by rw [HGB.out, hkz]; rfl
                  obtain ⟨W4, hW4⟩ : ∃ W4, W4 = W3.alloc (.cells #[.string key, .slice none 0 0, .bool true] 80) := ⟨_, rfl⟩
                  have hb4 : Below wL.heap.size wL W4 := by rw [hW4]; exact HB3.out.trans ((Below.refl _ W3).alloc (Nat.le_refl _) _ |>.mono HB3.out.size)
                  have HSP : Hid (rput r = some (⟨key, [], true⟩, r.drop cb)) := Lib.hid (by
                    unfold rput
                    rw [if_neg (by rw [HK.out, ← HM.out]; omega), if_neg (by rw [← HNK.out, ← HQ.out, ← HM.out]; exact hmq), if_pos (by rw [HK.out]; exact hkz), ← HNK.out, ← HQ.out, HKEY.out])
                  obtain ⟨v5, W5, hrun5, hp5, ht5⟩ := PutsG.app_run (ty := 51) (W := W4) (gl := w2.heap.size) (x := ⟨key, [], true⟩) (vb := .slice none 0 0) (HPG.out.below hb4 (fun v l h => Sl.below h hb4)) (fun W' v l h => RS.te _ _ v l h) (Sl.nil _) rfl (by rw [hW4]; exact heap_new W3 _ _ (by rw [HW3.out, World.size_setCell])) (Nat.le_trans HB.out.size hb4.size) (by have := HNP.out; omega)
                  have HRUN := Lib.hid hrun5; have HP5 := Lib.hid hp5; have HW4 := Lib.hid hW4
                  have HB5 : Hid (Below w.heap.size w W5) := Lib.hid ((HB.out.trans (hb4.mono HB.out.size)).trans ht5.1)
                  clear hW4 hb4 hrun5 hp5 ht5
                  go_wp2_with (at_builtin; (rw [← HW3.out, ← HW4.out]); refine Lib.wpList_append_run _ rfl _ _ _ _ rfl _ _ rfl rfl _ _ HRUN.out ?_)
                  go_roundw
                  case rel =>
                    refine ⟨pre ++ [⟨key, [], true⟩], r.drop cb, some a, 0, by rw [HML.out], by rw [HML.out]; omega, HREST.out, ?_, HP5.out, HB5.out, ?_, ?_⟩
                    · rw [HRF.out, refB_step r hrne _ _ HSP.out]
                      cases refB (r.drop cb) <;> simp
                    · rw [HML.out, List.length_append]; simp; omega
                    · intro x hx
                      rcases List.mem_append.1 hx with hx | hx
                      · exact HSZ.out x hx
                      · rw [List.mem_singleton] at hx
                        subst hx
                        refine ⟨?_, by simp⟩
                        show key.size ≤ _
                        rw [HKEY.out]
                        show (((r.drop 3).take (nk)).toArray).size ≤ _
                        simp
                        try omega
                  case measure =>
                    simp only [lenV2]
                    omega
                obtain rfl : gb = false := by rw [HGB.out, beq_eq_false_iff_ne]; omega
                by_cases hm4 : 0 < 4
                · have hm4i : ((0 : Nat) : Int) < 4 := by omega
                  have HE : Hid (refB bs = none) := Lib.hid (by
                    rw [HRF.out, refB_none r hrne (by
                      unfold rput
                      rw [if_neg (by rw [HK.out, ← HM.out]; omega), if_neg (by rw [← HNK.out, ← HQ.out, ← HM.out]; exact hmq), if_neg (by rw [HK.out]; exact hkz), if_pos (.inl (by rw [← HNK.out, ← HQ.out, HML.out]; exact hm4))])]
                    rfl)
                  go_wp2
                  rw [← HW3.out]
                  go_ret2
                  exact ⟨HB.out.trans (HB3.out.mono HB.out.size), .inr ⟨HE.out, rfl⟩⟩
                exfalso
                omega
              · have hqn : q - 3 = nk := by have := HQ.out; omega
                clear hstr hrdk
                have hrest : ∀ W, Below w.heap.size w W → Rd W (some (a.add q)) (r.drop q) := fun W hW => (HRD.out W hW).drop q
                have HREST := Lib.hid hrest
                have hml : (r.drop q).length = m - q := by rw [List.length_drop, ← HM.out]; try omega
                have HML := Lib.hid hml
                obtain ⟨W3, hW3⟩ : ∃ W3, W3 = w2.setCell ⟨wL.heap.size, 0, none⟩ (.string key) := ⟨_, rfl⟩
                have hx3 : W3.heap[wL.heap.size]? = some (.cells #[.string key, .slice none 0 0, .bool gb] 80) := by rw [hW3]; exact heap_setCell_same w2 wL.heap.size 0 _ _ (.string key) HBX.out
                have hb3 : Below wL.heap.size wL W3 := by rw [hW3]; exact Chg.below HB11.out (Chg.setCell w2 wL.heap.size 0 _) HB11.out.size (fun k hk => Nat.le_of_eq hk.symm)
                have HX3 := Lib.hid hx3; have HB3 := Lib.hid hb3; have HW3 := Lib.hid hW3
                have y0 : (w2.setCell ⟨wL.heap.size, 0, none⟩ (.string key)).cell? ⟨wL.heap.size, 0, none⟩ = some (.string key) := by rw [← hW3, cell_of_row _ _ 0 _ _ _ hx3]; rfl
                have y1 : (w2.setCell ⟨wL.heap.size, 0, none⟩ (.string key)).cell? ⟨wL.heap.size, 1, none⟩ = some (.slice none 0 0) := by rw [← hW3, cell_of_row _ _ 1 _ _ _ hx3]; rfl
                have y2 : (w2.setCell ⟨wL.heap.size, 0, none⟩ (.string key)).cell? ⟨wL.heap.size, 2, none⟩ = some (.bool gb) := by rw [← hW3, cell_of_row _ _ 2 _ _ _ hx3]; rfl
                clear hrest hml hx3 hb3 hW3 hkey hkl
                by_cases hkz : k = 0
                · obtain rfl : gb = true := by rw [HGB.out, hkz]; rfl
                  obtain ⟨W4, hW4⟩ : ∃ W4, W4 = W3.alloc (.cells #[.string key, .slice none 0 0, .bool true] 80) := ⟨_, rfl⟩
                  have hb4 : Below wL.heap.size wL W4 := by rw [hW4]; exact HB3.out.trans ((Below.refl _ W3).alloc (Nat.le_refl _) _ |>.mono HB3.out.size)
                  have HSP : Hid (rput r = some (⟨key, [], true⟩, r.drop q)) := Lib.hid (by
                    unfold rput
                    rw [if_neg (by rw [HK.out, ← HM.out]; omega), if_neg (by rw [← HNK.out, ← HQ.out, ← HM.out]; exact hmq), if_pos (by rw [HK.out]; exact hkz), ← HNK.out, ← HQ.out, HKEY.out])
                  obtain ⟨v5, W5, hrun5, hp5, ht5⟩ := PutsG.app_run (ty := 51) (W := W4) (gl := w2.heap.size) (x := ⟨key, [], true⟩) (vb := .slice none 0 0) (HPG.out.below hb4 (fun v l h => Sl.below h hb4)) (fun W' v l h => RS.te _ _ v l h) (Sl.nil _) rfl (by rw [hW4]; exact heap_new W3 _ _ (by rw [HW3.out, World.size_setCell])) (Nat.le_trans HB.out.size hb4.size) (by have := HNP.out; omega)
                  have HRUN := Lib.hid hrun5; have HP5 := Lib.hid hp5; have HW4 := Lib.hid hW4
                  have HB5 : Hid (Below w.heap.size w W5) := Lib.hid ((HB.out.trans (hb4.mono HB.out.size)).trans ht5.1)
                  clear hW4 hb4 hrun5 hp5 ht5
                  go_wp2_with (at_builtin; (rw [← HW3.out, ← HW4.out]); refine Lib.wpList_append_run _ rfl _ _ _ _ rfl _ _ rfl rfl _ _ HRUN.out ?_)
                  go_roundw
                  case rel =>
                    refine ⟨pre ++ [⟨key, [], true⟩], r.drop q, some (a.add q), cb - q, by rw [HML.out], by rw [HML.out]; omega, HREST.out, ?_, HP5.out, HB5.out, ?_, ?_⟩
                    · rw [HRF.out, refB_step r hrne _ _ HSP.out]
                      cases refB (r.drop q) <;> simp
                    · rw [HML.out, List.length_append]; simp; omega
                    · intro x hx
                      rcases List.mem_append.1 hx with hx | hx
                      · exact HSZ.out x hx
                      · rw [List.mem_singleton] at hx
                        subst hx
                        refine ⟨?_, by simp⟩
                        show key.size ≤ _
                        rw [HKEY.out]
                        show (((r.drop 3).take (nk)).toArray).size ≤ _
                        simp
                        try omega
                  case measure =>
                    simp only [lenV2]
                    omega
                obtain rfl : gb = false := by rw [HGB.out, beq_eq_false_iff_ne]; omega
                by_cases hm4 : m - q < 4
                · have hm4i : ((m - q : Nat) : Int) < 4 := by omega
                  have HE : Hid (refB bs = none) := Lib.hid (by
                    rw [HRF.out, refB_none r hrne (by
                      unfold rput
                      rw [if_neg (by rw [HK.out, ← HM.out]; omega), if_neg (by rw [← HNK.out, ← HQ.out, ← HM.out]; exact hmq), if_neg (by rw [HK.out]; exact hkz), if_pos (.inl (by rw [← HNK.out, ← HQ.out, HML.out]; exact hm4))])]
                    rfl)
                  go_wp2
                  rw [← HW3.out]
                  go_ret2
                  exact ⟨HB.out.trans (HB3.out.mono HB.out.size), .inr ⟨HE.out, rfl⟩⟩
                have h44 : (4 : Int) ≤ ((cb - q : Nat) : Int) := by omega
                have hm4i : ¬ ((m - q : Nat) : Int) < 4 := by omega
                have hl4 : ((r.drop q).take 4).length = 4 := by rw [List.length_take, HML.out]; omega
                have hBW3 : Below w.heap.size w W3 := HB.out.trans (HB3.out.mono HB.out.size)
                have hfrom := ref_from W3 (some (a.add q)) (cb - q) _ ((HREST.out W3 hBW3).take 4) (by omega)
                rw [hl4] at hfrom
                obtain ⟨mv, hmv⟩ : ∃ mv, mv = KvMath.rd ((r.drop q).take 4) := ⟨_, rfl⟩
                have hmv9 : mv < 4294967296 := by rw [hmv]; exact KvMath.rd_lt4 _ (by omega)
                rw [← hmv] at hfrom
                have HMV := Lib.hid hmv; have HF := Lib.hid hfrom; have HBW3 := Lib.hid hBW3
                clear hfrom hmv hl4 hBW3
                go_wp2_with fail
                rw [← HW3.out]
                refine HF.out.mono ?_
                rintro e w4 ⟨rfl, rfl⟩
                clear y0 y1 y2 hs2 f0 z0
                have hmc : m - q ≤ cb - q := by omega
                generalize hmm : m - q = mm at *
                generalize hcc : cb - q = cc at *
                generalize a.add q = a2 at *
                have HMM := Lib.hid hmm
                clear hmm hcc
                obtain ⟨q2, hq2⟩ : ∃ q2, q2 = mv + 4 := ⟨_, rfl⟩
                have hwq2 : IntKind.i64.wrap ((mv : Int) + 4) = (q2 : Int) := by rw [IntKind.wrap_i64]; omega
                have hwq3 : IntKind.i64.wrap (4 + (mv : Int)) = (q2 : Int) := by rw [IntKind.wrap_i64]; omega
                have HQ2 := Lib.hid hq2
                have hp1 : ¬ (1 < KvMath.rd (r.take 1) ∨ r.length < 3) := by rw [HK.out, ← HM.out]; omega
                have hp2 : ¬ r.length < KvMath.rd ((r.drop 1).take 2) + 3 := by rw [← HNK.out, ← HQ.out, ← HM.out]; exact hmq
                have hp3 : ¬ KvMath.rd (r.take 1) = 0 := by rw [HK.out]; exact hkz
                have HP1 := Lib.hid hp1; have HP2 := Lib.hid hp2; have HP3 := Lib.hid hp3
                clear hp1 hp2 hp3
                by_cases hbig : 200000 < mv
                · have hbigi : (200000 : Int) < mv := by omega
                  have HE : Hid (refB bs = none) := Lib.hid (by
                    rw [HRF.out, refB_none r hrne (by
                      unfold rput
                      rw [if_neg HP1.out, if_neg HP2.out, if_neg HP3.out, if_pos (.inr (.inl (by rw [← HNK.out, ← HQ.out, ← HMV.out]; exact hbig)))])]
                    rfl)
                  clear hq2
                  go_wp2
                  go_ret2
                  exact ⟨HBW3.out, .inr ⟨HE.out, rfl⟩⟩
                have hbigi : ¬ (200000 : Int) < mv := by omega
                by_cases hmq2 : mm < q2
                · have hmq2i : (mm : Int) < q2 := by omega
                  have HE : Hid (refB bs = none) := Lib.hid (by
                    rw [HRF.out, refB_none r hrne (by
                      unfold rput
                      rw [if_neg HP1.out, if_neg HP2.out, if_neg HP3.out, if_pos (.inr (.inr (by rw [← HNK.out, ← HQ.out, ← HMV.out, HML.out]; have := HQ2.out; omega)))])]
                    rfl)
                  clear hq2
                  go_wp2_with fail
                  refine HF.out.mono ?_
                  rintro e w5 ⟨rfl, rfl⟩
                  go_wp2
                  go_ret2
                  exact ⟨HBW3.out, .inr ⟨HE.out, rfl⟩⟩
                have hmq2i : ¬ (mm : Int) < q2 := by omega
                obtain ⟨val, hval⟩ : ∃ val, val = ((r.drop q).drop 4).take mv := ⟨_, rfl⟩
                have hvl : val.length = mv := by rw [hval, List.length_take, List.length_drop, HML.out]; omega
                have HVL := Lib.hid hvl; have HVAL := Lib.hid hval
                have hrv : ∀ W, Below w.heap.size w W → Rd W (some ⟨a2.block, a2.off + 4, none⟩) val := fun W hW => by rw [hval]; exact ((HREST.out W hW).drop 4).take mv
                have HRV := Lib.hid hrv
                have HSP : Hid (rput r = some (⟨key, val, false⟩, (r.drop q).drop q2)) := Lib.hid (by
                  unfold rput
                  rw [if_neg HP1.out, if_neg HP2.out, if_neg HP3.out, if_neg (by rw [← HNK.out, ← HQ.out, ← HMV.out, HML.out]; have := HQ2.out; omega), ← HNK.out, ← HQ.out, ← HMV.out, HKEY.out, HVAL.out, HQ2.out])
                have hq2c : q2 ≤ cc := by omega
                have h4q : 4 ≤ q2 := by omega
                have h4qi : (4 : Int) ≤ q2 := by omega
                clear hval hvl hrv hq2
                go_wp2_with fail
                refine HF.out.mono ?_
                rintro e w5 ⟨rfl, rfl⟩
                clear HW3
                by_cases hc4 : cc = 4
                · obtain rfl : mv = 0 := by have := HQ2.out; omega
                  have hv0 : val = [] := List.eq_nil_of_length_eq_zero HVL.out
                  have hq24 : q2 = 4 := by have := HQ2.out; omega
                  subst hc4
                  subst hq24
                  have e2 : (r.drop q).drop 4 = [] := List.drop_eq_nil_of_le (by rw [HML.out]; omega)
                  have hmz : mm - 4 = 0 := by omega
                  obtain ⟨W5, hW5⟩ : ∃ W5, W5 = w5.alloc (.cells #[] 5) := ⟨_, rfl⟩
                  have hbA : Below w5.heap.size w5 W5 := by rw [hW5]; exact (Below.refl _ w5).alloc (Nat.le_refl _) _
                  have hrv : Rd W5 (some a2) val := (by rw [hv0]; exact Rd.none')
                  obtain ⟨v6, W6, hrun6, ho6, hb6⟩ := bapp0_run (W := W5) (ty := 32) (S0 := w5.heap.size) (g0 := w5.heap.size) (nn := 0) (c := 0) (by rw [hW5]; exact heap_new w5 _ _ rfl) (Nat.le_refl _) hbA.size HVL.out.symm hrv (by omega)
                  obtain ⟨A6, c6, hv6, _, _⟩ := ho6.rd
                  rw [HVL.out] at hv6
                  subst hv6
                  have hb56 : Below w5.heap.size w5 W6 := hbA.trans (hb6.mono hbA.size)
                  have hx6 := (hb56.block _ (Array.getElem?_eq_some_iff.1 HX3.out).1).trans HX3.out
                  have f1 : W6.frozen? ⟨wL.heap.size, 1, none⟩ = false := frozen_of_row _ _ 1 _ _ hx6
                  have z1 : W6.cell? ⟨wL.heap.size, 1, none⟩ = some (.slice none 0 0) := by rw [cell_of_row _ _ 1 _ _ _ hx6]; rfl
                  obtain ⟨W7, hW7⟩ : ∃ W7, W7 = W6.setCell ⟨wL.heap.size, 1, none⟩ (.slice A6 0 c6) := ⟨_, rfl⟩
                  have hx7 : W7.heap[wL.heap.size]? = some (.cells #[.string key, .slice A6 0 c6, .bool false] 80) := by rw [hW7]; exact heap_setCell_same W6 wL.heap.size 1 _ _ (.slice A6 0 c6) hx6
                  have hc67 : Chg (· = wL.heap.size) W6 W7 := by rw [hW7]; exact Chg.setCell _ _ _ _
                  have hbL6 : Below wL.heap.size wL W6 := HB3.out.trans (hb56.mono HB3.out.size)
                  have hbL7 : Below wL.heap.size wL W7 := Chg.below hbL6 hc67 hbL6.size (fun k hk => Nat.le_of_eq hk.symm)
                  have hs7 : Sl W7 (.slice A6 0 c6) val := ho6.sl.chg hc67 (fun k hk cs fr e => by
                    have hk : k = wL.heap.size := hk
                    rw [hk, hx6] at e
                    injection e with e
                    injection e with _ e
                    exact absurd e (by decide))
                  have y0 : (W6.setCell ⟨wL.heap.size, 1, none⟩ (.slice A6 0 c6)).cell? ⟨wL.heap.size, 0, none⟩ = some (.string key) := by rw [← hW7, cell_of_row _ _ 0 _ _ _ hx7]; rfl
                  have y1 : (W6.setCell ⟨wL.heap.size, 1, none⟩ (.slice A6 0 c6)).cell? ⟨wL.heap.size, 1, none⟩ = some (.slice A6 0 c6) := by rw [← hW7, cell_of_row _ _ 1 _ _ _ hx7]; rfl
                  have y2 : (W6.setCell ⟨wL.heap.size, 1, none⟩ (.slice A6 0 c6)).cell? ⟨wL.heap.size, 2, none⟩ = some (.bool false) := by rw [← hW7, cell_of_row _ _ 2 _ _ _ hx7]; rfl
                  obtain ⟨W8, hW8⟩ : ∃ W8, W8 = W7.alloc (.cells #[.string key, .slice A6 0 c6, .bool false] 80) := ⟨_, rfl⟩
                  have hb78 : Below W7.heap.size W7 W8 := by rw [hW8]; exact (Below.refl _ W7).alloc (Nat.le_refl _) _
                  have hbL8 : Below wL.heap.size wL W8 := hbL7.trans (hb78.mono hbL7.size)
                  obtain ⟨v9, W9, hrun9, hp9', ht9⟩ := PutsG.app_run (ty := 51) (W := W8) (gl := W6.heap.size) (x := ⟨key, val, false⟩) (vb := .slice A6 0 c6) (HPG.out.below hbL8 (fun v l h => Sl.below h hbL8)) (fun W' v l h => RS.te _ _ v l h) (Sl.below hs7 hb78) rfl (by rw [hW8]; exact heap_new W7 _ _ (by rw [hW7, World.size_setCell])) (Nat.le_trans HB.out.size hbL8.size) (by have := HNP.out; omega)
                  have HRUN6 := Lib.hid hrun6; have HW5 := Lib.hid hW5; have HW7 := Lib.hid hW7; have HW8 := Lib.hid hW8; have HRUN9 := Lib.hid hrun9; have HP9 := Lib.hid hp9'
                  have HB9 : Hid (Below w.heap.size w W9) := Lib.hid ((HB.out.trans (hbL8.mono HB.out.size)).trans ht9.1)
                  have hrest9 : ∀ W, Below w.heap.size w W → Rd W (some a2) ((r.drop q).drop 4) := fun W hW => (by rw [e2]; exact Rd.none')
                  have HREST9 := Lib.hid hrest9
                  have hml9 : ((r.drop q).drop 4).length = 0 := by rw [List.length_drop, HML.out]; try omega
                  have HML9 := Lib.hid hml9
                  clear hrun6 hW5 hW7 hW8 hrun9 hp9' ht9 hrest9 hml9 hb78 hbL8 hs7 hbL7 hbL6 hc67 hx7 hx6 hb56 ho6 hb6 hrv hbA
                  go_wp2_with fail
                  refine HF.out.mono ?_
                  rintro e w5x ⟨rfl, rfl⟩
                  go_wp2_with (at_builtin; first | (rw [← HW5.out]; refine Lib.wpList_append_run _ rfl _ _ _ _ rfl _ _ rfl rfl _ _ HRUN6.out ?_) | (rw [← HW7.out, ← HW8.out]; refine Lib.wpList_append_run _ rfl _ _ _ _ rfl _ _ rfl rfl _ _ HRUN9.out ?_))
                  go_roundw
                  case rel =>
                    refine ⟨pre ++ [⟨key, val, false⟩], (r.drop q).drop 4, some a2, 0, by rw [HML9.out], by rw [HML9.out]; omega, HREST9.out, ?_, HP9.out, HB9.out, ?_, ?_⟩
                    · rw [HRF.out, refB_step r hrne _ _ HSP.out]
                      cases refB ((r.drop q).drop 4) <;> simp
                    · rw [HML9.out, List.length_append]; have := HMM.out; simp; omega
                    · intro x hx
                      rcases List.mem_append.1 hx with hx | hx
                      · exact HSZ.out x hx
                      · rw [List.mem_singleton] at hx
                        subst hx
                        refine ⟨?_, ?_⟩
                        · show key.size ≤ _
                          rw [HKEY.out]
                          show (((r.drop 3).take nk).toArray).size ≤ _
                          simp
                          omega
                        · show val.length ≤ _
                          rw [HVL.out]; omega
                  case measure =>
                    have := HMM.out
                    simp only [lenV2]
                    omega
                · by_cases hc5 : cc = q2
                  · subst hc5
                    have hmz : mm = cc := by omega
                    have hq4 : cc - 4 = mv := by have := HQ2.out; omega
                    have e2 : (r.drop q).drop cc = [] := List.drop_eq_nil_of_le (by rw [HML.out]; omega)
                    obtain ⟨W5, hW5⟩ : ∃ W5, W5 = w5.alloc (.cells #[] 5) := ⟨_, rfl⟩
                    have hbA : Below w5.heap.size w5 W5 := by rw [hW5]; exact (Below.refl _ w5).alloc (Nat.le_refl _) _
                    have hrv : Rd W5 (some ⟨a2.block, a2.off + 4, none⟩) val := HRV.out _ (HBW3.out.trans (hbA.mono HBW3.out.size))
                    obtain ⟨v6, W6, hrun6, ho6, hb6⟩ := bapp0_run (W := W5) (ty := 32) (S0 := w5.heap.size) (g0 := w5.heap.size) (nn := mv) (c := cc - 4) (by rw [hW5]; exact heap_new w5 _ _ rfl) (Nat.le_refl _) hbA.size HVL.out.symm hrv (by omega)
                    obtain ⟨A6, c6, hv6, _, _⟩ := ho6.rd
                    rw [HVL.out] at hv6
                    subst hv6
                    have hb56 : Below w5.heap.size w5 W6 := hbA.trans (hb6.mono hbA.size)
                    have hx6 := (hb56.block _ (Array.getElem?_eq_some_iff.1 HX3.out).1).trans HX3.out
                    have f1 : W6.frozen? ⟨wL.heap.size, 1, none⟩ = false := frozen_of_row _ _ 1 _ _ hx6
                    have z1 : W6.cell? ⟨wL.heap.size, 1, none⟩ = some (.slice none 0 0) := by rw [cell_of_row _ _ 1 _ _ _ hx6]; rfl
                    obtain ⟨W7, hW7⟩ : ∃ W7, W7 = W6.setCell ⟨wL.heap.size, 1, none⟩ (.slice A6 mv c6) := ⟨_, rfl⟩
                    have hx7 : W7.heap[wL.heap.size]? = some (.cells #[.string key, .slice A6 mv c6, .bool false] 80) := by rw [hW7]; exact heap_setCell_same W6 wL.heap.size 1 _ _ (.slice A6 mv c6) hx6
                    have hc67 : Chg (· = wL.heap.size) W6 W7 := by rw [hW7]; exact Chg.setCell _ _ _ _
                    have hbL6 : Below wL.heap.size wL W6 := HB3.out.trans (hb56.mono HB3.out.size)
                    have hbL7 : Below wL.heap.size wL W7 := Chg.below hbL6 hc67 hbL6.size (fun k hk => Nat.le_of_eq hk.symm)
                    have hs7 : Sl W7 (.slice A6 mv c6) val := ho6.sl.chg hc67 (fun k hk cs fr e => by
                      have hk : k = wL.heap.size := hk
                      rw [hk, hx6] at e
                      injection e with e
                      injection e with _ e
                      exact absurd e (by decide))
                    have y0 : (W6.setCell ⟨wL.heap.size, 1, none⟩ (.slice A6 mv c6)).cell? ⟨wL.heap.size, 0, none⟩ = some (.string key) := by rw [← hW7, cell_of_row _ _ 0 _ _ _ hx7]; rfl
                    have y1 : (W6.setCell ⟨wL.heap.size, 1, none⟩ (.slice A6 mv c6)).cell? ⟨wL.heap.size, 1, none⟩ = some (.slice A6 mv c6) := by rw [← hW7, cell_of_row _ _ 1 _ _ _ hx7]; rfl
                    have y2 : (W6.setCell ⟨wL.heap.size, 1, none⟩ (.slice A6 mv c6)).cell? ⟨wL.heap.size, 2, none⟩ = some (.bool false) := by rw [← hW7, cell_of_row _ _ 2 _ _ _ hx7]; rfl
                    obtain ⟨W8, hW8⟩ : ∃ W8, W8 = W7.alloc (.cells #[.string key, .slice A6 mv c6, .bool false] 80) := ⟨_, rfl⟩
                    have hb78 : Below W7.heap.size W7 W8 := by rw [hW8]; exact (Below.refl _ W7).alloc (Nat.le_refl _) _
                    have hbL8 : Below wL.heap.size wL W8 := hbL7.trans (hb78.mono hbL7.size)
                    obtain ⟨v9, W9, hrun9, hp9', ht9⟩ := PutsG.app_run (ty := 51) (W := W8) (gl := W6.heap.size) (x := ⟨key, val, false⟩) (vb := .slice A6 mv c6) (HPG.out.below hbL8 (fun v l h => Sl.below h hbL8)) (fun W' v l h => RS.te _ _ v l h) (Sl.below hs7 hb78) rfl (by rw [hW8]; exact heap_new W7 _ _ (by rw [hW7, World.size_setCell])) (Nat.le_trans HB.out.size hbL8.size) (by have := HNP.out; omega)
                    have HRUN6 := Lib.hid hrun6; have HW5 := Lib.hid hW5; have HW7 := Lib.hid hW7; have HW8 := Lib.hid hW8; have HRUN9 := Lib.hid hrun9; have HP9 := Lib.hid hp9'
                    have HB9 : Hid (Below w.heap.size w W9) := Lib.hid ((HB.out.trans (hbL8.mono HB.out.size)).trans ht9.1)
                    have hrest9 : ∀ W, Below w.heap.size w W → Rd W (some a2) ((r.drop q).drop cc) := fun W hW => (by rw [e2]; exact Rd.none')
                    have HREST9 := Lib.hid hrest9
                    have hml9 : ((r.drop q).drop cc).length = 0 := by rw [List.length_drop, HML.out]; try omega
                    have HML9 := Lib.hid hml9
                    clear hrun6 hW5 hW7 hW8 hrun9 hp9' ht9 hrest9 hml9 hb78 hbL8 hs7 hbL7 hbL6 hc67 hx7 hx6 hb56 ho6 hb6 hrv hbA
                    go_wp2_with fail
                    refine HF.out.mono ?_
                    rintro e w5x ⟨rfl, rfl⟩
                    go_wp2_with (at_builtin; first | (rw [← HW5.out]; refine Lib.wpList_append_run _ rfl _ _ _ _ rfl _ _ rfl rfl _ _ HRUN6.out ?_) | (rw [← HW7.out, ← HW8.out]; refine Lib.wpList_append_run _ rfl _ _ _ _ rfl _ _ rfl rfl _ _ HRUN9.out ?_))
                    go_roundw
                    case rel =>
                      refine ⟨pre ++ [⟨key, val, false⟩], (r.drop q).drop cc, some a2, 0, by rw [HML9.out], by rw [HML9.out]; omega, HREST9.out, ?_, HP9.out, HB9.out, ?_, ?_⟩
                      · rw [HRF.out, refB_step r hrne _ _ HSP.out]
                        cases refB ((r.drop q).drop cc) <;> simp
                      · rw [HML9.out, List.length_append]; have := HMM.out; simp; omega
                      · intro x hx
                        rcases List.mem_append.1 hx with hx | hx
                        · exact HSZ.out x hx
                        · rw [List.mem_singleton] at hx
                          subst hx
                          refine ⟨?_, ?_⟩
                          · show key.size ≤ _
                            rw [HKEY.out]
                            show (((r.drop 3).take nk).toArray).size ≤ _
                            simp
                            omega
                          · show val.length ≤ _
                            rw [HVL.out]; omega
                    case measure =>
                      have := HMM.out
                      simp only [lenV2]
                      omega
                  · have hq4 : q2 - 4 = mv := by have := HQ2.out; omega
                    obtain ⟨W5, hW5⟩ : ∃ W5, W5 = w5.alloc (.cells #[] 5) := ⟨_, rfl⟩
                    have hbA : Below w5.heap.size w5 W5 := by rw [hW5]; exact (Below.refl _ w5).alloc (Nat.le_refl _) _
                    have hrv : Rd W5 (some ⟨a2.block, a2.off + 4, none⟩) val := HRV.out _ (HBW3.out.trans (hbA.mono HBW3.out.size))
                    obtain ⟨v6, W6, hrun6, ho6, hb6⟩ := bapp0_run (W := W5) (ty := 32) (S0 := w5.heap.size) (g0 := w5.heap.size) (nn := mv) (c := cc - 4) (by rw [hW5]; exact heap_new w5 _ _ rfl) (Nat.le_refl _) hbA.size HVL.out.symm hrv (by omega)
                    obtain ⟨A6, c6, hv6, _, _⟩ := ho6.rd
                    rw [HVL.out] at hv6
                    subst hv6
                    have hb56 : Below w5.heap.size w5 W6 := hbA.trans (hb6.mono hbA.size)
                    have hx6 := (hb56.block _ (Array.getElem?_eq_some_iff.1 HX3.out).1).trans HX3.out
                    have f1 : W6.frozen? ⟨wL.heap.size, 1, none⟩ = false := frozen_of_row _ _ 1 _ _ hx6
                    have z1 : W6.cell? ⟨wL.heap.size, 1, none⟩ = some (.slice none 0 0) := by rw [cell_of_row _ _ 1 _ _ _ hx6]; rfl
                    obtain ⟨W7, hW7⟩ : ∃ W7, W7 = W6.setCell ⟨wL.heap.size, 1, none⟩ (.slice A6 mv c6) := ⟨_, rfl⟩
                    have hx7 : W7.heap[wL.heap.size]? = some (.cells #[.string key, .slice A6 mv c6, .bool false] 80) := by rw [hW7]; exact heap_setCell_same W6 wL.heap.size 1 _ _ (.slice A6 mv c6) hx6
                    have hc67 : Chg (· = wL.heap.size) W6 W7 := by rw [hW7]; exact Chg.setCell _ _ _ _
                    have hbL6 : Below wL.heap.size wL W6 := HB3.out.trans (hb56.mono HB3.out.size)
                    have hbL7 : Below wL.heap.size wL W7 := Chg.below hbL6 hc67 hbL6.size (fun k hk => Nat.le_of_eq hk.symm)
                    have hs7 : Sl W7 (.slice A6 mv c6) val := ho6.sl.chg hc67 (fun k hk cs fr e => by
                      have hk : k = wL.heap.size := hk
                      rw [hk, hx6] at e
                      injection e with e
                      injection e with _ e
                      exact absurd e (by decide))
                    have y0 : (W6.setCell ⟨wL.heap.size, 1, none⟩ (.slice A6 mv c6)).cell? ⟨wL.heap.size, 0, none⟩ = some (.string key) := by rw [← hW7, cell_of_row _ _ 0 _ _ _ hx7]; rfl
                    have y1 : (W6.setCell ⟨wL.heap.size, 1, none⟩ (.slice A6 mv c6)).cell? ⟨wL.heap.size, 1, none⟩ = some (.slice A6 mv c6) := by rw [← hW7, cell_of_row _ _ 1 _ _ _ hx7]; rfl
                    have y2 : (W6.setCell ⟨wL.heap.size, 1, none⟩ (.slice A6 mv c6)).cell? ⟨wL.heap.size, 2, none⟩ = some (.bool false) := by rw [← hW7, cell_of_row _ _ 2 _ _ _ hx7]; rfl
                    obtain ⟨W8, hW8⟩ : ∃ W8, W8 = W7.alloc (.cells #[.string key, .slice A6 mv c6, .bool false] 80) := ⟨_, rfl⟩
                    have hb78 : Below W7.heap.size W7 W8 := by rw [hW8]; exact (Below.refl _ W7).alloc (Nat.le_refl _) _
                    have hbL8 : Below wL.heap.size wL W8 := hbL7.trans (hb78.mono hbL7.size)
                    obtain ⟨v9, W9, hrun9, hp9', ht9⟩ := PutsG.app_run (ty := 51) (W := W8) (gl := W6.heap.size) (x := ⟨key, val, false⟩) (vb := .slice A6 mv c6) (HPG.out.below hbL8 (fun v l h => Sl.below h hbL8)) (fun W' v l h => RS.te _ _ v l h) (Sl.below hs7 hb78) rfl (by rw [hW8]; exact heap_new W7 _ _ (by rw [hW7, World.size_setCell])) (Nat.le_trans HB.out.size hbL8.size) (by have := HNP.out; omega)
                    have HRUN6 := Lib.hid hrun6; have HW5 := Lib.hid hW5; have HW7 := Lib.hid hW7; have HW8 := Lib.hid hW8; have HRUN9 := Lib.hid hrun9; have HP9 := Lib.hid hp9'
                    have HB9 : Hid (Below w.heap.size w W9) := Lib.hid ((HB.out.trans (hbL8.mono HB.out.size)).trans ht9.1)
                    have hrest9 : ∀ W, Below w.heap.size w W → Rd W (some (a2.add q2)) ((r.drop q).drop q2) := fun W hW => ((HREST.out W hW).drop q2)
                    have HREST9 := Lib.hid hrest9
                    have hml9 : ((r.drop q).drop q2).length = mm - q2 := by rw [List.length_drop, HML.out]; try omega
                    have HML9 := Lib.hid hml9
                    clear hrun6 hW5 hW7 hW8 hrun9 hp9' ht9 hrest9 hml9 hb78 hbL8 hs7 hbL7 hbL6 hc67 hx7 hx6 hb56 ho6 hb6 hrv hbA
                    go_wp2_with fail
                    refine HF.out.mono ?_
                    rintro e w5x ⟨rfl, rfl⟩
                    go_wp2_with (at_builtin; first | (rw [← HW5.out]; refine Lib.wpList_append_run _ rfl _ _ _ _ rfl _ _ rfl rfl _ _ HRUN6.out ?_) | (rw [← HW7.out, ← HW8.out]; refine Lib.wpList_append_run _ rfl _ _ _ _ rfl _ _ rfl rfl _ _ HRUN9.out ?_))
                    go_roundw
                    case rel =>
                      refine ⟨pre ++ [⟨key, val, false⟩], (r.drop q).drop q2, some (a2.add q2), cc - q2, by rw [HML9.out], by rw [HML9.out]; omega, HREST9.out, ?_, HP9.out, HB9.out, ?_, ?_⟩
                      · rw [HRF.out, refB_step r hrne _ _ HSP.out]
                        cases refB ((r.drop q).drop q2) <;> simp
                      · rw [HML9.out, List.length_append]; have := HMM.out; simp; omega
                      · intro x hx
                        rcases List.mem_append.1 hx with hx | hx
                        · exact HSZ.out x hx
                        · rw [List.mem_singleton] at hx
                          subst hx
                          refine ⟨?_, ?_⟩
                          · show key.size ≤ _
                            rw [HKEY.out]
                            show (((r.drop 3).take nk).toArray).size ≤ _
                            simp
                            omega
                          · show val.length ≤ _
                            rw [HVL.out]; omega
                    case measure =>
                      have := HMM.out
                      simp only [lenV2]
                      omega
end Go.Proofs.Ytgaccogekmaijaa
