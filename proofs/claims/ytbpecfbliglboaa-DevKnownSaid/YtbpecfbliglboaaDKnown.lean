/- The law DevKnown, walked. -/
import Derived.Test.YtbpecfbliglboaaDSafe
namespace DevMath
def kn0 : Dev := Dev.new 4
def kn1 : Dev := { kn0 with cache := kn0.cache ++ [(0, sec 1)] }
def kn2 : Dev := { kn1 with cache := kn1.cache ++ [(1, sec 2)] }
def kn3 : Dev := { kn2 with cache := kn2.cache ++ [(0, sec 3)] }
def kn4 : Dev := kn3.crash [0] 2
def kn5 : Dev := { kn4 with off := false }
def kn6 : Dev := kn5.fused 2 [] (-1)
def kn6b : Dev := { kn6 with fuse := 1 }
def kn7 : Dev := { kn6b with cache := kn6b.cache ++ [(2, sec 5)] }
def kn8 : Dev := { kn7 with fuse := 0 }.crash [] (-1)
def kn9 : Dev := { kn8 with off := false }
def kn10 : Dev := { kn9 with safe := flushed kn9.safe kn9.cache, cache := [] }
def knx : List UInt8 := (sec 3).take 256 ++ (sec 1).drop 256
theorem kn_c : kn0.write 4 (sec 1) = (kn0, 1) := rfl
theorem kn_e : kn0.write 0 ((sec 1).take 511) = (kn0, 1) := by
  have hl : ((sec 1).take 511).length = 511 := by rw [List.length_take, sec_len]; rfl
  unfold Dev.write
  rw [if_neg (show ¬ kn0.off = true from by decide), if_pos (.inr (by rw [hl]; decide))]
theorem kn_f : kn0.read (-1) = (none, 1) := rfl
theorem kn_1 : kn0.write 0 (sec 1) = (kn1, 0) := write_plain kn0 0 (sec 1) rfl rfl rfl (sec_len 1)
theorem kn_2 : kn1.write 1 (sec 2) = (kn2, 0) := write_plain kn1 1 (sec 2) rfl rfl rfl (sec_len 2)
theorem kn_3 : kn2.write 0 (sec 3) = (kn3, 0) := write_plain kn2 0 (sec 3) rfl rfl rfl (sec_len 3)
theorem kn_x : kn5.read 0 = (some knx, 0) := rfl
theorem kn_y : kn5.read 1 = (some (sec 0), 0) := rfl
theorem kn_h : kn6.write 9 [] = (kn6, 1) := rfl
theorem kn_b : kn6.burn = kn6b := rfl
theorem kn_i : kn6.write 2 (sec 5) = (kn7, 0) := by
  unfold Dev.write
  rw [if_neg (show ¬ kn6.off = true from by decide), if_neg (by rw [sec_len]; decide), kn_b, if_neg (show ¬ kn6b.off = true from by decide)]
  rfl
theorem kn_j : kn7.flush = (kn8, 7) := rfl
theorem kn_z : kn9.read 2 = (some (sec 0), 0) := rfl
theorem kn_k : kn9.flush = (kn10, 0) := rfl
theorem knx_len : knx.length = 512 := by
  unfold knx
  rw [List.length_append, List.length_take, List.length_drop, sec_len, sec_len]; rfl
theorem knx_lo (k : Nat) (h : k < 256) : knx[k]'(by rw [knx_len]; omega) = 3 := by
  unfold knx
  rw [List.getElem_append_left (by rw [List.length_take, sec_len]; omega), List.getElem_take]
  exact List.getElem_replicate _
theorem knx_256 : knx[256]'(by rw [knx_len]; decide) = 1 := by
  unfold knx
  rw [List.getElem_append_right (by rw [List.length_take, sec_len]; decide), List.getElem_drop]
  exact List.getElem_replicate _
end DevMath
namespace Go.Proofs.Ytbpecfbliglboaa
open Go.RowKit Go.Maps
set_option linter.unusedVariables false
set_option linter.unusedSimpArgs false
attribute [local irreducible] wpR relOp
theorem Sl.take {w : World} {A : Option Addr} {n c : Nat} {l : List UInt8} (h : Sl w (.slice A n c) l) (k : Nat) (hk : k ≤ n) : Sl w (.slice A k c) (l.take k) := by
  obtain ⟨A', c', e, h1, h2, h3⟩ := h
  injection e with e1 e2 e3
  subst e1; subst e2; subst e3
  exact ⟨A, c, by rw [List.length_take, Nat.min_eq_left hk], by rw [List.length_take]; omega, h2.take k, h3⟩
theorem Sl.cell {w : World} {A : Option Addr} {n c : Nat} {l : List UInt8} (h : Sl w (.slice A n c) l) (k : Nat) (hk : k < l.length) : ∃ a, A = some a ∧ w.cell? (a.add k) = some (.int .u8 (l[k].toNat : Int)) := by
  obtain ⟨A', c', e, h1, h2, h3⟩ := h
  injection e with e1 e2 e3
  subst e1
  exact h2.at_ k hk
def knTbl : Nat → Option Sp
  | 63 => some (.val (.string ⟨(DevMath.sec 0).toArray⟩))
  | 64 => some (slSp 512 (DevMath.sec 0))
  | 65 => some (.val (.string ⟨(DevMath.sec 0).toArray⟩))
  | 74 => some (.val (.int .i64 4))
  | _ => none
set_option maxRecDepth 20000 in
set_option maxHeartbeats 2000000 in
theorem DevKnown_walk (w : World) : Calls Try.prog 6 #[] w fun e w' => e = .returned (.bool true) ∧ Below w.heap.size w w' := by
  go_enter Try.func6, Try.ntmps6
  go_wp2_with fail
  refine (awake4_any w).mono ?_
  rintro e w1 ⟨rfl, hb1⟩
  have HB1 := Lib.hid hb1
  clear hb1
  go_wp2_with fail
  refine (new_bad w1 0 (.inl (by decide))).mono ?_
  rintro e w2 ⟨rfl, rfl⟩
  go_wp2_with fail
  refine (new_bad w2 8193 (.inr (by decide))).mono ?_
  rintro e w3 ⟨rfl, rfl⟩
  go_wp2_with fail
  refine (ds_new w3 4 (by decide) (by decide)).mono ?_
  rintro e w4 ⟨g, rfl, hd, -⟩
  have HD := Lib.hid (show DS w3 w4 w3.heap.size g DevMath.kn0 from hd)
  clear hd
  go_wp2_with fail
  refine (sect_num _ 1 1 rfl).mono ?_
  rintro e ws ⟨A, c, rfl, hc, hs, hb⟩
  have hcon := ds_write (HD.out.below hb) (by decide) 4 hs (by rw [DevMath.sec_len]; decide)
  rw [DevMath.kn_c] at hcon
  have HCON := Lib.hid hcon
  clear hcon hs hb HD
  go_wp2_with fail
  refine HCON.out.mono ?_
  rintro e wc ⟨rfl, hd, -⟩
  have HD := Lib.hid hd
  clear hd HCON
  go_wp2_with fail
  refine (sect_num _ 1 1 rfl).mono ?_
  rintro e ws ⟨A, c, rfl, hc, hs, hb⟩
  have hcon := ds_write (HD.out.below hb) (by decide) 0 (hs.take 511 (by decide)) (by rw [List.length_take, DevMath.sec_len]; decide)
  rw [DevMath.kn_e] at hcon
  have HCON := Lib.hid hcon
  have hc2 : 511 ≤ c := by omega
  clear hcon hs hb HD
  go_wp2_with fail
  refine HCON.out.mono ?_
  rintro e wc ⟨rfl, hd, -⟩
  have HD := Lib.hid hd
  clear hd HCON
  have hcon := ds_read HD.out (by decide) (-1) (by decide)
  rw [DevMath.kn_f] at hcon
  have HCON := Lib.hid hcon
  clear hcon HD
  go_wp2_with fail
  refine HCON.out.mono ?_
  rintro e wc ⟨v, rfl, -, hd, -⟩
  have HD := Lib.hid hd
  clear hd HCON
  go_wp2_with fail
  refine (sect_num _ 1 1 rfl).mono ?_
  rintro e ws ⟨A, c, rfl, hc, hs, hb⟩
  have hcon := ds_write (HD.out.below hb) (by decide) 0 hs (by rw [DevMath.sec_len]; decide)
  rw [DevMath.kn_1] at hcon
  have HCON := Lib.hid hcon
  clear hcon hs hb HD
  go_wp2_with fail
  refine HCON.out.mono ?_
  rintro e wc ⟨rfl, hd, -⟩
  have HD := Lib.hid hd
  clear hd HCON
  go_wp2_with fail
  refine (sect_num _ 2 2 rfl).mono ?_
  rintro e ws ⟨A, c, rfl, hc, hs, hb⟩
  have hcon := ds_write (HD.out.below hb) (by decide) 1 hs (by rw [DevMath.sec_len]; decide)
  rw [DevMath.kn_2] at hcon
  have HCON := Lib.hid hcon
  clear hcon hs hb HD
  go_wp2_with fail
  refine HCON.out.mono ?_
  rintro e wc ⟨rfl, hd, -⟩
  have HD := Lib.hid hd
  clear hd HCON
  go_wp2_with fail
  refine (sect_num _ 3 3 rfl).mono ?_
  rintro e ws ⟨A, c, rfl, hc, hs, hb⟩
  have hcon := ds_write (HD.out.below hb) (by decide) 0 hs (by rw [DevMath.sec_len]; decide)
  rw [DevMath.kn_3] at hcon
  have HCON := Lib.hid hcon
  clear hcon hs hb HD
  go_wp2_with fail
  refine HCON.out.mono ?_
  rintro e wc ⟨rfl, hd, -⟩
  have HD := Lib.hid hd
  clear hd HCON
  have hcon := ds_unsafe HD.out
  rw [show DevMath.kn3.cache.length = 3 from rfl] at hcon
  have HCON := Lib.hid hcon
  clear hcon
  go_wp2_with fail
  refine HCON.out.mono ?_
  rintro e wq ⟨rfl, rfl⟩
  clear HCON
  obtain ⟨gk, hgk⟩ : ∃ gk, gk = wq.heap.size := ⟨_, rfl⟩
  have hiv : IntV (wq.alloc (.cells #[.int .i64 0] 3)) (.slice (some ⟨gk, 0, none⟩) 1 1) [0] := ⟨_, 1, rfl, by simp, (fun a e => by injection e with e; subst e; exact ⟨_, _, heap_new _ _ _ hgk⟩), fun _ => ⟨_, rfl, fun j hj => by
    have : j = 0 := by simp at hj; omega
    subst this
    show World.cell? _ ⟨gk, 0, none⟩ = _
    rw [cell_of_row _ gk 0 _ _ _ (heap_new _ _ _ hgk)]
    rfl⟩⟩
  have hcon := ds_crash (HD.out.below ((Below.refl _ wq).alloc (Nat.le_refl _) (.cells #[.int .i64 0] 3))) (by decide) 2 (fun W ht _ => (ht.int hiv).r) (by decide)
  have HCON := Lib.hid (show Calls _ _ _ _ (fun e w' => e = .returned (.tuple #[]) ∧ DS w3 w' w3.heap.size g DevMath.kn4 ∧ TK _ w') from hcon)
  clear hcon HD hiv
  go_wp2_with fail
  rw [← hgk]
  clear hgk
  refine HCON.out.mono ?_
  rintro e wc ⟨rfl, hd, -⟩
  have HD := Lib.hid hd
  clear hd HCON
  have hcon := ds_off HD.out
  rw [show DevMath.kn4.off = true from rfl] at hcon
  have HCON := Lib.hid hcon
  clear hcon
  go_wp2_with fail
  refine HCON.out.mono ?_
  rintro e wq2 ⟨rfl, rfl⟩
  have HCON2 := Lib.hid (show Calls _ _ _ _ (fun e w' => e = .returned (.tuple #[]) ∧ DS w3 w' w3.heap.size g DevMath.kn5 ∧ TK _ w') from ds_on HD.out)
  clear HCON HD
  go_wp2_with fail
  refine HCON2.out.mono ?_
  rintro e wc ⟨rfl, hd, -⟩
  have HD := Lib.hid hd
  clear hd HCON2
  have hcon := ds_read HD.out (by decide) 0 (by decide)
  rw [DevMath.kn_x] at hcon
  have HCON := Lib.hid hcon
  clear hcon HD
  go_wp2_with fail
  refine HCON.out.mono ?_
  rintro e wc ⟨v, rfl, hs, hd, hb⟩
  obtain ⟨AX, cX, rfl, hX, _⟩ := hs.rd
  have hlen : ((some (DevMath.knx)).getD []).length = 512 := DevMath.knx_len
  rw [hlen] at hs hX ⊢
  have HD := Lib.hid hd; have HSX := Lib.hid (show Sl wc (.slice AX 512 cX) (DevMath.knx) from hs)
  have HBR := Lib.hid hb
  clear hd HCON hs hlen hb
  clear HBR
  have hcon := ds_read HD.out (by decide) 1 (by decide)
  rw [DevMath.kn_y] at hcon
  have HCON := Lib.hid hcon
  clear hcon HD
  go_wp2_with fail
  refine HCON.out.mono ?_
  rintro e wc ⟨v, rfl, hs, hd, hb⟩
  obtain ⟨AY, cY, rfl, hY, _⟩ := hs.rd
  have hlen : ((some (DevMath.sec 0)).getD []).length = 512 := DevMath.sec_len 0
  rw [hlen] at hs hY ⊢
  have HD := Lib.hid hd; have HSY := Lib.hid (show Sl wc (.slice AY 512 cY) (DevMath.sec 0) from hs)
  have HBR := Lib.hid hb
  clear hd HCON hs hlen hb
  have HSX := Lib.hid (HSX.out.below HBR.out)
  clear HBR
  have hcon := (ds_fuse HD.out 2 (-1) (by decide) (by decide) (IntV.nil _).r (by decide))
  have HCON := Lib.hid (show Calls _ _ _ _ (fun e w' => e = .returned (.tuple #[]) ∧ DS w3 w' w3.heap.size g DevMath.kn6 ∧ TK _ w') from hcon)
  clear hcon HD
  go_wp2_with fail
  refine HCON.out.mono ?_
  rintro e wc ⟨rfl, hd, ht⟩
  have HD := Lib.hid hd
  have HSX := Lib.hid (ht.sl HSX.out); have HSY := Lib.hid (ht.sl HSY.out)
  clear hd HCON ht
  have hcon := (by have h := ds_write HD.out (by decide) 9 (Sl.nil _) (by decide); rw [DevMath.kn_h] at h; exact h)
  have HCON := Lib.hid (show Calls _ _ _ _ (fun e w' => e = .returned (.int .i64 1) ∧ DS w3 w' w3.heap.size g DevMath.kn6 ∧ TK _ w') from hcon)
  clear hcon HD
  go_wp2_with fail
  refine HCON.out.mono ?_
  rintro e wc ⟨rfl, hd, ht⟩
  have HD := Lib.hid hd
  have HSX := Lib.hid (ht.sl HSX.out); have HSY := Lib.hid (ht.sl HSY.out)
  clear hd HCON ht
  go_wp2_with fail
  refine (sect_num _ 5 5 rfl).mono ?_
  rintro e ws ⟨A5, c5, rfl, hc5, hs5, hb5⟩
  have HSX := Lib.hid (HSX.out.below hb5); have HSY := Lib.hid (HSY.out.below hb5); have HD := Lib.hid (HD.out.below hb5)
  have hw5 := ds_write HD.out (by decide) 2 hs5 (by rw [DevMath.sec_len]; decide)
  rw [DevMath.kn_i] at hw5
  clear hb5 hs5
  have hcon := (hw5)
  have HCON := Lib.hid (show Calls _ _ _ _ (fun e w' => e = .returned (.int .i64 0) ∧ DS w3 w' w3.heap.size g DevMath.kn7 ∧ TK _ w') from hcon)
  clear hcon HD
  go_wp2_with fail
  refine HCON.out.mono ?_
  rintro e wc ⟨rfl, hd, ht⟩
  have HD := Lib.hid hd
  have HSX := Lib.hid (ht.sl HSX.out); have HSY := Lib.hid (ht.sl HSY.out)
  clear hd HCON ht
  have hcon := (ds_flush HD.out (by decide))
  have HCON := Lib.hid (show Calls _ _ _ _ (fun e w' => e = .returned (.int .i64 7) ∧ DS w3 w' w3.heap.size g DevMath.kn8 ∧ TK _ w') from hcon)
  clear hcon HD
  go_wp2_with fail
  refine HCON.out.mono ?_
  rintro e wc ⟨rfl, hd, ht⟩
  have HD := Lib.hid hd
  have HSX := Lib.hid (ht.sl HSX.out); have HSY := Lib.hid (ht.sl HSY.out)
  clear hd HCON ht
  have hcon := (ds_on HD.out)
  have HCON := Lib.hid (show Calls _ _ _ _ (fun e w' => e = .returned (.tuple #[]) ∧ DS w3 w' w3.heap.size g DevMath.kn9 ∧ TK _ w') from hcon)
  clear hcon HD
  go_wp2_with fail
  refine HCON.out.mono ?_
  rintro e wc ⟨rfl, hd, ht⟩
  have HD := Lib.hid hd
  have HSX := Lib.hid (ht.sl HSX.out); have HSY := Lib.hid (ht.sl HSY.out)
  clear hd HCON ht
  have hcon := ds_read HD.out (by decide) 2 (by decide)
  rw [DevMath.kn_z] at hcon
  have HCON := Lib.hid hcon
  clear hcon HD
  go_wp2_with fail
  refine HCON.out.mono ?_
  rintro e wc ⟨v, rfl, hs, hd, hb⟩
  obtain ⟨AZ, cZ, rfl, hZ, _⟩ := hs.rd
  have hlen : ((some (DevMath.sec 0)).getD []).length = 512 := DevMath.sec_len 0
  rw [hlen] at hs hZ ⊢
  have HD := Lib.hid hd; have HSZ := Lib.hid (show Sl wc (.slice AZ 512 cZ) (DevMath.sec 0) from hs)
  have HBR := Lib.hid hb
  clear hd HCON hs hlen hb
  have HSX := Lib.hid (HSX.out.below HBR.out); have HSY := Lib.hid (HSY.out.below HBR.out)
  clear HBR
  have hcon := (ds_flush HD.out (by decide))
  have HCON := Lib.hid (show Calls _ _ _ _ (fun e w' => e = .returned (.int .i64 0) ∧ DS w3 w' w3.heap.size g DevMath.kn10 ∧ TK _ w') from hcon)
  clear hcon HD
  go_wp2_with fail
  refine HCON.out.mono ?_
  rintro e wc ⟨rfl, hd, ht⟩
  have HD := Lib.hid hd
  have HSX := Lib.hid (ht.sl HSX.out); have HSY := Lib.hid (ht.sl HSY.out); have HSZ := Lib.hid (ht.sl HSZ.out)
  clear hd HCON ht
  rename World => wz
  obtain ⟨aX, eX, x0⟩ := HSX.out.cell 0 (by rw [DevMath.knx_len]; decide)
  obtain ⟨aX1, eX1, x1⟩ := HSX.out.cell 255 (by rw [DevMath.knx_len]; decide)
  obtain ⟨aX2, eX2, x2⟩ := HSX.out.cell 256 (by rw [DevMath.knx_len]; decide)
  obtain ⟨aY, eY, y0⟩ := HSY.out.cell 0 (by rw [DevMath.sec_len]; decide)
  subst eX; subst eY
  injection eX1 with eX1; injection eX2 with eX2
  subst eX1; subst eX2
  rw [DevMath.knx_lo 0 (by decide)] at x0; rw [DevMath.knx_lo 255 (by decide)] at x1; rw [DevMath.knx_256] at x2
  rw [show (DevMath.sec 0)[0]'(by rw [DevMath.sec_len]; decide) = 0 from rfl] at y0
  have HC : Hid (∀ W, Gr wz.heap.size wz.drew W → W.cell? (aX.add 0) = some (.int .u8 3) ∧ W.cell? ⟨aX.block, aX.off + 255, none⟩ = some (.int .u8 3) ∧ W.cell? ⟨aX.block, aX.off + 256, none⟩ = some (.int .u8 1) ∧ W.cell? (aY.add 0) = some (.int .u8 0) ∧ W.cell? aX = some (.int .u8 3) ∧ W.cell? aY = some (.int .u8 0)) := Lib.hid fun W hW => by
    have h := Below.trans (Below.drew (Below.refl wz.heap.size wz)) hW.1
    exact ⟨cell_below h x0, cell_below h x1, cell_below h x2, cell_below h y0, cell_below h x0, cell_below h y0⟩
  have HCZ : Hid (∀ W, Gr wz.heap.size wz.drew W → (convert 33 9 (.slice AZ 512 cZ)).run Try.prog W = .ok (.string ⟨(DevMath.sec 0).toArray⟩) W) := Lib.hid fun W hW => (HSZ.out.below (Below.trans (Below.drew (Below.refl wz.heap.size wz)) hW.1)).str
  have HDW : Hid (∀ W, Gr wz.heap.size wz.drew W → DS w3 W w3.heap.size g DevMath.kn10) := Lib.hid fun W hW => HD.out.below (Below.trans (Below.drew (Below.refl wz.heap.size wz)) hW.1)
  clear x0 x1 x2 y0
  go_wp2_with fail
  refine wp_region_tbl _ knTbl wz.heap.size (by kernel_rfl) (by kernel_rfl) (by kernel_rfl) ?_
  simp only [List.append_eq, List.cons_append, List.nil_append]
  repeat (first
    | (refine wpR_plain ?_ (by rfl) (fun K hK => ?_); (focus (first | (simp only [Region.wanted]; done) | (go_simp; done))); apply Exists.intro; refine ⟨fun W hW => ?_, ?_⟩; (go_simp; (try simp only [plainUpon_value, true_and]); rfl); go_simp; refine hK _ ?_; clear hK K)
    | (refine wpR_skip ?_ (fun K hK => ?_); (focus (first | (simp only [Region.wanted]; done) | (go_simp; done))); go_simp; refine hK _ ?_; clear hK K)
    | (refine wpR_plain ?_ (by rfl) (fun K hK => ?_); (focus (first | (simp only [Region.wanted]; done) | (go_simp; done))); apply Exists.intro; refine ⟨fun W hW => ?_, ?_⟩; (have hcw := HC.out W hW; go_simp; (try simp only [plainUpon_value, true_and]); rfl); go_simp; refine hK _ ?_; clear hK K)
    | (refine wpR_val (by rfl) ?_ (fun W hW hF => ?_) (fun K hK => ?_); (focus (first | (simp only [Region.wanted]; done) | (go_simp; done))); (have hcw := HCZ.out W hW; go_simp; (try simp only [relUpon_value]); (first | exact ⟨Gr.refl _ _, rfl⟩ | exact ⟨Gr.refl _ _, trivial⟩)); go_simp; refine hK _ ?_; clear hK K)
    | (refine wpR_prop (by rfl) ?_ (fun W hW hF => ?_) (fun K v hv hK => ?_); (focus (first | (simp only [Region.wanted]; done) | (go_simp; done))); (go_simp; simp only [relUpon_enter]; exact sect_rel W 0 0 rfl hW.size); obtain ⟨A64, c64, rfl, hc64⟩ := hv; go_simp; refine hK _ ?_; clear hK K)
    | (refine wpR_val (by rfl) ?_ (fun W hW hF => ?_) (fun K hK => ?_); (focus (first | (simp only [Region.wanted]; done) | (go_simp; done))); (have hcw := (show Sl W (.slice A64 512 c64) (DevMath.sec 0) from hF 64 rfl).str; go_simp; (try simp only [relUpon_value]); (first | exact ⟨Gr.refl _ _, rfl⟩ | exact ⟨Gr.refl _ _, trivial⟩)); go_simp; refine hK _ ?_; clear hK K)
    | (refine wpR_val (by rfl) ?_ (fun W hW hF => ?_) (fun K hK => ?_); (focus (first | (simp only [Region.wanted]; done) | (go_simp; done))); (go_simp; simp only [relUpon_enter]; refine (ds_sectors (HDW.out W hW)).mono ?_; rintro e w' ⟨rfl, rfl⟩; exact ⟨_, rfl, Gr.refl _ _, rfl⟩); go_simp; refine hK _ ?_; clear hK K))
  refine wpR_nil (fun W hW hF => ?_)
  have hbW := below_then HB1.out HB1.out.size (HDW.out W hW).bel
  clear hF hW HC HCZ HDW
  go_wp2
  go_ret
  exact ⟨rfl, hbW⟩
end Go.Proofs.Ytbpecfbliglboaa
