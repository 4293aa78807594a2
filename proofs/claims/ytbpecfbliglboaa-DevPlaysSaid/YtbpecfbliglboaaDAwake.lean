/- awake of the devices' laws. -/
import Derived.Test.YtbpecfbliglboaaDs
import Derived.Test.YtbpecfbliglboaaStr
namespace DevMath
def aw0 : Dev := Dev.new 9
def aw1 : Dev := { aw0 with cache := aw0.cache ++ [(1, sec 7)] }
def aw2 : Dev := { aw1 with safe := flushed aw1.safe aw1.cache, cache := [] }
def aw3 : Dev := { aw2 with cache := aw2.cache ++ [(1, sec 8)] }
def aw4 : Dev := aw3.crash [] (-1)
def aw5 : Dev := { aw4 with off := false }
theorem aw1_w : aw0.write 1 (sec 7) = (aw1, 0) := write_plain aw0 1 (sec 7) rfl rfl rfl (sec_len 7)
theorem aw2_w : aw1.flush = (aw2, 0) := flush_plain aw1 rfl rfl
theorem aw3_w : aw2.write 1 (sec 8) = (aw3, 0) := write_plain aw2 1 (sec 8) rfl rfl rfl (sec_len 8)
theorem aw4_w : aw4.write 1 (sec 9) = (aw4, 7) := rfl
theorem aw5_r : aw5.read 1 = (some (sec 7), 0) := rfl
end DevMath
namespace Go.Proofs.Ytbpecfbliglboaa
open Go.RowKit Go.Maps
set_option linter.unusedVariables false
set_option linter.unusedSimpArgs false
attribute [local irreducible] wpR relOp
theorem sect_num (w : World) (n : Int) (c : UInt8) (hn : n = (c.toNat : Int)) : Calls Try.prog 16 #[.int .u8 n] w fun e w' => ∃ A k, e = .returned (.slice A 512 k) ∧ 512 ≤ k ∧ Sl w' (.slice A 512 k) (DevMath.sec c) ∧ Below w.heap.size w w' := by
  subst hn
  refine (sect_any w c).mono ?_
  rintro e w1 ⟨v, rfl, hs, hb⟩
  obtain ⟨A, k, rfl, h1, h2⟩ := hs.rd
  have hl : (List.replicate 512 c).length = 512 := List.length_replicate
  rw [hl] at hs h1
  exact ⟨A, k, by rw [hl], h1, hs, hb⟩
theorem sect_rel {B : Nat} (W : World) (n : Int) (c : UInt8) (hn : n = (c.toNat : Int)) (hB : B ≤ W.heap.size) : Calls Try.prog 16 #[.int .u8 n] W fun e w' => ∃ v, e = .returned v ∧ Gr B W w' ∧ (∃ A c, v = .slice A 512 c ∧ 512 ≤ c) ∧ Sl w' v (DevMath.sec c) := by
  refine (sect_num W n c hn).mono ?_
  rintro e w1 ⟨A, k, rfl, hk, hs, hb⟩
  exact ⟨_, rfl, Gr.of_below hb hB, ⟨A, k, rfl, hk⟩, hs⟩
theorem Sl.str {w : World} {A : Option Addr} {n c : Nat} {l : List UInt8} (h : Sl w (.slice A n c) l) : (convert 33 9 (.slice A n c)).run Try.prog w = .ok (.string ⟨l.toArray⟩) w := by
  obtain ⟨h1, h2⟩ := h.rd_eq
  exact h1.str n c h2.symm
def awTbl : Nat → Option Sp
  | 20 => some (.val (.string ⟨(DevMath.sec 7).toArray⟩))
  | 21 => some (slSp 512 (DevMath.sec 7))
  | 22 => some (.val (.string ⟨(DevMath.sec 7).toArray⟩))
  | _ => none
set_option maxRecDepth 20000 in
set_option maxHeartbeats 1000000 in
theorem awake4_any (w : World) : Calls Try.prog 13 #[] w fun e w' => e = .returned (.bool true) ∧ Below w.heap.size w w' := by
  go_enter Try.func13, Try.ntmps13
  go_wp2_with fail
  refine (ds_new w 9 (by decide) (by decide)).mono ?_
  rintro e w1 ⟨g, rfl, hd1, -⟩
  have HD := Lib.hid (show DS w w1 w.heap.size g DevMath.aw0 from hd1)
  clear hd1
  go_wp2_with fail
  refine (sect_num w1 7 7 rfl).mono ?_
  rintro e w2 ⟨A2, c2, rfl, hc2, hs2, hb2⟩
  have hcon := ds_write (HD.out.below hb2) (show ([] : List (Int × List UInt8)).length ≤ 1000000 by decide) 1 hs2 (by rw [DevMath.sec_len]; decide)
  rw [DevMath.aw1_w] at hcon
  have HCon := Lib.hid hcon
  clear hcon hs2 hb2 HD
  go_wp2_with fail
  refine HCon.out.mono ?_
  rintro e w3 ⟨rfl, hd3, -⟩
  have hcon := ds_flush hd3 (by decide)
  rw [DevMath.aw2_w] at hcon
  have HC2 := Lib.hid hcon
  clear hcon HCon hd3
  go_wp2_with fail
  refine HC2.out.mono ?_
  rintro e w4 ⟨rfl, hd4, -⟩
  have HD := Lib.hid hd4
  clear hd4 HC2
  go_wp2_with fail
  refine (sect_num w4 8 8 rfl).mono ?_
  rintro e w5 ⟨A5, c5, rfl, hc5, hs5, hb5⟩
  have hcon := ds_write (HD.out.below hb5) (by decide) 1 hs5 (by rw [DevMath.sec_len]; decide)
  rw [DevMath.aw3_w] at hcon
  have HCon := Lib.hid hcon
  clear hcon hs5 hb5 HD
  go_wp2_with fail
  refine HCon.out.mono ?_
  rintro e w6 ⟨rfl, hd6, -⟩
  have hcon := Lib.hid (ds_crash hd6 (by decide) (-1) (fun W _ _ => (IntV.nil W).r) (by decide))
  clear hd6 HCon
  go_wp2_with fail
  refine hcon.out.mono ?_
  rintro e w7 ⟨rfl, hd7, -⟩
  have HD := Lib.hid (show DS w w7 w.heap.size g DevMath.aw4 from hd7)
  clear hd7 hcon
  go_wp2_with fail
  refine (sect_num w7 9 9 rfl).mono ?_
  rintro e w8 ⟨A8, c8, rfl, hc8, hs8, hb8⟩
  have hcon := ds_write (HD.out.below hb8) (by decide) 1 hs8 (by rw [DevMath.sec_len]; decide)
  rw [DevMath.aw4_w] at hcon
  have HCon := Lib.hid hcon
  clear hcon hs8 hb8 HD
  go_wp2_with fail
  refine HCon.out.mono ?_
  rintro e w9 ⟨rfl, hd9, -⟩
  have hcon := Lib.hid (ds_on hd9)
  clear hd9 HCon
  go_wp2_with fail
  refine hcon.out.mono ?_
  rintro e w10 ⟨rfl, hd10, -⟩
  have hcon2 := ds_read (show DS w w10 w.heap.size g DevMath.aw5 from hd10) (by decide) 1 (by decide)
  rw [DevMath.aw5_r] at hcon2
  have HC2 := Lib.hid hcon2
  clear hd10 hcon hcon2
  go_wp2_with fail
  refine HC2.out.mono ?_
  rintro e w11 ⟨v, rfl, hs11, hd11, hb11⟩
  obtain ⟨A, c, rfl, hc, hr⟩ := hs11.rd
  have hlen : ((some (DevMath.sec 7)).getD []).length = 512 := DevMath.sec_len 7
  rw [hlen] at hs11 hc ⊢
  have HS := Lib.hid (show Sl w11 (.slice A 512 c) (DevMath.sec 7) from hs11)
  have HB := Lib.hid hd11.bel; have HZ := Lib.hid hd11.sz
  have HC : Hid (∀ W, Gr w11.heap.size w11.drew W → (convert 33 9 (.slice A 512 c)).run Try.prog W = .ok (.string ⟨(DevMath.sec 7).toArray⟩) W) := Lib.hid fun W hW => (HS.out.below (Below.trans (Below.drew (Below.refl w11.heap.size w11)) hW.1)).str
  clear hs11 hd11 hb11 hr HC2 hlen
  go_wp2_with fail
  refine wp_region_tbl _ (awTbl) (w11.heap.size) (by kernel_rfl) (by kernel_rfl) (by kernel_rfl) ?_
  repeat (first
    | (refine wpR_plain ?_ (by rfl) (fun K hK => ?_); (focus (first | (simp only [Region.wanted]; done) | (go_simp; done))); apply Exists.intro; refine ⟨fun W hW => ?_, ?_⟩; (go_simp; (try simp only [plainUpon_value, true_and]); rfl); go_simp; refine hK _ ?_; clear hK K)
    | (refine wpR_skip ?_ (fun K hK => ?_); (focus (first | (simp only [Region.wanted]; done) | (go_simp; done))); go_simp; refine hK _ ?_; clear hK K)
    | (refine wpR_val (by rfl) ?_ (fun W hW hF => ?_) (fun K hK => ?_); (focus (first | (simp only [Region.wanted]; done) | (go_simp; done))); (have hcw := HC.out W hW; go_simp; (try simp only [relUpon_value]); (first | exact ⟨Gr.refl _ _, rfl⟩ | exact ⟨Gr.refl _ _, trivial⟩)); go_simp; refine hK _ ?_; clear hK K)
    | (refine wpR_prop (by rfl) ?_ (fun W hW hF => ?_) (fun K v hv hK => ?_); (focus (first | (simp only [Region.wanted]; done) | (go_simp; done))); (go_simp; simp only [relUpon_enter]; exact sect_rel W 7 7 rfl hW.size); obtain ⟨A21, c21, rfl, hc21⟩ := hv; go_simp; refine hK _ ?_; clear hK K)
    | (refine wpR_val (by rfl) ?_ (fun W hW hF => ?_) (fun K hK => ?_); (focus (first | (simp only [Region.wanted]; done) | (go_simp; done))); (have hcw := (show Sl W (.slice A21 512 c21) (DevMath.sec 7) from hF 21 rfl).str; go_simp; (try simp only [relUpon_value]); (first | exact ⟨Gr.refl _ _, rfl⟩ | exact ⟨Gr.refl _ _, trivial⟩)); go_simp; refine hK _ ?_; clear hK K))
  refine wpR_nil (fun W hW hF => ?_)
  have hbW := below_then HB.out HZ.out (Below.trans (Below.drew (Below.refl w11.heap.size w11)) hW.1)
  clear hF hW
  go_wp2
  go_ret
  exact ⟨rfl, hbW⟩
end Go.Proofs.Ytbpecfbliglboaa
