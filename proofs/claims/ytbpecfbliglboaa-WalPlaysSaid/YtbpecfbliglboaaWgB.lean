/- Contracts that are proved one after the other (WPut, WCom, WAdd, WKeep). -/
import Derived.Test.YtbpecfbliglboaaWgA
import Derived.Test.YtbpecfbliglboaaWgD
import Derived.Test.YtbpecfbliglboaaStg
import Derived.Laws.CopyOwn
import Derived.Test.YtbpecfbliglboaaStu
import Derived.Test.YtbpecfbliglboaaRelTail
/- wal: put: bytes written into a region, sector by sector, and made safe. -/
namespace WalMath
/-- the writes of a put, and the flush behind them -/
def putD (d : DevMath.Dev) (ws : List (Int × List UInt8)) : DevMath.Dev × Int := if (wrs d ws).2 ≠ 0 then wrs d ws else (wrs d ws).1.flush
theorem putD_stop {d d1 : DevMath.Dev} {ws : List (Int × List UInt8)} {ec : Int} (h : wrs d ws = (d1, ec)) (he : ec ≠ 0) : putD d ws = (d1, ec) := by
  unfold putD
  rw [h, if_pos he]
theorem putD_go {d d1 : DevMath.Dev} {ws : List (Int × List UInt8)} (h : wrs d ws = (d1, 0)) : putD d ws = d1.flush := by
  unfold putD
  rw [h, if_neg (by simp)]
theorem wrs_stop {d d1 : DevMath.Dev} {r : Int × List UInt8} {ws : List (Int × List UInt8)} {ec : Int} (h : (d1, ec) = d.write r.1 r.2) (he : ec ≠ 0) : wrs d (r :: ws) = (d1, ec) := by
  show (if (d.write r.1 r.2).2 = 0 then _ else _) = _
  rw [← h, if_neg he]
theorem wrs_go {d d1 : DevMath.Dev} {r : Int × List UInt8} {ws : List (Int × List UInt8)} (h : (d1, 0) = d.write r.1 r.2) : wrs d (r :: ws) = wrs d1 ws := by
  show (if (d.write r.1 r.2).2 = 0 then _ else _) = _
  rw [← h, if_pos rfl]
theorem frm_le {n r : Nat} (h : n ≤ 8192) (hr : r ≤ 1) : frm n r ≤ 8193 := by
  unfold frm size
  have : r * ((n - 1) / 2) ≤ 1 * ((n - 1) / 2) := Nat.mul_le_mul_right _ hr
  omega
theorem write_cache (d : DevMath.Dev) (a : Int) (l : List UInt8) : (d.write a l).1.cache.length ≤ d.cache.length + 1 := by
  have hb : d.burn.cache.length ≤ d.cache.length := by
    unfold DevMath.Dev.burn
    split
    · split
      · unfold DevMath.Dev.crash
        split <;> simp
      · exact Nat.le_refl _
    · exact Nat.le_refl _
  unfold DevMath.Dev.write
  repeat (first | split | (show (d.burn.cache ++ [(a, l)]).length ≤ _; simp; omega) | (show d.burn.cache.length ≤ _; omega) | exact Nat.le_succ _)
end WalMath
namespace Go.Proofs.Ytbpecfbliglboaa
open Go.RowKit
set_option linter.unusedVariables false
set_option linter.unusedSimpArgs false
attribute [local irreducible] Stg.wpR Stg.relOp
theorem write_sectors (d : DevMath.Dev) (a : Int) (l : List UInt8) : (d.write a l).1.sectors = d.sectors := by
  unfold DevMath.Dev.write
  repeat (first | split | rfl | exact burn_sectors d)
theorem blk_splice (bl : List UInt8) (i q : Nat) (hq : q = i * 512) (h : q < bl.length) : splice (bvl (List.replicate 512 0)) 0 (bvl ((bl.drop q).take 512)) = bvl (WalMath.blk bl i) := by
  unfold splice WalMath.blk
  rw [List.take_zero, List.nil_append, Nat.zero_add, bvl_length, bvl_append, hq]
  congr 1
  unfold bvl
  rw [← List.map_drop, List.drop_replicate, List.length_take, List.length_drop]
  congr 2
  omega
theorem mc_bvl (m : Nat) : madeCells #[Value.int .u8 0] m = (bvl (List.replicate m 0)).toArray := by
  apply Array.ext'
  apply List.ext_getElem
  · simp [madeCells, bvl]
  · intro i h1 h2
    simp [madeCells, bvl, Nat.mod_one]
theorem info_u8s : (Try.prog.info? 5).map (·.size) = some 1 := by kernel_rfl
def wpTbl (F c : Int) : Nat → Option (Stg.SpS TK)
  | 9 => some (.val (.int .i64 F))
  | 14 => some (.val (.int .i64 c))
  | _ => none
theorem wpTbl_ks (F c : Int) : ∀ i, (wpTbl F c i).isSome = [9, 14].contains i := by
  intro i
  match i with
  | 0 | 1 | 2 | 3 | 4 | 5 | 6 | 7 | 8 | 9 | 10 | 11 | 12 | 13 | 14 => rfl
  | n + 15 => simp [wpTbl]
def wpJ (w0 : World) (B g : Nat) (d d' : DevMath.Dev) (s : Nat) (W : World) : Prop := if s ≤ 1 then DS w0 W B g d else DS w0 W B g d'
set_option maxRecDepth 20000 in
set_option maxHeartbeats 8000000 in
theorem wput_any {w0 w : World} {B g gl : Nat} {d : DevMath.Dev} {x : WalMath.Lg} {dn : Bool} (h : LS w0 w B g gl d x dn) (h1 : 1 ≤ d.sectors) (h2 : d.sectors ≤ 8192) (hca : d.cache = []) (r sec : Nat) (hr : r ≤ 1) (hsec : sec ≤ 4096)
    (A : Option Addr) (c n : Nat) (bl : List UInt8) (hn : n = bl.length) (hs : Sl w (.slice A n c) bl) (hb : n ≤ 2097152) :
    Calls Try.prog 69 #[.pointer (some ⟨gl, 0, none⟩), .int .i64 r, .int .i64 sec, .slice A n c] w fun e w' =>
      e = .returned (.int .i64 (WalMath.putD d (WalMath.dataW d.sectors r sec bl)).2) ∧ LS w0 w' B g gl (WalMath.putD d (WalMath.dataW d.sectors r sec bl)).1 x dn ∧ TK w w' := by
  have hnc : n ≤ c := by
    obtain ⟨A', c', e, h3, _⟩ := hs
    injection e with e1 e2 e3
    omega
  obtain ⟨ZL, hZL⟩ : ∃ ZL, ZL = bvl (List.replicate 512 0) := ⟨_, rfl⟩
  have hmk : ∀ W : World, (Instr.makeSlice 33 (.int .i64 512) (.int .i64 512)).run Try.prog W = .ok (.slice (some ⟨W.heap.size, 0, none⟩) 512 512) (W.alloc (.cells ZL.toArray 5)) := by
    intro W
    rw [hZL, ← mc_bvl 512]
    exact make_bytes (P := Try.prog) 33 5 Try.underlying33 info_u8 512 (by decide) W
  have HZL := Lib.hid hZL
  have HN := Lib.hid hn; have HS := Lib.hid hs; have HLS := Lib.hid h
  obtain ⟨ns, hns⟩ : ∃ ns, ns = d.sectors := ⟨_, rfl⟩
  obtain ⟨q0, hq0⟩ : ∃ q0, q0 = sec * 512 := ⟨_, rfl⟩
  have hq0l : q0 ≤ 2097152 := by omega
  have hw0 : IntKind.i64.wrap ((sec : Int) * (512 : Int)) = q0 := by rw [IntKind.wrap_i64]; omega
  have HQ0 := Lib.hid hq0; have HNS := Lib.hid hns; have HCA := Lib.hid hca
  rw [← hns] at h1 h2
  clear hZL hn hs h hq0 hns hca
  go_enter Try.func69, Try.ntmps69
  go_wp2_with fail
  go_loopw [9] (fun a wr => ∃ i q : Nat, q = i * 512 ∧ sec ≤ i ∧ i ≤ 8192 ∧ a = .int .i64 q ∧ ∃ dj, LS w0 wr B g gl dj x dn ∧ WalMath.wrs d (WalMath.dataW ns r sec bl) = WalMath.wrs dj (WalMath.dataW ns r i bl) ∧ dj.sectors = ns ∧ dj.cache.length ≤ i ∧ TK w wr) (fun a _ => 2097152 + 512 - (intOf a).toNat)
  case atStart => exact ⟨sec, q0, HQ0.out, Nat.le_refl _, by omega, rfl, d, HLS.out, rfl, HNS.out.symm, by rw [HCA.out]; exact Nat.zero_le _, TK.refl _⟩
  case round =>
    obtain ⟨i, q, hq, hi0, hi, rfl, dj, hls, hwr, hds, hdc, htk⟩ := hrel
    have HWR := Lib.hid hwr; have HDC := Lib.hid hdc; have HDS := Lib.hid hds; have HQ := Lib.hid hq; have HTK := Lib.hid htk; have HL := Lib.hid hls
    obtain ⟨vb, va, hh, hgl, hsb, hsa, hd⟩ := hls
    have hc0 : wr.cell? ⟨gl, 0, none⟩ = some (.pointer (some ⟨g, 0, none⟩)) := by rw [cell_of_row _ gl 0 _ _ _ hh]; rfl
    have HD := Lib.hid hd; have HH := Lib.hid hh
    clear hwr hdc hds htk hh hgl hsb hsa hd
    by_cases hlt : q < n
    · have hltI : (q : Int) < (n : Int) := by omega
      have hbs : q < bl.length := by rw [← HN.out]; exact hlt
      have hstep := WalMath.dataW_step (n := ns) (r := r) (sec := i) (b := bl) (by omega)
      have hds2 := HDS.out
      have hF := WalMath.frm_le (n := ns) (r := r) h2 hr
      have hfrom : ∀ W, DS w0 W B g dj → Calls Try.prog 64 #[.pointer (some ⟨g, 0, none⟩), .int .i64 r] W fun e w' => e = .returned (.int .i64 (WalMath.frm ns r)) ∧ w' = W := fun W hW => by
        have := wfrom_any hW (by rw [hds2]; exact h1) (by rw [hds2]; exact h2) r hr
        rwa [hds2] at this
      obtain ⟨F, hFe⟩ : ∃ F, F = WalMath.frm ns r := ⟨_, rfl⟩
      rw [← hFe] at hstep hfrom hF
      obtain ⟨L, hL⟩ : ∃ L, L = WalMath.blk bl i := ⟨_, rfl⟩
      have hLl : L.length = 512 := by rw [hL]; exact WalMath.blk_len _ _
      rw [← hL] at hstep
      obtain ⟨d2, hd2⟩ : ∃ d2, d2 = dj.write ((F + i : Nat) : Int) L := ⟨_, rfl⟩
      have hwrite : ∀ W v, DS w0 W B g dj → Sl W v L → Calls Try.prog 15 #[.pointer (some ⟨g, 0, none⟩), .int .i64 ((F + i : Nat) : Int), v] W fun e w' => e = .returned (.int .i64 d2.2) ∧ DS w0 w' B g d2.1 ∧ TK W w' := fun W v hW hv => by
        have := ds_write hW (by have := HDC.out; omega) ((F + i : Nat) : Int) hv (by rw [hLl]; decide)
        rwa [← hd2] at this
      have hsrcRd : Rd w A bl := (Sl.rd_eq HS.out).1
      obtain ⟨a, rfl⟩ := hsrcRd.some (by omega)
      obtain ⟨cs, hcs⟩ : ∃ cs, cs = bvl ((bl.drop q).take 512) := ⟨_, rfl⟩
      have hcsl : cs.length = Nat.min (n - q) 512 := by
        rw [hcs, bvl_length, List.length_take, List.length_drop, ← HN.out]
        show min 512 (n - q) = min (n - q) 512
        omega
      have hsplice : splice ZL 0 cs = bvl L := by rw [HZL.out, hcs, hL]; exact blk_splice bl i q HQ.out hbs
      have hsrcS : Rd wr (some a) bl := (Sl.rd_eq (HTK.out.sl HS.out)).1
      have hsrcC : ∀ j v, cs[j]? = some v → wr.cell? ((a.add q).add j) = some v := by
        intro j v hv
        obtain ⟨hj, hv2⟩ := List.getElem?_eq_some_iff.1 hv
        rw [hcsl] at hj
        have hj2 : j < n - q := Nat.lt_of_lt_of_le hj (Nat.min_le_left _ _)
        obtain ⟨a', e, hcell⟩ := hsrcS.at_ (q + j) (by rw [← HN.out]; omega)
        injection e with e
        subst e
        rw [Go.Deep.add_add, hcell, ← hv2]
        simp [hcs, bvl]
      have hone : ∀ v ∈ cs, v.oneCell' = true := by rw [hcs]; exact bvl_one _
      have hZl : ZL.length = 512 := by rw [HZL.out, bvl_length, List.length_replicate]
      have hcs5 : 0 + cs.length ≤ ZL.length := by rw [hcsl, hZl, Nat.zero_add]; exact Nat.min_le_right _ _
      have hcsz : cs.length = Nat.min (n - q) 512 := hcsl
      have hdiv : ((q : Int) / (512 : Int)) = (i : Int) := by omega
      have hws : IntKind.i64.wrap ((F : Int) + (i : Int)) = ((F + i : Nat) : Int) := by rw [IntKind.wrap_i64]; omega
      have hwd : IntKind.i64.wrap (i : Int) = (i : Int) := by rw [IntKind.wrap_i64]; omega
      have hwq : IntKind.i64.wrap ((q : Int) + (512 : Int)) = ((q + 512 : Nat) : Int) := by rw [IntKind.wrap_i64]; omega
      have b1 : (q : Int) ≤ c := by omega
      have b2 : ¬ c = q := by omega
      have HSTEP := Lib.hid hstep; have HFROM := Lib.hid hfrom; have HWRITE := Lib.hid hwrite; have HSRC := Lib.hid hsrcC; have HSPL := Lib.hid hsplice; have HONE := Lib.hid hone; have HCS5 := Lib.hid hcs5; have HCSL := Lib.hid hcsz; have HLL := Lib.hid hLl; have HD2 := Lib.hid hd2
      have HB0 : Hid (∀ W, Below wr.heap.size wr W → TK wr W) := Lib.hid fun W hW => TK.of_below hW
      clear hstep hfrom hwrite hsrcC hsplice hone hcs5 hcsz hLl hd2 hcsl hcs hL hFe hds2 hq hsrcRd hsrcS hZl
      go_wp2_with (with_reducible refine wpList_copy_splice rfl (.tmp 21) (.tmp 24) 33 33 rfl 5 Try.underlying33 info_u8s (some ⟨wr.heap.size, 0, none⟩) (some (a.add q)) 512 512 (n - q) (c - q) rfl rfl wr.heap.size 0 ZL 5 ?c1 cs HCSL.out (fun _ => ⟨rfl, a.add q, rfl, ?c2⟩) HCS5.out HONE.out wr.heap.size wr ?c3 (Nat.le_refl _) ?_)
      case c1 => exact heap_new wr _ _ rfl
      case c2 => exact fun j v hv => cell_alloc _ (HSRC.out j v hv)
      case c3 => exact (Below.refl _ wr).alloc (Nat.le_refl _) _
      intro w4 hw4 hb4
      have hsx : Sl w4 (.slice (some ⟨wr.heap.size, 0, none⟩) 512 512) L := by
        have h5 : w4.heap[wr.heap.size]? = some (.cells (bv L) 5 (0, 0)) := by
          have := hw4.out
          rw [HSPL.out] at this
          exact this
        refine ⟨_, 512, by rw [HLL.out], by rw [HLL.out]; exact Nat.le_refl _, Rd.of_block h5 (by rw [HLL.out]; decide), fun a' e => ?_⟩
        injection e with e
        subst e
        exact ⟨_, _, h5⟩
      have htk4 : TK w w4 := HTK.out.trans (HB0.out w4 hb4)
      have hd4 : DS w0 w4 B g dj := HD.out.below hb4
      have hc4 : w4.cell? ⟨gl, 0, none⟩ = some (.pointer (some ⟨g, 0, none⟩)) := cell_below hb4 hc0
      have HSX := Lib.hid hsx; have HTK4 := Lib.hid htk4; have HD4 := Lib.hid hd4
      have HC4 : Hid (∀ W, TK w4.drew W → W.cell? ⟨gl, 0, none⟩ = some (.pointer (some ⟨g, 0, none⟩))) := Lib.hid fun W hW => by
        have e4 : w4.drew.heap[gl]? = some _ := (hb4.block gl (Array.getElem?_eq_some_iff.1 HH.out).1).trans HH.out
        rw [cell_of_row _ gl 0 _ _ _ (hW _ _ _ _ (by decide) (by decide) e4)]
        rfl
      have HSW : Hid (∀ W, TK w4.drew W → Sl W (.slice (some ⟨wr.heap.size, 0, none⟩) 512 512) L) := Lib.hid fun W hW => hW.sl (hsx.below (Below.drew (Below.refl _ _)))
      have HLS4 : Hid (LS w0 w4 B g gl dj x dn) := Lib.hid (HL.out.below hb4)
      generalize wr.heap.size = gx at *
      clear hw4 hb4 hsx htk4 hd4 hc4 HSRC HSPL HONE HCS5 HCSL
      go_wp2_with fail
      refine Stg.wp_region_stg _ (wpTbl F d2.2) (wpJ w0 B g dj d2.1) [9, 14] TK.refl (fun _ _ _ => TK.trans) (HD4.out.below (Below.drew (Below.refl _ _))) (wpTbl_ks _ _) (by kernel_rfl) (by kernel_rfl) (by kernel_rfl) (by kernel_rfl) ?_
      repeat (first
        | (refine Stg.wpR_plain ?_ (by rfl) (fun K hK => ?_); (focus (first | (simp only [Region.wanted]; done) | (go_simp; done))); apply Exists.intro; refine ⟨fun W hW => ?_, ?_⟩; (go_simp; (try simp only [Stg.plainUpon_value, true_and]); rfl); go_simp; refine hK _ ?_; clear hK K)
        | (refine Stg.wpR_plain ?_ (by rfl) (fun K hK => ?_); (focus (first | (simp only [Region.wanted]; done) | (go_simp; done))); apply Exists.intro; refine ⟨fun W hW => ?_, ?_⟩; (have hcw := HC4.out W hW; go_simp; (try simp only [Stg.plainUpon_value, true_and]); rfl); go_simp; refine hK _ ?_; clear hK K)
        | (refine Stg.wpR_valS (by rfl) ?_ (fun W hW hJ hF => ?_) (fun K hK => ?_); (focus (first | (simp only [Region.wanted]; done) | (go_simp; done))); (go_simp; simp only [Stg.relUpon_enter]; refine (HFROM.out W hJ).mono ?_; rintro e w5 ⟨rfl, rfl⟩; exact ⟨_, rfl, TK.refl _, rfl, hJ⟩); go_simp; refine hK _ ?_; clear hK K)
        | (refine Stg.wpR_valS (by rfl) ?_ (fun W hW hJ hF => ?_) (fun K hK => ?_); (focus (first | (simp only [Region.wanted]; done) | (go_simp; done))); (go_simp; simp only [Stg.relUpon_enter]; refine (HWRITE.out W _ hJ (HSW.out W hW)).mono ?_; rintro e w5 ⟨rfl, h6, h7⟩; exact ⟨_, rfl, h7, rfl, h6⟩); go_simp; refine hK _ ?_; clear hK K))
      refine Stg.wpR_nil (fun W hW hJ hF => ?_)
      obtain ⟨d3, ec⟩ := d2
      have HDW : Hid (DS w0 W B g d3) := Lib.hid (show DS w0 W B g d3 from hJ)
      have HTW : Hid (TK w4 W) := Lib.hid ((TK.of_below (Below.drew (Below.refl _ w4))).trans hW)
      clear hJ hF hW HC4 HSW HFROM HWRITE
      by_cases hec : ec = 0
      · subst hec
        have hi9 : Hid (dj.sectors = ns ∧ d3.sectors = ns ∧ d3.cache.length ≤ i + 1) := Lib.hid (by
          have e1 := write_sectors dj ((F + i : Nat) : Int) L
          have e2 := WalMath.write_cache dj ((F + i : Nat) : Int) L
          rw [← HD2.out] at e1 e2
          refine ⟨HDS.out, e1.trans HDS.out, Nat.le_trans e2 (by have := HDC.out; omega)⟩)
        have HW2 : Hid (WalMath.wrs d (WalMath.dataW ns r sec bl) = WalMath.wrs d3 (WalMath.dataW ns r (i + 1) bl)) := Lib.hid (by rw [HWR.out, HSTEP.out]; exact WalMath.wrs_go HD2.out)
        go_wp2
        go_roundw
        case rel => exact ⟨i + 1, q + 512, by rw [HQ.out]; omega, by omega, by have := HQ.out; omega, by go_num, d3, HLS4.out.tk HTW.out HDW.out, HW2.out, hi9.out.2.1, hi9.out.2.2, HTK4.out.trans HTW.out⟩
        case measure => simp [intOf]; omega
      · have he1 : (ec != 0) = true := by simp [hec]
        have he2 : (ec == 0) = false := by simp [hec]
        have HEC := Lib.hid hec
        have HPUT : Hid (WalMath.putD d (WalMath.dataW d.sectors r sec bl) = (d3, ec)) := Lib.hid (by
          rw [← HNS.out]
          exact WalMath.putD_stop (by rw [HWR.out, HSTEP.out]; exact WalMath.wrs_stop HD2.out hec) hec)
        clear hec
        go_wp2
        go_ret
        rw [HPUT.out]
        exact ⟨rfl, HLS4.out.tk HTW.out HDW.out, HTK4.out.trans HTW.out⟩
    · have hltI : ¬ (q : Int) < (n : Int) := by omega
      have hend : WalMath.wrs d (WalMath.dataW ns r sec bl) = (dj, 0) := by
        rw [HWR.out, WalMath.dataW_end (by rw [← HN.out, ← HQ.out]; omega)]
        rfl
      have HPUT : Hid (WalMath.putD d (WalMath.dataW d.sectors r sec bl) = dj.flush) := Lib.hid (by
        rw [← HNS.out]
        exact WalMath.putD_go hend)
      have hfl := ds_flush HD.out (by have := HDC.out; omega)
      obtain ⟨d4, hd4⟩ : ∃ d4, d4 = dj.flush := ⟨_, rfl⟩
      rw [← hd4] at hfl HPUT
      have HFL := Lib.hid hfl
      clear hfl hend hd4 hlt hq
      go_wp2_with fail
      refine HFL.out.mono ?_
      rintro e w5 ⟨rfl, h6, h7⟩
      have HDW := Lib.hid h6; have HTW := Lib.hid h7
      clear h6 h7
      go_wp2
      go_ret
      rw [HPUT.out]
      exact ⟨rfl, HL.out.tk HTW.out HDW.out, HTK.out.trans HTW.out⟩
end Go.Proofs.Ytbpecfbliglboaa
/- wal: commit: bytes written, made safe, told of, made safe. -/
namespace Go.Proofs.Ytbpecfbliglboaa
open Go.RowKit
set_option linter.unusedVariables false
set_option linter.unusedSimpArgs false
attribute [local irreducible] Stg.wpR Stg.relOp
/-- blocks of other types than a device's and a log's stay -/
def TL (w w' : World) : Prop := ∀ (k : Nat) cs (t : Nat) fr, t ≠ 71 → t ≠ 75 → (t ≠ 87 ∧ t ≠ 33) → w.heap[k]? = some (.cells cs t fr) → w'.heap[k]? = some (.cells cs t fr)
theorem TL.refl (w : World) : TL w w := fun _ _ _ _ _ _ _ h => h
theorem TL.trans {a b c : World} (h : TL a b) (k : TL b c) : TL a c := fun i cs t fr h1 h2 h3 h4 => k i cs t fr h1 h2 h3 (h i cs t fr h1 h2 h3 h4)
theorem TK.tl {w w' : World} (h : TK w w') : TL w w' := fun k cs t fr h1 h2 _ h4 => h k cs t fr h1 h2 h4
theorem TL.of_chg {w w' : World} {gl : Nat} {cs : Array Value} {fr : Nat × Nat} (hh : w.heap[gl]? = some (.cells cs 87 fr)) (hc : Chg (· = gl) w w') : TL w w' := fun k cs' t fr' _ _ h3 h4 => hc.heap h4 (fun e => by
  rw [e, hh] at h4
  injection h4 with h4
  injection h4 with _ h4
  exact h3.1 h4.symm)
theorem TL.sl {w w' : World} (h : TL w w') {v : Value} {l : List UInt8} (hs : Sl w v l) : Sl w' v l := by
  obtain ⟨A, c, h1, h2, h3, h4⟩ := hs
  refine ⟨A, c, h1, h2, ⟨h3.1, fun hp => ?_⟩, fun a e => ?_⟩
  · obtain ⟨a, e, hc⟩ := h3.2 hp
    obtain ⟨cs, fr, h5⟩ := h4 a e
    refine ⟨a, e, fun j hj => ?_⟩
    have h6 : (a.add j).block = a.block := by unfold Addr.add; split <;> rfl
    rw [World.cell?_of_block (w := w) (by rw [h6]; exact (h _ _ _ _ (by decide) (by decide) ⟨by decide, by decide⟩ h5).trans h5.symm)]
    exact hc j hj
  · obtain ⟨cs, fr, h5⟩ := h4 a e
    exact ⟨cs, fr, h _ _ _ _ (by decide) (by decide) ⟨by decide, by decide⟩ h5⟩
/-- what the log is behind a commit -/
def comX (R : DevMath.Dev × Int) (x : WalMath.Lg) (r bs : Nat) (bl : List UInt8) : WalMath.Lg := if R.2 = 0 then { x with region := r, base := bs, buf := bl } else x
def comE (R : DevMath.Dev × Int) : Int := if R.2 = 0 then 0 else 7
def comD (R : DevMath.Dev × Int) (dn : Bool) : Bool := if R.2 = 0 then dn else true
theorem flush_cache (d : DevMath.Dev) : d.flush.1.cache.length ≤ d.cache.length := by
  have hb : d.burn.cache.length ≤ d.cache.length := by
    unfold DevMath.Dev.burn
    split
    · split
      · unfold DevMath.Dev.crash
        split <;> simp
      · exact Nat.le_refl _
    · exact Nat.le_refl _
  unfold DevMath.Dev.flush
  split
  · exact hb
  · exact Nat.zero_le _
theorem wrs_cache (ws : List (Int × List UInt8)) (d : DevMath.Dev) : (WalMath.wrs d ws).1.cache.length ≤ d.cache.length + ws.length := by
  induction ws generalizing d with
  | nil => exact Nat.le_refl _
  | cons r ws ih =>
    show (if (d.write r.1 r.2).2 = 0 then WalMath.wrs (d.write r.1 r.2).1 ws else d.write r.1 r.2).1.cache.length ≤ _
    have h := WalMath.write_cache d r.1 r.2
    rw [List.length_cons]
    split
    · have := ih (d.write r.1 r.2).1
      omega
    · omega
theorem putD_cache {n : Nat} {d : DevMath.Dev} {r sec : Nat} {bl : List UInt8} (hd : d.cache = []) (hb : bl.length ≤ 2097152) : (WalMath.putD d (WalMath.dataW n r sec bl)).1.cache.length ≤ 5000 := by
  have h := wrs_cache (WalMath.dataW n r sec bl) d
  have h2 : (WalMath.dataW n r sec bl).length ≤ 4097 := by
    unfold WalMath.dataW
    rw [List.length_map, List.length_range]
    omega
  rw [hd] at h
  simp only [List.length_nil] at h
  unfold WalMath.putD
  split
  · omega
  · have := flush_cache (WalMath.wrs d (WalMath.dataW n r sec bl)).1
    omega
theorem wrs_sectors (ws : List (Int × List UInt8)) (d : DevMath.Dev) : (WalMath.wrs d ws).1.sectors = d.sectors := by
  induction ws generalizing d with
  | nil => rfl
  | cons r ws ih =>
    show (if (d.write r.1 r.2).2 = 0 then WalMath.wrs (d.write r.1 r.2).1 ws else d.write r.1 r.2).1.sectors = _
    split
    · rw [ih, write_sectors]
    · rw [write_sectors]
theorem flush_sectors (d : DevMath.Dev) : d.flush.1.sectors = d.sectors := by
  unfold DevMath.Dev.flush
  repeat (first | split | rfl | exact burn_sectors d)
theorem putD_sectors (d : DevMath.Dev) (ws : List (Int × List UInt8)) : (WalMath.putD d ws).1.sectors = d.sectors := by
  unfold WalMath.putD
  split
  · exact wrs_sectors _ _
  · rw [flush_sectors, wrs_sectors]
/-- commitD told by putD -/
theorem commitD_put (d : DevMath.Dev) (ws : List (Int × List UInt8)) (H : List UInt8) : WalMath.commitD d ws H =
    (let a := WalMath.putD d ws; if a.2 ≠ 0 then (a.1, 7) else let h := a.1.write 0 H; if h.2 ≠ 0 then (h.1, 7) else let g := h.1.flush; if g.2 ≠ 0 then (g.1, 7) else (g.1, 0)) := by
  unfold WalMath.commitD WalMath.putD
  by_cases h : (WalMath.wrs d ws).2 ≠ 0
  · simp only [h, if_true, ne_eq, not_false_eq_true]
  · simp only [h, if_false, ne_eq]
theorem commitD_a {d d1 : DevMath.Dev} {ws : List (Int × List UInt8)} {H : List UInt8} {ec : Int} (h : (d1, ec) = WalMath.putD d ws) (he : ec ≠ 0) : WalMath.commitD d ws H = (d1, 7) := by
  rw [commitD_put, ← h]
  exact if_pos he
theorem commitD_b {d d1 d2 : DevMath.Dev} {ws : List (Int × List UInt8)} {H : List UInt8} {ec : Int} (h : (d1, 0) = WalMath.putD d ws) (h2 : (d2, ec) = d1.write 0 H) (he : ec ≠ 0) : WalMath.commitD d ws H = (d2, 7) := by
  rw [commitD_put, ← h]
  show (if (d1.write 0 H).2 ≠ 0 then ((d1.write 0 H).1, (7 : Int)) else _) = _
  rw [← h2]
  exact if_pos he
theorem commitD_c {d d1 d2 d3 : DevMath.Dev} {ws : List (Int × List UInt8)} {H : List UInt8} {ec : Int} (h : (d1, 0) = WalMath.putD d ws) (h2 : (d2, 0) = d1.write 0 H) (h3 : (d3, ec) = d2.flush) (he : ec ≠ 0) : WalMath.commitD d ws H = (d3, 7) := by
  rw [commitD_put, ← h]
  show (if (d1.write 0 H).2 ≠ 0 then ((d1.write 0 H).1, (7 : Int)) else if (d1.write 0 H).1.flush.2 ≠ 0 then ((d1.write 0 H).1.flush.1, (7 : Int)) else _) = _
  rw [← h2]
  show (if d2.flush.2 ≠ 0 then (d2.flush.1, (7 : Int)) else _) = _
  rw [← h3]
  exact if_pos he
theorem commitD_d {d d1 d2 d3 : DevMath.Dev} {ws : List (Int × List UInt8)} {H : List UInt8} (h : (d1, 0) = WalMath.putD d ws) (h2 : (d2, 0) = d1.write 0 H) (h3 : (d3, 0) = d2.flush) : WalMath.commitD d ws H = (d3, 0) := by
  rw [commitD_put, ← h]
  show (if (d1.write 0 H).2 ≠ 0 then ((d1.write 0 H).1, (7 : Int)) else if (d1.write 0 H).1.flush.2 ≠ 0 then ((d1.write 0 H).1.flush.1, (7 : Int)) else ((d1.write 0 H).1.flush.1, 0)) = _
  rw [← h2]
  show (if d2.flush.2 ≠ 0 then (d2.flush.1, (7 : Int)) else (d2.flush.1, 0)) = _
  rw [← h3]
  rfl
theorem LS.set {w0 w W : World} {B g gl : Nat} {d : DevMath.Dev} {x : WalMath.Lg} {dn : Bool} {vb va : Value} {cs : Array Value} {fr : Nat × Nat} (hh : w.heap[gl]? = some (.cells cs 87 fr)) (hgl : B ≤ gl) (hs : Sl w vb x.buf) (ha : Bsr w B va x.all) (hd : DS w0 w B g d) (hc : Chg (· = gl) w W)
    (hW : W.heap[gl]? = some (.cells #[.pointer (some ⟨g, 0, none⟩), .int .i64 x.region, .int .i64 x.base, vb, va, .bool dn] 87)) : LS w0 W B g gl d x dn :=
  ⟨vb, va, hW, hgl, hs.chg hc (not_u8 hh (by decide)), ha.log hh (by decide) (by decide) hc, hd.other hh hgl (by decide) (by decide) (by decide) (by decide) hc⟩
/-- the power went -/
theorem ls_done {w0 w W : World} {B g gl : Nat} {d : DevMath.Dev} {x : WalMath.Lg} {dn : Bool} (h : LS w0 w B g gl d x dn) (hW : W = w.setCell ⟨gl, 5, none⟩ (.bool true)) : LS w0 W B g gl d x true ∧ TL w W := by
  obtain ⟨vb, va, h1, h2, h3, h4, h5⟩ := h
  have hc : Chg (· = gl) w W := by rw [hW]; exact Chg.setCell _ _ _ _
  refine ⟨LS.set h1 h2 h3 h4 h5 hc ?_, TL.of_chg h1 hc⟩
  rw [hW, heap_setCell_same _ _ _ _ _ _ h1]
  rfl
theorem ls_com {w0 w W : World} {B g gl : Nat} {d : DevMath.Dev} {x : WalMath.Lg} {dn : Bool} {R Bn : Nat} {v : Value} {bl : List UInt8} (h : LS w0 w B g gl d x dn) (hs : Sl w v bl)
    (hW : W = ((w.setCell ⟨gl, 1, none⟩ (.int .i64 R)).setCell ⟨gl, 2, none⟩ (.int .i64 Bn)).setCell ⟨gl, 3, none⟩ v) : LS w0 W B g gl d { x with region := R, base := Bn, buf := bl } dn ∧ TL w W := by
  obtain ⟨vb, va, h1, h2, h3, h4, h5⟩ := h
  have hc : Chg (· = gl) w W := by
    rw [hW]
    exact (Chg.setCell w gl 1 _).trans ((Chg.setCell _ gl 2 _).trans (Chg.setCell _ gl 3 _))
  refine ⟨LS.set h1 h2 (x := { x with region := R, base := Bn, buf := bl }) hs h4 h5 hc ?_, TL.of_chg h1 hc⟩
  rw [hW, heap_setCell_same _ _ _ _ _ _ (heap_setCell_same _ _ _ _ _ _ (heap_setCell_same _ _ _ _ _ _ h1))]
  rfl
def wcTbl (H : List UInt8) (c : Int) : Nat → Option (Stg.SpS TK)
  | 9 => some (.rel (fun v => ∃ A c, v = .slice A 512 c ∧ 512 ≤ c) (fun v W => Sl W v H) ⟨.slice none 512 512, none, 512, rfl, Nat.le_refl _⟩ (fun _ _ _ h hg => hg.sl h))
  | 10 => some (.val (.int .i64 c))
  | _ => none
theorem wcTbl_ks (H : List UInt8) (c : Int) : ∀ i, (wcTbl H c i).isSome = [9, 10].contains i := by
  intro i
  match i with
  | 0 | 1 | 2 | 3 | 4 | 5 | 6 | 7 | 8 | 9 | 10 => rfl
  | n + 11 => simp [wcTbl]
theorem header_rel {w0 W : World} {B g : Nat} {d d' : DevMath.Dev} (hJ : wpJ w0 B g d d' 0 W) (r b e c : Nat) (hr : r ≤ 4294967295) (hb : b ≤ 4294967295) (he : e ≤ 4294967295) (hc : c ≤ 4294967295) :
    Calls Try.prog 70 #[.int .i64 r, .int .i64 b, .int .i64 e, .int .i64 c] W fun x w' => ∃ v, x = .returned v ∧ TK W w' ∧ ((∃ A c, v = .slice A 512 c ∧ 512 ≤ c) ∧ Sl w' v (WalMath.header r b e c)) ∧ wpJ w0 B g d d' 1 w' := by
  refine (header_any W r b e c hr hb he hc).mono ?_
  rintro x w1 ⟨v, rfl, ho, hb1⟩
  have hs := ho.sl
  obtain ⟨A, c1, hv, hc1, _⟩ := hs.rd
  rw [WalMath.header_len] at hv hc1
  exact ⟨v, rfl, TK.of_below hb1, ⟨⟨A, c1, hv, hc1⟩, hs⟩, DS.below (show DS w0 W B g d from hJ) hb1⟩
set_option maxRecDepth 20000 in
set_option maxHeartbeats 8000000 in
theorem wcommit_any {w0 w : World} {B g gl : Nat} {d : DevMath.Dev} {x : WalMath.Lg} {dn : Bool} (h : LS w0 w B g gl d x dn) (h1 : 1 ≤ d.sectors) (h2 : d.sectors ≤ 8192) (hca : d.cache = []) (r sec bs cnt : Nat) (hr : r ≤ 1) (hsec : sec ≤ 4096) (hbs : bs ≤ 4294967295) (hcnt : cnt ≤ 4294967295)
    (A : Option Addr) (c n : Nat) (bl : List UInt8) (hn : n = bl.length) (hs : Sl w (.slice A n c) bl) (hb : bl.length ≤ WalMath.room d.sectors) (R : DevMath.Dev × Int) (hR : R = WalMath.commitD d (WalMath.dataW d.sectors r sec bl) (WalMath.header r bs n cnt)) :
    Calls Try.prog 56 #[.pointer (some ⟨gl, 0, none⟩), .int .i64 r, .int .i64 sec, .int .i64 bs, .int .i64 cnt, .slice A n c] w fun e w' =>
      e = .returned (.int .i64 (comE R)) ∧ LS w0 w' B g gl R.1 (comX R x r bs bl) (comD R dn) ∧ TL w w' := by
  have hroom : WalMath.room d.sectors ≤ 2097152 := by unfold WalMath.room WalMath.size; omega
  have hput := wput_any h h1 h2 hca r sec hr hsec A c n bl hn hs (by omega)
  have hpc := putD_cache (n := d.sectors) (r := r) (sec := sec) (bl := bl) hca (by omega)
  have hps := putD_sectors d (WalMath.dataW d.sectors r sec bl)
  obtain ⟨⟨d1, ec⟩, hpd⟩ : ∃ p, p = WalMath.putD d (WalMath.dataW d.sectors r sec bl) := ⟨_, rfl⟩
  rw [← hpd] at hput hpc hps
  simp only at hpc hps
  have HPUT := Lib.hid hput; have HPC := Lib.hid hpc; have HPS := Lib.hid hps; have HPD := Lib.hid hpd; have HR := Lib.hid hR; have HSL := Lib.hid hs
  have hn4 : n ≤ 4294967295 := by omega
  clear hput hpc hps hpd hR hs h hn hb hroom hca
  go_enter Try.func56, Try.ntmps56
  go_wp2_with fail
  refine HPUT.out.mono ?_
  rintro e w1 ⟨rfl, hls1, htk1⟩
  have HTK1 := Lib.hid htk1; have HLS1 := Lib.hid hls1
  obtain ⟨vb, va, hh, hgl, hsb, hsa, hd⟩ := hls1
  have HSL1 := Lib.hid (htk1.sl HSL.out)
  have HH := Lib.hid hh; have HD := Lib.hid hd
  clear htk1 hgl hsb hsa hd
  by_cases hec : ec = 0
  · subst hec
    clear hh
    obtain ⟨H, hH⟩ : ∃ H, H = WalMath.header r bs n cnt := ⟨_, rfl⟩
    obtain ⟨⟨d2, ec2⟩, hd2⟩ : ∃ p, p = d1.write 0 H := ⟨_, rfl⟩
    have HC1 : Hid (∀ W, TK w1.drew W → W.cell? ⟨gl, 0, none⟩ = some (.pointer (some ⟨g, 0, none⟩))) := Lib.hid fun W hW => by
      rw [cell_of_row _ gl 0 _ _ _ (hW _ _ _ _ (by decide) (by decide) (show w1.drew.heap[gl]? = _ from HH.out))]
      rfl
    have HHL : Hid (H.length = 512) := Lib.hid (by rw [hH]; exact WalMath.header_len _ _ _ _)
    have HHE := Lib.hid hH; have HD2 := Lib.hid hd2
    clear hH hd2
    go_wp2_with fail
    refine Stg.wp_region_stg _ (wcTbl H ec2) (wpJ w0 B g d1 d2) [9, 10] TK.refl (fun _ _ _ => TK.trans) (HD.out.below (Below.drew (Below.refl _ _))) (wcTbl_ks _ _) (by kernel_rfl) (by kernel_rfl) (by kernel_rfl) (by kernel_rfl) ?_
    repeat (first
      | (refine Stg.wpR_plain ?_ (by rfl) (fun K hK => ?_); (focus (first | (simp only [Region.wanted]; done) | (go_simp; done))); apply Exists.intro; refine ⟨fun W hW => ?_, ?_⟩; (go_simp; (try simp only [Stg.plainUpon_value, true_and]); rfl); go_simp; refine hK _ ?_; clear hK K)
      | (refine Stg.wpR_plain ?_ (by rfl) (fun K hK => ?_); (focus (first | (simp only [Region.wanted]; done) | (go_simp; done))); apply Exists.intro; refine ⟨fun W hW => ?_, ?_⟩; (have hcw := HC1.out W hW; go_simp; (try simp only [Stg.plainUpon_value, true_and]); rfl); go_simp; refine hK _ ?_; clear hK K)
      | (refine Stg.wpR_propS (by rfl) ?_ (fun W hW hJ hF => ?_) (fun K v hv hK => ?_); (focus (first | (simp only [Region.wanted]; done) | (go_simp; done))); (go_simp; simp only [Stg.relUpon_enter]; rw [HHE.out]; exact header_rel hJ r bs n cnt (by omega) hbs hn4 hcnt); obtain ⟨A9, c9, rfl, hc9⟩ := hv; go_simp; refine hK _ ?_; clear hK K)
      | (refine Stg.wpR_valS (by rfl) ?_ (fun W hW hJ hF => ?_) (fun K hK => ?_); (focus (first | (simp only [Region.wanted]; done) | (go_simp; done))); (go_simp; simp only [Stg.relUpon_enter]; refine (ds_write (show DS w0 W B g d1 from hJ) (by have := HPC.out; omega) 0 (show Sl W (.slice A9 512 c9) H from hF 9 rfl) (by rw [HHL.out]; decide)).mono ?_; rintro e w5 ⟨rfl, h6, h7⟩; rw [← HD2.out] at h6 ⊢; exact ⟨_, rfl, h7, rfl, h6⟩); go_simp; refine hK _ ?_; clear hK K))
    refine Stg.wpR_nil (fun W hW hJ hF => ?_)
    have HLS2 : Hid (LS w0 W B g gl d2 x dn) := Lib.hid ((HLS1.out.tk (TK.of_below (Below.drew (Below.refl _ w1))) (HD.out.below (Below.drew (Below.refl _ _)))).tk hW (show DS w0 W B g d2 from hJ))
    have HTK2 : Hid (TK w W) := Lib.hid (HTK1.out.trans ((TK.of_below (Below.drew (Below.refl _ w1))).trans hW))
    have HDW : Hid (DS w0 W B g d2) := Lib.hid (show DS w0 W B g d2 from hJ)
    have HHW : Hid (W.heap[gl]? = some (.cells #[.pointer (some ⟨g, 0, none⟩), .int .i64 x.region, .int .i64 x.base, vb, va, .bool dn] 87)) := Lib.hid (hW _ _ _ _ (by decide) (by decide) (show w1.drew.heap[gl]? = _ from HH.out))
    clear hJ hF hW HC1
    by_cases hec2 : ec2 = 0
    · subst hec2
      have hfl := ds_flush HDW.out (by
        have := WalMath.write_cache d1 0 H
        rw [← HD2.out] at this
        have h5 := HPC.out
        simp only at this
        omega)
      obtain ⟨⟨d3, ec3⟩, hd3⟩ : ∃ p, p = d2.flush := ⟨_, rfl⟩
      rw [← hd3] at hfl
      have HFL := Lib.hid hfl; have HD3 := Lib.hid hd3
      have kc : W.cell? ⟨gl, 0, none⟩ = some (.pointer (some ⟨g, 0, none⟩)) := by rw [cell_of_row _ gl 0 _ _ _ HHW.out]; rfl
      clear hfl hd3
      go_wp2_with fail
      refine HFL.out.mono ?_
      rintro e w3 ⟨rfl, hd3, htk3⟩
      have HLS3 := Lib.hid (HLS2.out.tk htk3 hd3)
      have HTL3 := Lib.hid (HTK2.out.trans htk3).tl
      have HH3 : Hid (w3.heap[gl]? = some (.cells #[.pointer (some ⟨g, 0, none⟩), .int .i64 x.region, .int .i64 x.base, vb, va, .bool dn] 87)) := Lib.hid (htk3 _ _ _ _ (by decide) (by decide) HHW.out)
      have HSL3 := Lib.hid ((HTK2.out.trans htk3).sl HSL.out)
      clear hd3 htk3 kc
      by_cases hec3 : ec3 = 0
      · subst hec3
        have HRE : Hid (R = (d3, 0)) := Lib.hid (by rw [HR.out]; exact commitD_d HPD.out (by rw [← HHE.out]; exact HD2.out) HD3.out)
        have k1 : w3.cell? ⟨gl, 1, none⟩ = some (.int .i64 x.region) := by rw [cell_of_row _ gl 1 _ _ _ HH3.out]; rfl
        have k2 : w3.cell? ⟨gl, 2, none⟩ = some (.int .i64 x.base) := by rw [cell_of_row _ gl 2 _ _ _ HH3.out]; rfl
        have k3 : w3.cell? ⟨gl, 3, none⟩ = some vb := by rw [cell_of_row _ gl 3 _ _ _ HH3.out]; rfl
        have f1 : w3.frozen? ⟨gl, 1, none⟩ = false := frozen_of_row w3 gl 1 _ _ HH3.out
        have f2 : w3.frozen? ⟨gl, 2, none⟩ = false := frozen_of_row w3 gl 2 _ _ HH3.out
        have f3 : w3.frozen? ⟨gl, 3, none⟩ = false := frozen_of_row w3 gl 3 _ _ HH3.out
        go_wp2
        go_ret
        have hz := ls_com (R := r) (Bn := bs) (v := .slice A n c) (bl := bl) HLS3.out HSL3.out rfl
        rw [HRE.out]
        exact ⟨rfl, hz.1, HTL3.out.trans hz.2⟩
      · have he1 : (ec3 != 0) = true := by simp [hec3]
        have he2 : (ec3 == 0) = false := by simp [hec3]
        have HRE : Hid (R = (d3, 7)) := Lib.hid (by rw [HR.out]; exact commitD_c HPD.out (by rw [← HHE.out]; exact HD2.out) HD3.out hec3)
        clear hec3
        (obtain ⟨vbz, vaz, hhz, _⟩ := HLS3.out
         have k5 := (show World.cell? _ ⟨gl, 5, none⟩ = some (.bool dn) from by rw [cell_of_row _ gl 5 _ _ _ hhz]; rfl)
         have f5 := frozen_of_row _ gl 5 _ _ hhz
         clear hhz
         go_wp2
         go_ret
         have hz := ls_done HLS3.out rfl
         rw [HRE.out]
         exact ⟨rfl, hz.1, HTL3.out.trans hz.2⟩)
    · have he1 : (ec2 != 0) = true := by simp [hec2]
      have he2 : (ec2 == 0) = false := by simp [hec2]
      have HRE : Hid (R = (d2, 7)) := Lib.hid (by rw [HR.out]; exact commitD_b HPD.out (by rw [← HHE.out]; exact HD2.out) hec2)
      have HTL2 := Lib.hid HTK2.out.tl
      clear hec2
      (obtain ⟨vbz, vaz, hhz, _⟩ := HLS2.out
       have k5 := (show World.cell? _ ⟨gl, 5, none⟩ = some (.bool dn) from by rw [cell_of_row _ gl 5 _ _ _ hhz]; rfl)
       have f5 := frozen_of_row _ gl 5 _ _ hhz
       clear hhz
       go_wp2
       go_ret
       have hz := ls_done HLS2.out rfl
       rw [HRE.out]
       exact ⟨rfl, hz.1, HTL2.out.trans hz.2⟩)
  · have he1 : (ec != 0) = true := by simp [hec]
    have he2 : (ec == 0) = false := by simp [hec]
    have HRE : Hid (R = (d1, 7)) := Lib.hid (by rw [HR.out]; exact commitD_a HPD.out hec)
    have HTL2 := Lib.hid HTK1.out.tl
    clear hec hh
    (obtain ⟨vbz, vaz, hhz, _⟩ := HLS1.out
     have k5 := (show World.cell? _ ⟨gl, 5, none⟩ = some (.bool dn) from by rw [cell_of_row _ gl 5 _ _ _ hhz]; rfl)
     have f5 := frozen_of_row _ gl 5 _ _ hhz
     clear hhz
     go_wp2
     go_ret
     have hz := ls_done HLS1.out rfl
     rw [HRE.out]
     exact ⟨rfl, hz.1, HTL2.out.trans hz.2⟩)
end Go.Proofs.Ytbpecfbliglboaa
/- wal: Add. -/
namespace WalMath
/-- a log, told as a plain law -/
def addB (x : Lg) (body : List UInt8) : List UInt8 := x.buf ++ RecMath.recB (x.all.length + 1) body
def addR (d : DevMath.Dev) (x : Lg) (body : List UInt8) : DevMath.Dev × Int := commitD d (dataW d.sectors x.region (x.buf.length / 512) (addB x body)) (header x.region x.base (addB x body).length (x.all.length + 1))
theorem Wf.count16 {n : Nat} {g : Lg} (h : Wf n g) : 16 * g.all.length ≤ g.buf.length := by
  obtain ⟨bb, h1, h2⟩ := h.parts
  have : ∀ (N : Nat) (ls : List (List UInt8)), 16 * ls.length ≤ (RecMath.recs N ls).length := by
    intro N ls
    induction ls generalizing N with
    | nil => simp
    | cons l ls ih =>
      have := ih (N + 1)
      rw [RecMath.recs, List.length_append, RecMath.recB_length, List.length_cons]; omega
  have := this 1 g.all
  rw [h1, List.length_append]; omega
end WalMath
namespace Go.Proofs.Ytbpecfbliglboaa
open Go.RowKit
set_option linter.unusedVariables false
set_option linter.unusedSimpArgs false
attribute [local irreducible] Stu.wpR Stu.relOp wpR relOp
def Gb (W W' : World) : Prop := Below W.heap.size W W'
theorem Gb.refl (W : World) : Gb W W := Below.refl _ _
theorem Gb.trans (a b c : World) (h : Gb a b) (k : Gb b c) : Gb a c := below_add h k
/-- rec.Put's answer -/
def rpS (n : Nat) (b : List UInt8) : Stu.SpU Gb Gb := ⟨false, fun _ v => ∃ A c, v = .tuple #[.slice A n c, .int .i64 0] ∧ n ≤ c, fun _ v W => ∃ A c, v = .tuple #[.slice A n c, .int .i64 0] ∧ Sl W (.slice A n c) b, fun _ _ => True, fun _ _ W W' h hg => by
  obtain ⟨A, c, h1, h2⟩ := h
  exact ⟨A, c, h1, h2.below hg⟩, fun _ _ _ _ _ => trivial⟩
theorem rp_rel (W : World) (A A2 : Option Addr) (m n k c c2 : Nat) (l body : List UInt8) (hm : m = l.length) (hl : m ≤ 2097152) (hr : Rd W A l) (hn : n = body.length) (hn2 : n ≤ 200000) (hr2 : Rd W A2 body) (b : List UInt8) (hb : b = l ++ RecMath.recB (k + 1) body) (hk : k ≤ 1000000000) (N : Nat) (hN : N = b.length) (xs : List Value) :
    Calls Try.prog 54 #[.slice A m c, .agg #[.int .i64 ((k : Int) + 1), .slice A2 n c2]] W fun e w' => ∃ v, e = .returned v ∧ Gb W w' ∧ (rpS N b).p xs v ∧ (rpS N b).q xs v w' := by
  subst hm; subst hn
  refine (put_any W A c l ((k : Int) + 1) A2 c2 body hr (by omega) hr2 (by omega) (by simp [Lit.wf, IntKind.min, IntKind.max, IntKind.signed, IntKind.bits]; omega)).mono ?_
  rintro e w1 ⟨v, rfl, ho, hb1⟩
  have e1 : putE ((k : Int) + 1) body.length = 0 := if_pos ⟨by omega, hn2⟩
  have e2 : putB l ((k : Int) + 1) body = b := by
    unfold putB
    rw [if_pos ⟨by omega, hn2⟩, hb]
    rfl
  rw [e1]
  rw [e2] at ho
  have hs := ho.sl
  obtain ⟨A', c', rfl, hc', _⟩ := hs.rd
  rw [← hN] at hs hc' ⊢
  exact ⟨_, rfl, hb1, ⟨A', c', rfl, hc'⟩, ⟨A', c', rfl, hs⟩⟩
set_option maxRecDepth 20000 in
theorem wadd_no {w0 w : World} {B g gl : Nat} {d : DevMath.Dev} {x : WalMath.Lg} {dn : Bool} (h : LS w0 w B g gl d x dn) (A : Option Addr) (n c : Nat) (hm : mayE dn n ≠ 0) :
    Calls Try.prog 35 #[.pointer (some ⟨gl, 0, none⟩), .slice A n c] w fun e w' => e = .returned (.int .i64 (mayE dn n)) ∧ w' = w := by
  have HM := Lib.hid (wmay_any h A n c)
  generalize mayE dn n = m at *
  have he1 : (m != 0) = true := by simp [hm]
  have he2 : (m == 0) = false := by simp [hm]
  clear h hm
  go_enter Try.func35, Try.ntmps35
  go_wp2_with fail
  refine HM.out.mono ?_
  rintro e w ⟨rfl, rfl⟩
  go_wp2
  go_ret
  exact ⟨rfl, rfl⟩
theorem mayE_zero {dn : Bool} {n : Nat} (h : mayE dn n = 0) : dn = false ∧ n ≤ 200000 := by
  unfold mayE at h
  cases dn with
  | true => simp at h
  | false => exact ⟨rfl, by simp at h; omega⟩
set_option maxRecDepth 20000 in
set_option maxHeartbeats 8000000 in
theorem wadd_full {w0 w : World} {B g gl : Nat} {d : DevMath.Dev} {x : WalMath.Lg} {dn : Bool} (h : LS w0 w B g gl d x dn) (h1 : 1 ≤ d.sectors) (h2 : d.sectors ≤ 8192) (hw : WalMath.Wf d.sectors x) (A : Option Addr) (n c : Nat) (body : List UInt8) (hn : n = body.length) (hs : ∀ W, Below B w0 W → TL w W → Rd W A body) (hm : mayE dn n = 0)
    (hf : WalMath.room d.sectors < (WalMath.addB x body).length) :
    Calls Try.prog 35 #[.pointer (some ⟨gl, 0, none⟩), .slice A n c] w fun e w' => e = .returned (.int .i64 6) ∧ LS w0 w' B g gl d x dn ∧ Below w.heap.size w w' := by
  have hroom : WalMath.room d.sectors ≤ 2097152 := by unfold WalMath.room WalMath.size; omega
  obtain ⟨hdnf, hn2⟩ := mayE_zero hm
  clear hdnf
  have hmay := wmay_any h A n c
  rw [hm] at hmay
  have hcnt := hw.count16
  have hfit := hw.fits
  have HL := Lib.hid h
  obtain ⟨vb, va, hh, hgl, hsb, hsa, hd⟩ := h
  obtain ⟨Ab, cb, rfl, hcb, hrb⟩ := hsb.rd
  obtain ⟨Aa, ca, rfl, hca⟩ := hsa.shp
  obtain ⟨N, hN⟩ : ∃ N, N = (WalMath.addB x body).length := ⟨_, rfl⟩
  rw [← hN] at hf
  obtain ⟨nb, hnb⟩ : ∃ nb, nb = x.buf.length := ⟨_, rfl⟩
  obtain ⟨na, hna⟩ : ∃ na, na = x.all.length := ⟨_, rfl⟩
  rw [← hnb] at hh hcb hcnt hfit hsb
  rw [← hna] at hh hca hcnt
  have HMAY := Lib.hid hmay; have HN := Lib.hid hN; have HNB := Lib.hid hnb; have HNA := Lib.hid hna; have HD := Lib.hid hd; have HS := Lib.hid hs; have HRS0 := Lib.hid (hs w hd.bel (TL.refl w)); have HNN := Lib.hid hn
  have HRB := Lib.hid hrb; have HH := Lib.hid hh
  have hwa : IntKind.i64.wrap ((na : Int) + 1) = (na : Int) + 1 := by rw [IntKind.wrap_i64]; omega
  have hna9 : (na : Int) ≤ 2097152 := by omega
  obtain ⟨rm, hrm⟩ : ∃ rm, rm = WalMath.room d.sectors := ⟨_, rfl⟩
  rw [← hrm] at hf hroom hfit
  have HRM := Lib.hid hrm
  have hfI : (rm : Int) < (N : Int) := by omega
  skip
  clear hmay hN hnb hna hd hs hn hrb hh hw hm hsb hsa hrm
  go_enter Try.func35, Try.ntmps35
  go_wp2_with fail
  refine HMAY.out.mono ?_
  rintro e w ⟨rfl, rfl⟩
  go_wp2_with fail
  have HC : Hid (∀ W, Gb w.drew W → W.cell? ⟨gl, 3, none⟩ = some (.slice Ab nb cb) ∧ W.cell? ⟨gl, 4, none⟩ = some (.slice Aa na ca)) := Lib.hid fun W hW => by
    have e4 : W.heap[gl]? = some _ := (Below.block hW gl (Array.getElem?_eq_some_iff.1 (show w.drew.heap[gl]? = _ from HH.out)).1).trans HH.out
    exact ⟨by rw [cell_of_row _ gl 3 _ _ _ e4]; rfl, by rw [cell_of_row _ gl 4 _ _ _ e4]; rfl⟩
  have HRW : Hid (∀ W, Gb w.drew W → Rd W Ab x.buf ∧ Rd W A body) := Lib.hid fun W hW => ⟨(HRB.out.below (Below.drew (Below.refl _ w))).below hW, (HRS0.out.below (Below.drew (Below.refl _ w))).below hW⟩
  refine Stu.wp_region_stu _ (Stu.mkT [(12, rpS N (WalMath.addB x body))]) (fun _ => True) [] Gb.refl Gb.trans (fun _ _ h => h) (fun _ _ _ _ => trivial) trivial (Stu.mkT_ks _ (by show List.Nodup [12]; decide) _ rfl) (by kernel_rfl) (by kernel_rfl) (by kernel_rfl) ?_
  repeat (first
    | (refine Stu.wpR_plain ?_ (by rfl) (by rfl) (fun K hK => ?_); (focus (first | (simp only [Region.wanted]; done) | (go_simp; done))); apply Exists.intro; refine ⟨fun W hW => ?_, ?_⟩; (go_simp; (try simp only [Stu.plainUpon_value, true_and]); rfl); go_simp; refine hK _ ?_; clear hK K)
    | (refine Stu.wpR_plain ?_ (by rfl) (by rfl) (fun K hK => ?_); (focus (first | (simp only [Region.wanted]; done) | (go_simp; done))); apply Exists.intro; refine ⟨fun W hW => ?_, ?_⟩; (have hcw := HC.out W hW; go_simp; (try simp only [Stu.plainUpon_value, true_and]); rfl); go_simp; refine hK _ ?_; clear hK K)
    | (refine Stu.wpR_spg (by rfl) (by rfl) ?_ ?_ (fun W hW hF => ?_) (fun K v hv hK => ?_); (focus (first | (simp only [Region.wanted]; done) | (go_simp; done))); (focus (exact ⟨_, none, _, rfl, Nat.le_refl _⟩)); (go_simp; simp only [Stu.relUpon_enter]; exact rp_rel W Ab A nb n na cb c x.buf body HNB.out (by omega) (HRW.out W hW).1 HNN.out hn2 (HRW.out W hW).2 _ (by rw [HNA.out]; rfl) (by omega) N HN.out _); (obtain ⟨Ap, cp, rfl, hcp⟩ := hv); go_simp; refine hK _ ?_; clear hK K))
  refine Stu.wpR_nil (fun W hW hU hF => ?_)
  have HB := Lib.hid (Below.trans (Below.drew (Below.refl _ w)) hW)
  have k0 : W.cell? ⟨gl, 0, none⟩ = some (.pointer (some ⟨g, 0, none⟩)) := cell_below HB.out (by rw [cell_of_row _ gl 0 _ _ _ HH.out]; rfl)
  have hro := wroom_any (HD.out.below HB.out) h1 h2
  rw [← HRM.out] at hro
  have HRO := Lib.hid hro
  clear hW hU hF HC HRW hro
  go_wp2_with fail
  refine HRO.out.mono ?_
  rintro e w5 ⟨rfl, rfl⟩
  go_wp2
  go_ret
  exact ⟨rfl, HL.out.below HB.out, HB.out⟩
def addX (R : DevMath.Dev × Int) (x : WalMath.Lg) (body : List UInt8) : WalMath.Lg := if R.2 = 0 then ⟨x.region, x.base, WalMath.addB x body, x.all ++ [body]⟩ else x
/-- bytes.Clone's answer -/
def clS (S0 n : Nat) (b : List UInt8) : Stu.SpU (TE 33 1 S0) (Gs S0) := ⟨false, fun _ v => ∃ A c, v = .slice A n c ∧ n ≤ c, fun _ v W => Sl W v b, fun _ _ => True, fun _ _ _ _ h hg => hg.sl (by decide) h, fun _ _ _ _ _ => trivial⟩
theorem cl_rel {S0 : Nat} (W : World) (hS : S0 ≤ W.heap.size) (A : Option Addr) (n c : Nat) (l : List UInt8) (hn : n = l.length) (hl : n ≤ 1000000) (hr : Rd W A l) (xs : List Value) :
    Calls Try.prog 44 #[.slice A n c] W fun e w' => ∃ v, e = .returned v ∧ Gs S0 W w' ∧ (clS S0 n l).p xs v ∧ (clS S0 n l).q xs v w' := by
  subst hn
  refine (clone_any W A c l hr (by omega)).mono ?_
  rintro e w1 ⟨v, rfl, ho, hb⟩
  have hs := ho.sl
  obtain ⟨A', c', rfl, hc', _⟩ := hs.rd
  exact ⟨_, rfl, ⟨hb, hS⟩, ⟨A', c', rfl, hc'⟩, hs⟩
/-- a literal of one slice -/
def bsX (S0 : Nat) : Stu.SpU (TE 33 1 S0) (Gs S0) := ⟨false, fun _ v => ∃ g, v = .slice (some ⟨g, 0, none⟩) 1 1, fun xs v W => xs.length = 1 ∧ ∃ g, v = .slice (some ⟨g, 0, none⟩) 1 1 ∧ W.heap[g]? = some (.cells xs.toArray 33), fun _ _ => True, fun xs _ W W' h hg => by
  obtain ⟨h0, g, h1, h3⟩ := h
  exact ⟨h0, g, h1, hg.2 _ _ _ _ (.inr (by simp [h0])) h3⟩, fun _ _ _ _ _ => trivial⟩
set_option maxRecDepth 20000 in
set_option maxHeartbeats 8000000 in
theorem wadd_go {w0 w : World} {B g gl : Nat} {d : DevMath.Dev} {x : WalMath.Lg} {dn : Bool} (h : LS w0 w B g gl d x dn) (h1 : 1 ≤ d.sectors) (h2 : d.sectors ≤ 8192) (hon : d.cache = []) (hw : WalMath.Wf d.sectors x) (A : Option Addr) (n c : Nat) (body : List UInt8) (hn : n = body.length) (hs : ∀ W, Below B w0 W → TL w W → Rd W A body) (hm : mayE dn n = 0)
    (hf : (WalMath.addB x body).length ≤ WalMath.room d.sectors) :
    Calls Try.prog 35 #[.pointer (some ⟨gl, 0, none⟩), .slice A n c] w fun e w' => e = .returned (.int .i64 (comE (WalMath.addR d x body))) ∧ LS w0 w' B g gl (WalMath.addR d x body).1 (addX (WalMath.addR d x body) x body) (comD (WalMath.addR d x body) dn) ∧ TL w w' := by
  have hreg := hw.reg
  have HWB : Hid (x.base ≤ x.buf.length) := Lib.hid (by obtain ⟨bb, q1, q2⟩ := hw.parts; rw [q1, List.length_append]; omega)
  have HON := Lib.hid hon
  clear hon
  obtain ⟨R, hR⟩ : ∃ R, R = WalMath.addR d x body := ⟨_, rfl⟩
  rw [← hR]
  have HR := Lib.hid hR
  obtain ⟨ec, hec⟩ : ∃ ec, ec = comE R := ⟨_, rfl⟩
  rw [← hec]
  have HEC := Lib.hid hec
  obtain ⟨dn8, hdn8⟩ : ∃ b, b = comD R dn := ⟨_, rfl⟩
  rw [← hdn8]
  have HDN8 := Lib.hid hdn8
  clear hR hec hdn8
  have hroom : WalMath.room d.sectors ≤ 2097152 := by unfold WalMath.room WalMath.size; omega
  obtain ⟨hdnf, hn2⟩ := mayE_zero hm
  clear hdnf
  have hmay := wmay_any h A n c
  rw [hm] at hmay
  have hcnt := hw.count16
  have hfit := hw.fits
  have HL := Lib.hid h
  obtain ⟨vb, va, hh, hgl, hsb, hsa, hd⟩ := h
  obtain ⟨Ab, cb, rfl, hcb, hrb⟩ := hsb.rd
  obtain ⟨Aa, ca, rfl, hca⟩ := hsa.shp
  obtain ⟨N, hN⟩ : ∃ N, N = (WalMath.addB x body).length := ⟨_, rfl⟩
  rw [← hN] at hf
  obtain ⟨nb, hnb⟩ : ∃ nb, nb = x.buf.length := ⟨_, rfl⟩
  obtain ⟨na, hna⟩ : ∃ na, na = x.all.length := ⟨_, rfl⟩
  rw [← hnb] at hh hcb hcnt hfit hsb
  rw [← hna] at hh hca hcnt
  have HMAY := Lib.hid hmay; have HN := Lib.hid hN; have HNB := Lib.hid hnb; have HNA := Lib.hid hna; have HD := Lib.hid hd; have HS := Lib.hid hs; have HRS0 := Lib.hid (hs w hd.bel (TL.refl w)); have HNN := Lib.hid hn
  have HRB := Lib.hid hrb; have HH := Lib.hid hh
  have hwa : IntKind.i64.wrap ((na : Int) + 1) = (na : Int) + 1 := by rw [IntKind.wrap_i64]; omega
  have hna9 : (na : Int) ≤ 2097152 := by omega
  obtain ⟨rm, hrm⟩ : ∃ rm, rm = WalMath.room d.sectors := ⟨_, rfl⟩
  rw [← hrm] at hf hroom hfit
  have HRM := Lib.hid hrm
  have hfI : ¬ (rm : Int) < (N : Int) := by omega
  skip
  clear hmay hN hnb hna hd hs hn hrb hh hw hm hsb hsa hrm
  go_enter Try.func35, Try.ntmps35
  go_wp2_with fail
  refine HMAY.out.mono ?_
  rintro e w ⟨rfl, rfl⟩
  go_wp2_with fail
  have HC : Hid (∀ W, Gb w.drew W → W.cell? ⟨gl, 3, none⟩ = some (.slice Ab nb cb) ∧ W.cell? ⟨gl, 4, none⟩ = some (.slice Aa na ca)) := Lib.hid fun W hW => by
    have e4 : W.heap[gl]? = some _ := (Below.block hW gl (Array.getElem?_eq_some_iff.1 (show w.drew.heap[gl]? = _ from HH.out)).1).trans HH.out
    exact ⟨by rw [cell_of_row _ gl 3 _ _ _ e4]; rfl, by rw [cell_of_row _ gl 4 _ _ _ e4]; rfl⟩
  have HRW : Hid (∀ W, Gb w.drew W → Rd W Ab x.buf ∧ Rd W A body) := Lib.hid fun W hW => ⟨(HRB.out.below (Below.drew (Below.refl _ w))).below hW, (HRS0.out.below (Below.drew (Below.refl _ w))).below hW⟩
  refine Stu.wp_region_stu _ (Stu.mkT [(12, rpS N (WalMath.addB x body))]) (fun _ => True) [] Gb.refl Gb.trans (fun _ _ h => h) (fun _ _ _ _ => trivial) trivial (Stu.mkT_ks _ (by show List.Nodup [12]; decide) _ rfl) (by kernel_rfl) (by kernel_rfl) (by kernel_rfl) ?_
  repeat (first
    | (refine Stu.wpR_plain ?_ (by rfl) (by rfl) (fun K hK => ?_); (focus (first | (simp only [Region.wanted]; done) | (go_simp; done))); apply Exists.intro; refine ⟨fun W hW => ?_, ?_⟩; (go_simp; (try simp only [Stu.plainUpon_value, true_and]); rfl); go_simp; refine hK _ ?_; clear hK K)
    | (refine Stu.wpR_plain ?_ (by rfl) (by rfl) (fun K hK => ?_); (focus (first | (simp only [Region.wanted]; done) | (go_simp; done))); apply Exists.intro; refine ⟨fun W hW => ?_, ?_⟩; (have hcw := HC.out W hW; go_simp; (try simp only [Stu.plainUpon_value, true_and]); rfl); go_simp; refine hK _ ?_; clear hK K)
    | (refine Stu.wpR_spg (by rfl) (by rfl) ?_ ?_ (fun W hW hF => ?_) (fun K v hv hK => ?_); (focus (first | (simp only [Region.wanted]; done) | (go_simp; done))); (focus (exact ⟨_, none, _, rfl, Nat.le_refl _⟩)); (go_simp; simp only [Stu.relUpon_enter]; exact rp_rel W Ab A nb n na cb c x.buf body HNB.out (by omega) (HRW.out W hW).1 HNN.out hn2 (HRW.out W hW).2 _ (by rw [HNA.out]; rfl) (by omega) N HN.out _); (obtain ⟨Ap, cp, rfl, hcp⟩ := hv); go_simp; refine hK _ ?_; clear hK K))
  refine Stu.wpR_nil (fun W hW hU hF => ?_)
  have HB := Lib.hid (Below.trans (Below.drew (Below.refl _ w)) hW)
  have k0 : W.cell? ⟨gl, 0, none⟩ = some (.pointer (some ⟨g, 0, none⟩)) := cell_below HB.out (by rw [cell_of_row _ gl 0 _ _ _ HH.out]; rfl)
  have hro := wroom_any (HD.out.below HB.out) h1 h2
  rw [← HRM.out] at hro
  have HRO := Lib.hid hro
  have HF12 := Lib.hid (hF 12)
  clear hW hU hF HC HRW hro
  have HSP : Hid (Sl W (.slice Ap N cp) (WalMath.addB x body)) := Lib.hid (by
    obtain ⟨A', c', e, h⟩ := (show (rpS N (WalMath.addB x body)).q _ (.tuple #[.slice Ap N cp, .int .i64 0]) W from HF12.out)
    simp only [Value.tuple.injEq, Array.mk.injEq, List.cons.injEq, Value.slice.injEq, and_true, true_and] at e
    obtain ⟨rfl, rfl⟩ := e
    exact h)
  obtain ⟨sq, hsq⟩ : ∃ sq, sq = nb / 512 := ⟨_, rfl⟩
  have hdv : ((nb : Int) / (512 : Int)) = (sq : Int) := by omega
  have hwsq : IntKind.i64.wrap (sq : Int) = (sq : Int) := by rw [IntKind.wrap_i64]; omega
  have hsq4 : sq ≤ 4096 := by omega
  have HSQ := Lib.hid hsq
  obtain ⟨na1, hna1⟩ : ∃ n1, n1 = na + 1 := ⟨_, rfl⟩
  have HNA1 := Lib.hid hna1
  have hna1I : (na : Int) + 1 = (na1 : Int) := by omega
  have hwa1 : IntKind.i64.wrap (na1 : Int) = (na1 : Int) := by rw [IntKind.wrap_i64]; omega
  have hna19 : na1 ≤ 4294967295 := by omega
  have HBB := Lib.hid HD.out.sz
  clear hsq hna1 hwa
  go_wp2_with fail
  refine HRO.out.mono ?_
  rintro e W ⟨rfl, rfl⟩
  go_wp2_with fail
  have HC7 : Hid (∀ W', Gr W.heap.size W.drew W' → W'.cell? ⟨gl, 1, none⟩ = some (.int .i64 x.region) ∧ W'.cell? ⟨gl, 2, none⟩ = some (.int .i64 x.base) ∧ W'.cell? ⟨gl, 3, none⟩ = some (.slice Ab nb cb) ∧ W'.cell? ⟨gl, 4, none⟩ = some (.slice Aa na ca)) := Lib.hid fun W' hW' => by
    have e4 : W'.heap[gl]? = some _ := (Below.block (HB.out.trans ((Below.trans (Below.drew (Below.refl _ W)) hW'.1).mono HB.out.size)) gl (Array.getElem?_eq_some_iff.1 HH.out).1).trans HH.out
    exact ⟨by rw [cell_of_row _ gl 1 _ _ _ e4]; rfl, by rw [cell_of_row _ gl 2 _ _ _ e4]; rfl, by rw [cell_of_row _ gl 3 _ _ _ e4]; rfl, by rw [cell_of_row _ gl 4 _ _ _ e4]; rfl⟩
  (refine wp_region_tbl_tail _ 22 (fun _ => none) W.heap.size (by kernel_rfl) (by kernel_rfl) (by kernel_rfl) ?_; simp only [List.take_succ_cons, List.take_zero, List.drop_succ_cons, List.drop_zero])
  repeat (first
    | (refine wpR_plain ?_ (by rfl) (fun K hK => ?_); (focus (first | (simp only [Region.wanted]; done) | (go_simp; done))); apply Exists.intro; refine ⟨fun W hW => ?_, ?_⟩; (go_simp; (try simp only [plainUpon_value, true_and]); rfl); go_simp; refine hK _ ?_; clear hK K)
    | (refine wpR_plain ?_ (by rfl) (fun K hK => ?_); (focus (first | (simp only [Region.wanted]; done) | (go_simp; done))); apply Exists.intro; refine ⟨fun W hW => ?_, ?_⟩; (have hcw := HC7.out W hW; go_simp; (try simp only [plainUpon_value, true_and]); rfl); go_simp; refine hK _ ?_; clear hK K))
  refine wpR_nil (fun W7 hW7 hF => ?_)
  have HB7 := Lib.hid (HB.out.trans ((Below.trans (Below.drew (Below.refl _ W)) hW7.1).mono HB.out.size))
  have hcom := wcommit_any (HL.out.below HB7.out) h1 h2 HON.out x.region sq x.base na1 (by omega) hsq4 (by have := HWB.out; rw [← HNB.out] at this; omega) hna19 Ap cp N (WalMath.addB x body) HN.out (HSP.out.below (Below.trans (Below.drew (Below.refl _ W)) hW7.1)) (by rw [← HN.out, ← HRM.out]; exact hf) R (by rw [HR.out]; unfold WalMath.addR; rw [← HNB.out, ← HNA.out, ← HN.out, ← HNA1.out, ← HSQ.out])
  rw [← HEC.out] at hcom
  have HCOM := Lib.hid hcom
  clear hW7 hF HC7 hcom
  go_wp2_with fail
  refine HCOM.out.mono ?_
  rintro e w8 ⟨rfl, hls8, htl8⟩
  rw [← HDN8.out] at hls8
  have HTL8 := Lib.hid ((show TL w W7 from fun k cs t fr _ _ _ h4 => (HB7.out.block k (Array.getElem?_eq_some_iff.1 h4).1).trans h4).trans htl8)
  by_cases hrc : R.2 = 0
  · have hex : ec = 0 := by rw [HEC.out]; exact if_pos hrc
    have HADX : Hid (addX R x body = ⟨x.region, x.base, WalMath.addB x body, x.all ++ [body]⟩) := Lib.hid (if_pos hrc)
    have hcx : comX R x x.region x.base (WalMath.addB x body) = ⟨x.region, x.base, WalMath.addB x body, x.all⟩ := if_pos hrc
    rw [hcx] at hls8
    subst hex
    obtain ⟨vb8, va8, hh8, hgl8, hsb8, hsa8, hd8⟩ := hls8
    obtain ⟨Aa8, ca8, rfl, hca8⟩ := hsa8.shp
    have HB8 : Hid (B ≤ w8.heap.size) := Lib.hid hd8.sz
    have HTE : Hid (∀ W', TE 33 1 B w8.drew W' → TE 33 1 B w8 W') := Lib.hid fun W' hW' => TE.drew hW' HB8.out
    have HH8 := Lib.hid hh8; have HSB8 := Lib.hid hsb8
    have HC8 : Hid (∀ W', TE 33 1 B w8.drew W' → W'.cell? ⟨gl, 4, none⟩ = some (.slice Aa8 na ca8)) := Lib.hid fun W' hW' => by
      rw [cell_of_row _ gl 4 _ _ _ ((HTE.out W' hW').2 _ _ _ _ (.inl (by decide)) HH8.out), HNA.out]; rfl
    have HSZ8 : Hid (∀ W', TE 33 1 B w8.drew W' → B ≤ W'.heap.size) := Lib.hid fun W' hW' => Nat.le_trans HB8.out (HTE.out W' hW').1.size
    have HSL8 : Hid (∀ W', TE 33 1 B w8.drew W' → Rd W' A body) := Lib.hid fun W' hW' => HS.out W' (hd8.bel.trans (HTE.out W' hW').1) (HTL8.out.trans (fun k cs t fr _ _ h3 h4 => (HTE.out W' hW').2 k cs t fr (.inl h3.2) h4))
    have hU8 : BsD w0 B B g R.1 x.all (.slice Aa8 na ca8) w8.drew := by rw [HNA.out]; exact ⟨hsa8.below (Below.drew (Below.refl _ w8)), hd8.below (Below.drew (Below.refl _ w8))⟩
    have HU8 := Lib.hid hU8
    clear hh8 hsb8 hsa8 hd8 htl8 hU8 hcx
    go_wp2_with fail
    refine Stu.wp_region_stu_tail _ 9 (Stu.mkT [(6, clS B n body), (7, bsX B), (8, bsS w0 B B g R.1 (na + 1) (x.all ++ [body]))]) (BsD w0 B B g R.1 x.all (.slice Aa8 na ca8)) [8] (TE.refl _ _ _) TE.trans Gs.te (fun _ _ h hg => ⟨h.1.below hg.1, h.2.below hg.1⟩) HU8.out (Stu.mkT_ks _ (by show List.Nodup [6, 7, 8]; decide) _ rfl) (by kernel_rfl) (by kernel_rfl) (by kernel_rfl) ?_
    simp only [List.take_succ_cons, List.take_zero, List.drop_succ_cons, List.drop_zero]
    repeat (first
      | (refine Stu.wpR_plain ?_ (by rfl) (by rfl) (fun K hK => ?_); (focus (first | (simp only [Region.wanted]; done) | (go_simp; done))); apply Exists.intro; refine ⟨fun W hW => ?_, ?_⟩; (go_simp; (try simp only [Stu.plainUpon_value, true_and]); rfl); go_simp; refine hK _ ?_; clear hK K)
      | (refine Stu.wpR_plain ?_ (by rfl) (by rfl) (fun K hK => ?_); (focus (first | (simp only [Region.wanted]; done) | (go_simp; done))); apply Exists.intro; refine ⟨fun W hW => ?_, ?_⟩; (have hcw := HC8.out W hW; go_simp; (try simp only [Stu.plainUpon_value, true_and]); rfl); go_simp; refine hK _ ?_; clear hK K)
      | (refine Stu.wpR_spg (by rfl) (by rfl) ?_ ?_ (fun W hW hF => ?_) (fun K v hv hK => ?_); (focus (first | (simp only [Region.wanted]; done) | (go_simp; done))); (focus (exact ⟨_, none, _, rfl, Nat.le_refl _⟩)); (go_simp; simp only [Stu.relUpon_enter]; exact cl_rel W (HSZ8.out W hW) A n c body HNN.out (by omega) (HSL8.out W hW) _); (obtain ⟨A6, c6, rfl, hc6⟩ := hv); go_simp; refine hK _ ?_; clear hK K)
      | (refine Stu.wpR_spg (by rfl) (by rfl) ?_ ?_ (fun W hW hF => ?_) (fun K v hv hK => ?_); (focus (first | (simp only [Region.wanted]; done) | (go_simp; done))); (focus (exact ⟨_, 0, rfl⟩)); (go_simp; exact ⟨⟨(Below.refl _ W).alloc (Nat.le_refl _) _, HSZ8.out W hW⟩, ⟨_, rfl⟩, rfl, _, rfl, heap_new _ _ _ rfl⟩); (obtain ⟨g2, rfl⟩ := hv); go_simp; refine hK _ ?_; clear hK K)
      | (refine Stu.wpR_spu (by rfl) (by rfl) ?_ ?_ (fun W hW hU hF => ?_) (fun K v hv hK => ?_); (focus (first | (simp only [Region.wanted]; done) | (go_simp; done))); (focus (exact ⟨_, none, _, rfl, Nat.le_refl _⟩)); (obtain ⟨h0, g', e1, e3⟩ := (show (bsX B).q [.slice A6 n c6] (.slice (some ⟨g2, 0, none⟩) 1 1) W from hF 7 rfl); cases e1; exact bap_rel (Nat.le_refl _) rfl rfl rfl rfl hU (show Sl W (.slice A6 n c6) body from hF 6 rfl) e3 (HSZ8.out W hW) HNA.out.symm (by omega) _); (obtain ⟨A8, c8, rfl, hc8⟩ := hv); go_simp; refine hK _ ?_; clear hK K))
    refine Stu.wpR_nil (fun W' hW hU hF => ?_)
    clear hF
    obtain ⟨hU1, hU2⟩ := (show BsD w0 B B g R.1 (x.all ++ [body]) (.slice A8 (na + 1) c8) W' from hU)
    have hhW := (HTE.out W' hW).2 _ _ _ _ (.inl (by decide)) HH8.out
    have k4 : W'.cell? ⟨gl, 4, none⟩ = some (.slice Aa8 na ca8) := by rw [cell_of_row _ gl 4 _ _ _ hhW, HNA.out]; rfl
    have f4 : W'.frozen? ⟨gl, 4, none⟩ = false := frozen_of_row W' gl 4 _ _ hhW
    obtain ⟨Wf, hWf⟩ : ∃ Wf, Wf = W'.setCell ⟨gl, 4, none⟩ (.slice A8 (na + 1) c8) := ⟨_, rfl⟩
    obtain ⟨hls, hch⟩ := ls_all (x := ⟨x.region, x.base, WalMath.addB x body, x.all⟩) hhW hgl8 ((HTE.out W' hW).sl (by decide) HSB8.out) hU2 hU1 hWf
    have HLS9 := Lib.hid (hls.ls (Nat.le_refl _))
    have HTL9 : Hid (TL w Wf) := Lib.hid ((HTL8.out.trans (fun k cs t fr _ _ h3 h4 => (HTE.out W' hW).2 k cs t fr (.inl h3.2) h4)).trans (TL.of_chg hhW hch))
    have HWF := Lib.hid hWf
    clear hU hU1 hU2 hhW hls hch hWf hW HC8 HSL8 HSZ8 HTE
    go_wp2_with fail
    rw [← HWF.out]
    go_ret
    rw [HADX.out]
    exact ⟨rfl, HLS9.out, HTL9.out⟩
  · have hcx : comX R x x.region x.base (WalMath.addB x body) = x := if_neg hrc
    have HADX : Hid (addX R x body = x) := Lib.hid (if_neg hrc)
    have hex : ec = 7 := by rw [HEC.out]; exact if_neg hrc
    rw [hcx] at hls8
    have HLS8 := Lib.hid hls8
    subst hex
    clear hrc hcx hls8 htl8
    go_wp2_with fail
    go_ret
    rw [HADX.out]
    exact ⟨rfl, HLS8.out, HTL8.out⟩
end Go.Proofs.Ytbpecfbliglboaa
/- wal: Keep. -/
namespace WalMath
def keepR (d : DevMath.Dev) (x : Lg) (body : List UInt8) : DevMath.Dev × Int := commitD d (dataW d.sectors (1 - x.region) 0 body) (header (1 - x.region) body.length body.length 0)
end WalMath
namespace Go.Proofs.Ytbpecfbliglboaa
open Go.RowKit
set_option linter.unusedVariables false
set_option linter.unusedSimpArgs false
attribute [local irreducible] Stu.wpR Stu.relOp
def clG (n : Nat) (b : List UInt8) : Stu.SpU Gb Gb := ⟨false, fun _ v => ∃ A c, v = .slice A n c ∧ n ≤ c, fun _ v W => Sl W v b, fun _ _ => True, fun _ _ _ _ h hg => h.below hg, fun _ _ _ _ _ => trivial⟩
theorem clG_rel (W : World) (A : Option Addr) (n c : Nat) (l : List UInt8) (hn : n = l.length) (hl : n ≤ 1000000000) (hr : Rd W A l) (xs : List Value) :
    Calls Try.prog 44 #[.slice A n c] W fun e w' => ∃ v, e = .returned v ∧ Gb W w' ∧ (clG n l).p xs v ∧ (clG n l).q xs v w' := by
  subst hn
  refine (clone_any W A c l hr (by omega)).mono ?_
  rintro e w1 ⟨v, rfl, ho, hb⟩
  have hs := ho.sl
  obtain ⟨A', c', rfl, hc', _⟩ := hs.rd
  exact ⟨_, rfl, hb, ⟨A', c', rfl, hc'⟩, hs⟩
set_option maxRecDepth 20000 in
theorem wkeep_no {w0 w : World} {B g gl : Nat} {d : DevMath.Dev} {x : WalMath.Lg} {dn : Bool} (h : LS w0 w B g gl d x dn) (A : Option Addr) (n c : Nat) (hm : mayE dn n ≠ 0) :
    Calls Try.prog 36 #[.pointer (some ⟨gl, 0, none⟩), .slice A n c] w fun e w' => e = .returned (.int .i64 (mayE dn n)) ∧ w' = w := by
  have HM := Lib.hid (wmay_any h A n c)
  generalize mayE dn n = m at *
  have he1 : (m != 0) = true := by simp [hm]
  have he2 : (m == 0) = false := by simp [hm]
  clear h hm
  go_enter Try.func36, Try.ntmps36
  go_wp2_with fail
  refine HM.out.mono ?_
  rintro e w ⟨rfl, rfl⟩
  go_wp2
  go_ret
  exact ⟨rfl, rfl⟩
def keepX (R : DevMath.Dev × Int) (x : WalMath.Lg) (body : List UInt8) : WalMath.Lg := if R.2 = 0 then ⟨1 - x.region, body.length, body, []⟩ else x
set_option maxRecDepth 20000 in
set_option maxHeartbeats 8000000 in
theorem wkeep_full {w0 w : World} {B g gl : Nat} {d : DevMath.Dev} {x : WalMath.Lg} {dn : Bool} (h : LS w0 w B g gl d x dn) (h1 : 1 ≤ d.sectors) (h2 : d.sectors ≤ 8192) (A : Option Addr) (n c : Nat) (hm : mayE dn n = 0)
    (hf : WalMath.room d.sectors < n) :
    Calls Try.prog 36 #[.pointer (some ⟨gl, 0, none⟩), .slice A n c] w fun e w' => e = .returned (.int .i64 6) ∧ w' = w := by
  obtain ⟨hdnf, hn2⟩ := mayE_zero hm
  have hmay := wmay_any h A n c
  rw [hm] at hmay
  obtain ⟨vb, va, hh, hgl, hsb, hsa, hd⟩ := h
  have hro := wroom_any hd h1 h2
  obtain ⟨rm, hrm⟩ : ∃ rm, rm = WalMath.room d.sectors := ⟨_, rfl⟩
  rw [← hrm] at hf hro
  have k0 : w.cell? ⟨gl, 0, none⟩ = some (.pointer (some ⟨g, 0, none⟩)) := by rw [cell_of_row _ gl 0 _ _ _ hh]; rfl
  have HMAY := Lib.hid hmay; have HRO := Lib.hid hro
  have hfI : (rm : Int) < (n : Int) := by omega
  clear hdnf hmay hro hrm hh hsb hsa hd hm
  go_enter Try.func36, Try.ntmps36
  go_wp2_with fail
  refine HMAY.out.mono ?_
  rintro e w ⟨rfl, rfl⟩
  go_wp2_with fail
  refine HRO.out.mono ?_
  rintro e w ⟨rfl, rfl⟩
  go_wp2
  go_ret
  exact ⟨rfl, rfl⟩
set_option maxRecDepth 20000 in
set_option maxHeartbeats 8000000 in
theorem wkeep_go {w0 w : World} {B g gl : Nat} {d : DevMath.Dev} {x : WalMath.Lg} {dn : Bool} (h : LS w0 w B g gl d x dn) (h1 : 1 ≤ d.sectors) (h2 : d.sectors ≤ 8192) (hon : d.cache = []) (hw : WalMath.Wf d.sectors x) (A : Option Addr) (n c : Nat) (body : List UInt8) (hn : n = body.length) (hs : Rd w A body) (hm : mayE dn n = 0)
    (hf : n ≤ WalMath.room d.sectors) :
    Calls Try.prog 36 #[.pointer (some ⟨gl, 0, none⟩), .slice A n c] w fun e w' => e = .returned (.int .i64 (comE (WalMath.keepR d x body))) ∧ LS w0 w' B g gl (WalMath.keepR d x body).1 (keepX (WalMath.keepR d x body) x body) (comD (WalMath.keepR d x body) dn) ∧ TL w w' := by
  have hreg := hw.reg
  obtain ⟨R, hR⟩ : ∃ R, R = WalMath.keepR d x body := ⟨_, rfl⟩
  rw [← hR]
  obtain ⟨ec, hec⟩ : ∃ ec, ec = comE R := ⟨_, rfl⟩
  rw [← hec]
  obtain ⟨dn8, hdn8⟩ : ∃ b, b = comD R dn := ⟨_, rfl⟩
  rw [← hdn8]
  obtain ⟨hdnf, hn2⟩ := mayE_zero hm
  have hmay := wmay_any h A n c
  rw [hm] at hmay
  have HL := Lib.hid h
  obtain ⟨vb, va, hh, hgl, hsb, hsa, hd⟩ := h
  have hro := wroom_any hd h1 h2
  obtain ⟨rm, hrm⟩ : ∃ rm, rm = WalMath.room d.sectors := ⟨_, rfl⟩
  have HF := Lib.hid hf
  rw [← hrm] at hf hro
  have k0 : w.cell? ⟨gl, 0, none⟩ = some (.pointer (some ⟨g, 0, none⟩)) := by rw [cell_of_row _ gl 0 _ _ _ hh]; rfl
  obtain ⟨r', hr'⟩ : ∃ r', r' = 1 - x.region := ⟨_, rfl⟩
  obtain ⟨rr, hrr⟩ : ∃ rr, rr = x.region := ⟨_, rfl⟩
  have hcom : ∀ W A' c', Below w.heap.size w W → Sl W (.slice A' n c') body → Calls Try.prog 56 #[.pointer (some ⟨gl, 0, none⟩), .int .i64 r', .int .i64 0, .int .i64 n, .int .i64 0, .slice A' n c'] W fun e w' =>
      e = .returned (.int .i64 ec) ∧ LS w0 w' B g gl R.1 (comX R x r' n body) dn8 ∧ TL W w' := fun W A' c' hb hsl => by
    have := wcommit_any (HL.out.below hb) h1 h2 hon r' 0 n 0 (by omega) (by omega) (by omega) (by omega) A' c' n body hn hsl (by rw [← hn]; exact HF.out) R (by rw [hR, hn, hr']; rfl)
    rw [hec, hdn8]
    exact this
  have hr1 : (1 : Int) - (rr : Int) = (r' : Int) := by omega
  have hwr : IntKind.i64.wrap (r' : Int) = (r' : Int) := by rw [IntKind.wrap_i64]; omega
  rw [← hrr] at hh
  have HMAY := Lib.hid hmay; have HRO := Lib.hid hro; have HCOM := Lib.hid hcom; have HS := Lib.hid hs; have HH := Lib.hid hh; have HNN := Lib.hid hn; have HEC := Lib.hid hec; have HR' := Lib.hid hr'
  have hfI : ¬ (rm : Int) < (n : Int) := by omega
  clear hdnf hmay hro hrm hh hsb hsa hd hm hcom hR hec hdn8 hn hrr hw hon hr' hs
  go_enter Try.func36, Try.ntmps36
  go_wp2_with fail
  refine HMAY.out.mono ?_
  rintro e w ⟨rfl, rfl⟩
  go_wp2_with fail
  refine HRO.out.mono ?_
  rintro e w ⟨rfl, rfl⟩
  go_wp2_with fail
  have HC7 : Hid (∀ W, Gb w.drew W → W.cell? ⟨gl, 1, none⟩ = some (.int .i64 rr)) := Lib.hid fun W hW => by
    have e4 : W.heap[gl]? = some _ := (Below.block hW gl (Array.getElem?_eq_some_iff.1 (show w.drew.heap[gl]? = _ from HH.out)).1).trans HH.out
    rw [cell_of_row _ gl 1 _ _ _ e4]; rfl
  have HRW : Hid (∀ W, Gb w.drew W → Rd W A body) := Lib.hid fun W hW => (HS.out.below (Below.drew (Below.refl _ w))).below hW
  refine Stu.wp_region_stu_tail _ 10 (Stu.mkT [(9, clG n body)]) (fun _ => True) [] Gb.refl Gb.trans (fun _ _ h => h) (fun _ _ _ _ => trivial) trivial (Stu.mkT_ks _ (by show List.Nodup [9]; decide) _ rfl) (by kernel_rfl) (by kernel_rfl) (by kernel_rfl) ?_
  simp only [List.take_succ_cons, List.take_zero, List.drop_succ_cons, List.drop_zero]
  repeat (first
    | (refine Stu.wpR_plain ?_ (by rfl) (by rfl) (fun K hK => ?_); (focus (first | (simp only [Region.wanted]; done) | (go_simp; done))); apply Exists.intro; refine ⟨fun W hW => ?_, ?_⟩; (go_simp; (try simp only [Stu.plainUpon_value, true_and]); rfl); go_simp; refine hK _ ?_; clear hK K)
    | (refine Stu.wpR_plain ?_ (by rfl) (by rfl) (fun K hK => ?_); (focus (first | (simp only [Region.wanted]; done) | (go_simp; done))); apply Exists.intro; refine ⟨fun W hW => ?_, ?_⟩; (have hcw := HC7.out W hW; go_simp; (try simp only [Stu.plainUpon_value, true_and]); rfl); go_simp; refine hK _ ?_; clear hK K)
    | (refine Stu.wpR_spg (by rfl) (by rfl) ?_ ?_ (fun W hW hF => ?_) (fun K v hv hK => ?_); (focus (first | (simp only [Region.wanted]; done) | (go_simp; done))); (focus (exact ⟨_, none, _, rfl, Nat.le_refl _⟩)); (go_simp; simp only [Stu.relUpon_enter]; exact clG_rel W A n c body HNN.out (by omega) (HRW.out W hW) _); (obtain ⟨A6, c6, rfl, hc6⟩ := hv); go_simp; refine hK _ ?_; clear hK K))
  refine Stu.wpR_nil (fun W hW hU hF => ?_)
  have HB := Lib.hid (Below.trans (Below.drew (Below.refl _ w)) hW)
  have hcall := HCOM.out W A6 c6 HB.out (show Sl W (.slice A6 n c6) body from hF 9)
  have HCALL := Lib.hid hcall
  clear hW hU hF HC7 HRW hcall
  go_wp2_with fail
  refine HCALL.out.mono ?_
  rintro e w8 ⟨rfl, hls8, htl8⟩
  have HTL8 := Lib.hid ((show TL w W from fun k cs t fr _ _ _ h4 => (HB.out.block k (Array.getElem?_eq_some_iff.1 h4).1).trans h4).trans htl8)
  by_cases hrc : R.2 = 0
  · have hex : ec = 0 := by rw [HEC.out]; exact if_pos hrc
    have HADX : Hid (keepX R x body = ⟨r', n, body, []⟩) := Lib.hid ((if_pos hrc).trans (by rw [HR'.out, HNN.out]))
    have hcx : comX R x r' n body = ⟨r', n, body, x.all⟩ := if_pos hrc
    rw [hcx] at hls8
    subst hex
    obtain ⟨vb8, va8, hh8, hgl8, hsb8, hsa8, hd8⟩ := hls8
    have k4 : w8.cell? ⟨gl, 4, none⟩ = some va8 := by rw [cell_of_row _ gl 4 _ _ _ hh8]; rfl
    have f4 : w8.frozen? ⟨gl, 4, none⟩ = false := frozen_of_row w8 gl 4 _ _ hh8
    obtain ⟨Wf, hWf⟩ : ∃ Wf, Wf = w8.setCell ⟨gl, 4, none⟩ (.slice none 0 0) := ⟨_, rfl⟩
    obtain ⟨hls, hch⟩ := ls_all (S := B) (x := ⟨r', n, body, x.all⟩) hh8 hgl8 hsb8 hd8 (Bsr.nil _ _) hWf
    have HLS9 := Lib.hid (hls.ls (Nat.le_refl _))
    have HTL9 : Hid (TL w Wf) := Lib.hid (HTL8.out.trans (TL.of_chg hh8 hch))
    have HWF := Lib.hid hWf
    clear hh8 hsb8 hsa8 hd8 htl8 hcx hls hch hWf
    go_wp2_with fail
    rw [← HWF.out]
    go_ret
    rw [HADX.out]
    exact ⟨rfl, HLS9.out, HTL9.out⟩
  · have hcx : comX R x r' n body = x := if_neg hrc
    have HADX : Hid (keepX R x body = x) := Lib.hid (if_neg hrc)
    have hex : ec = 7 := by rw [HEC.out]; exact if_neg hrc
    rw [hcx] at hls8
    have HLS8 := Lib.hid hls8
    subst hex
    clear hrc hcx hls8 htl8
    go_wp2_with fail
    go_ret
    rw [HADX.out]
    exact ⟨rfl, HLS8.out, HTL8.out⟩
end Go.Proofs.Ytbpecfbliglboaa
