/- The reference's device: Flush. -/
import Derived.Test.YtbpecfbliglboaaRdBurn
namespace Go.Proofs.Ytbpecfbliglboaa
open Go.RowKit Go.Maps
set_option linter.unusedVariables false
set_option linter.unusedSimpArgs false
set_option maxRecDepth 20000 in
set_option maxHeartbeats 1000000 in
theorem ref_flush (w : World) (B r : Nat) (rf : Int) (vs vl vk : Value) (d : DevMath.Dev) (ss : List ByteArray) (ws : List (Int × ByteArray)) (h : RdM w B r rf vs vl vk d ss ws) (hI : DvI d) (hm1 : d.cache.length ≤ 1000000) (hkl : d.keep.length ≤ 1000000) :
    Calls Try.prog 28 #[.pointer (some ⟨r, 0, none⟩)] w fun e w' => e = .returned (.int .i64 d.flush.2) ∧ (∃ rf' vl' ss' ws', RdM w' B r rf' vs vl' vk d.flush.1 ss' ws') ∧ Chg (OwnR r vs) w w' := by
  obtain ⟨_, h1, _⟩ := h.cells
  cases hoff : d.off with
  | true =>
    have hbn : d.burn = d := by
      unfold DevMath.Dev.burn
      rw [if_neg (by rw [hoff]; simp)]
    have hfl : d.flush = (d, 7) := by
      unfold DevMath.Dev.flush
      rw [hbn, hoff]; rfl
    rw [hfl]
    rw [hoff] at h1
    have HD := Lib.hid h
    clear h hbn hfl
    go_enter Try.func28, Try.ntmps28
    go_wp2
    go_ret
    exact ⟨rfl, ⟨_, _, _, _, HD.out⟩, Chg.refl _ _⟩
  | false =>
    rw [hoff] at h1
    have hcon := Lib.hid (ref_blown w B r rf vs vl vk d ss ws h hI hoff (by rw [h.len]; exact hm1) hkl)
    have hIb := hI.burn
    have hcb : d.burn.cache.length ≤ 1000000 := by
      rcases burn_cache d with e | e
      · rw [e]; exact hm1
      · rw [e]; exact Nat.zero_le _
    clear h
    unfold DevMath.Dev.flush
    generalize d.burn = d1 at *
    have HI := Lib.hid hI; have HIB := Lib.hid hIb
    clear hI hIb hoff
    cases hof : d1.off with
    | true =>
      rw [hof] at hcon
      go_enter Try.func28, Try.ntmps28
      go_wp2_with fail
      refine hcon.out.mono ?_
      rintro e w4 ⟨rfl, hr, hc⟩
      have HR := Lib.hid hr; have HC4 := Lib.hid hc
      clear hr hc hcon
      go_wp2
      go_ret
      exact ⟨rfl, HR.out, HC4.out⟩
    | false =>
      rw [hof] at hcon
      go_enter Try.func28, Try.ntmps28
      go_wp2_with fail
      refine hcon.out.mono ?_
      rintro e w4 ⟨rfl, ⟨rf1, vl1, ss1, ws1, hr⟩, hc⟩
      obtain ⟨_, _, _, g3, _⟩ := hr.cells
      obtain ⟨Al, cl, hvl, hcl, _⟩ := hr.vl
      have hm2 : ws1.length ≤ 1000000 := by rw [hr.len]; exact hcb
      obtain ⟨m, hm⟩ : ∃ m, m = ws1.length := ⟨_, rfl⟩
      rw [hvl] at g3
      rw [← hm] at g3 hcl hvl hm2
      have HM := Lib.hid hm; have HVL := Lib.hid hvl
      have HR := Lib.hid hr; have HC4 := Lib.hid hc
      clear hr hc hcon hm hvl hcb
      go_wp2
      go_loopw [3] (fun i wr => ∃ p : Nat, p ≤ m ∧ i = .int .i64 p ∧ (∃ ss', RdM wr B r rf1 vs vl1 vk (fk d1 p) ss' ws1) ∧ Chg (OwnR r vs) w wr) (fun i _ => m - (intOf i).toNat)
      case atStart => exact ⟨0, by omega, rfl, ⟨ss1, HR.out⟩, HC4.out⟩
      case round =>
        obtain ⟨p, hp, rfl, ⟨ss', hdv⟩, hch⟩ := hrel
        obtain ⟨_, c1, c2, c3, _⟩ := hdv.cells
        rw [HVL.out] at c3
        by_cases hlt : p < m
        · have hpw : p < ws1.length := by rw [← HM.out]; exact hlt
          obtain ⟨al, rfl, x0, x1⟩ := hdv.wr HVL.out p hpw
          have hpc : p < d1.cache.length := by rw [← HR.out.len]; exact hpw
          have hsucc := fk_succ d1 p hpc
          have hcw := HR.out.cw
          have hcg : d1.cache[p]'hpc = (ws1[p].1, ws1[p].2.data.toList) := by
            have : (wof ws1)[p]'(by simp [wof]; exact hpw) = (ws1[p].1, ws1[p].2.data.toList) := by simp [wof]
            simp only [hcw] at this
            exact this
          rw [hcg] at hsucc
          have hcf : 0 ≤ ws1[p].1 ∧ ws1[p].1 < d1.sectors ∧ ws1[p].2.data.toList.length = 512 := by
            refine HIB.out.cf (ws1[p].1, ws1[p].2.data.toList) ?_
            rw [← hcg]
            exact List.getElem_mem _
          dsimp only at hsucc
          generalize ws1[p] = x at x0 x1 hsucc hcf
          clear hcg hcw
          obtain ⟨y0, y1⟩ := x
          dsimp only at *
          obtain ⟨ha0, ha1, hy5⟩ := hcf
          obtain ⟨j, rfl⟩ := Int.eq_ofNat_of_zero_le ha0
          obtain ⟨As, cs, hvs, hcs, has⟩ := hdv.vs
          change vs = .slice As d1.sectors cs at hvs
          change d1.sectors ≤ cs at hcs
          obtain ⟨ad, rfl, _⟩ := has (by show 0 < d1.sectors; omega)
          rw [hvs] at c2
          have hjn : j < d1.sectors := by omega
          have hjs : j < ss'.length := by rw [hdv.sl]; exact hjn
          have HVS := Lib.hid hvs
          have hwp : IntKind.i64.wrap ((p : Int) + 1) = ((p + 1 : Nat) : Int) := by rw [IntKind.wrap_i64]; omega
          have HDv := Lib.hid hdv; have HCh := Lib.hid hch; have HU := Lib.hid hsucc
          have HC : Hid (∀ W, Gr wr.heap.size wr.drew W → W.cell? ⟨r, 2, none⟩ = some (.slice (some ad) d1.sectors cs) ∧ W.cell? ⟨r, 3, none⟩ = some (.slice (some al) m cl) ∧ W.cell? (al.add (p * 2)) = some (.int .i64 j) ∧ W.cell? ⟨(al.add (p * 2)).block, (al.add (p * 2)).off + 1, none⟩ = some (.string y1)) := Lib.hid fun W hW => by
            have hb := Below.trans (Below.drew (Below.refl wr.heap.size wr)) hW.1
            exact ⟨cell_below hb c2, cell_below hb c3, cell_below hb x0, cell_below hb x1⟩
          clear hdv hch hsucc hy5 has hvs
          go_wp2_with fail
          (refine wp_region_tbl_tail _ 20 (fun _ => none) wr.heap.size (by kernel_rfl) (by kernel_rfl) (by kernel_rfl) ?_; simp only [List.take_succ_cons, List.take_zero, List.drop_succ_cons, List.drop_zero])
          repeat (first
            | (refine wpR_plain ?_ (by rfl) (fun K hK => ?_); (focus (first | (simp only [Region.wanted]; done) | (go_simp; done))); apply Exists.intro; refine ⟨fun W hW => ?_, ?_⟩; (go_simp; (try simp only [plainUpon_value, true_and]); rfl); go_simp; refine hK _ ?_; clear hK K)
            | (refine wpR_plain ?_ (by rfl) (fun K hK => ?_); (focus (first | (simp only [Region.wanted]; done) | (go_simp; done))); apply Exists.intro; refine ⟨fun W hW => ?_, ?_⟩; (have hcw := HC.out W hW; go_simp; (try simp only [plainUpon_value, true_and]); rfl); go_simp; refine hK _ ?_; clear hK K))
          refine wpR_nil (fun W hW hF => ?_)
          have hb := Below.trans (Below.drew (Below.refl wr.heap.size wr)) hW.1
          have HDW := Lib.hid (HDv.out.tr (TR.of_below hb))
          have HCW := Lib.hid (HCh.out.trans (Chg.of_below hb))
          obtain ⟨z0, z1⟩ := HDW.out.at HVS.out j hjs
          clear hF hW hb
          obtain ⟨hd3, hc3⟩ := HDW.out.put HVS.out j y1
          have HD3 := Lib.hid hd3; have HC3 := Lib.hid (HCW.out.trans hc3)
          clear hd3 hc3
          go_wp2
          go_roundw
          case rel => exact ⟨p + 1, by omega, by go_num, ⟨_, by rw [HU.out]; exact HD3.out⟩, HC3.out⟩
          case measure => simp [intOf]; omega
        · have hpm : p = m := by omega
          have hfk : (fk d1 p).safe = DevMath.flushed d1.safe d1.cache := by
            show DevMath.flushed d1.safe (d1.cache.take p) = _
            rw [List.take_of_length_le (by rw [← HR.out.len, ← HM.out, hpm]; exact Nat.le_refl _)]
          have f3 : wr.frozen? ⟨r, 3, none⟩ = false := frozen_of_row _ r 3 _ _ hdv.st
          have HDv := Lib.hid hdv; have HCh := Lib.hid hch; have HDK := Lib.hid hfk
          clear hdv hch hfk
          go_wp2
          go_ret
          have x1 := heap_setCell_same wr r 3 _ _ (.slice none 0 0) HDv.out.st
          have hc3 : Chg (· = r) wr (wr.setCell ⟨r, 3, none⟩ (.slice none 0 0)) := Chg.setCell _ _ _ _
          have hrw := HDv.out.rows hc3
          refine ⟨rfl, ⟨rf1, .slice none 0 0, ss', [], ?_⟩, HCh.out.trans (hc3.imp fun k hk => .inl hk)⟩
          have hof2 : (fk d1 p).off = false := hof
          unfold rdCells at x1
          rw [hof2] at x1
          exact HDv.out.turn hc3 x1 rfl HDK.out.symm ⟨rfl, .inl ⟨rfl, rfl⟩⟩ hrw.2 rfl HDv.out.ff HDv.out.wf
end Go.Proofs.Ytbpecfbliglboaa
