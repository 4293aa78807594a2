/- The reference's device: Crash. -/
import Derived.Test.YtbpecfbliglboaaRdPut
namespace Go.Proofs.Ytbpecfbliglboaa
open Go.RowKit Go.Maps
set_option linter.unusedVariables false
set_option linter.unusedSimpArgs false
theorem take_contains (l : List Int) (q : Nat) (hq : q < l.length) (x : Int) : (l.take (q + 1)).contains x = ((l.take q).contains x || l[q] == x) := by
  rw [List.take_add_one, List.getElem?_eq_getElem hq]
  simp only [Option.toList, List.contains_eq_mem, List.mem_append, List.mem_singleton]
  by_cases h1 : x ∈ l.take q
  · simp [h1]
  · by_cases h2 : x = l[q]
    · simp [h1, h2]
    · have h3 : ¬ l[q] = x := fun e => h2 e.symm
      simp [h1, h2, h3]
theorem cut_join (a b : ByteArray) (hb : b.size = 512) : (a.extract 0 256 ++ b.extract 256 512).data.toList = a.data.toList.take 256 ++ b.data.toList.drop 256 := by
  have h2 : b.data.toList.length = 512 := by simpa using hb
  simp [ByteArray.data_append, ByteArray.data_extract, Array.toList_extract, List.extract_eq_take_drop]
  exact List.take_of_length_le (by rw [List.length_drop, h2]; exact Nat.le_refl _)
set_option maxRecDepth 20000 in
set_option maxHeartbeats 2000000 in
theorem ref_crash (w : World) (B r : Nat) (rf : Int) (vs vl vk : Value) (d : DevMath.Dev) (ss : List ByteArray) (ws : List (Int × ByteArray)) (h : RdM w B r rf vs vl vk d ss ws) (hI : DvI d) (hm1 : ws.length ≤ 1000000) (kv : Value) (keep : List Int) (torn : Int) (hk : ∀ W, Chg (OwnR r vs) w W → IntR W kv keep) (hkl : keep.length ≤ 1000000) :
    Calls Try.prog 29 #[.pointer (some ⟨r, 0, none⟩), kv, .int .i64 torn] w fun e w' => e = .returned (.tuple #[]) ∧ (∃ rf' vl' ss' ws', RdM w' B r rf' vs vl' vk (d.crash keep torn) ss' ws') ∧ Chg (OwnR r vs) w w' := by
  unfold DevMath.Dev.crash
  cases ho : d.off with
  | true =>
    rw [if_pos rfl]
    obtain ⟨_, h1, _⟩ := h.cells
    rw [ho] at h1
    have HD := Lib.hid h
    clear h hk
    go_enter Try.func29, Try.ntmps29
    go_wp2
    refine bodyPost_ret (results_none rfl _ _ _) rfl ?_
    exact ⟨rfl, ⟨_, _, _, _, HD.out⟩, Chg.refl _ _⟩
  | false =>
    rw [if_neg (by decide)]
    obtain ⟨_, h1, _, h3, _⟩ := h.cells
    rw [ho] at h1
    obtain ⟨Al, cl, hvl, hcl, _⟩ := h.vl
    obtain ⟨m, hm⟩ : ∃ m, m = ws.length := ⟨_, rfl⟩
    rw [hvl] at h3
    rw [← hm] at h3 hcl hm1 hvl
    obtain ⟨Ak, ck, hkv, hck, _⟩ := hk w (Chg.refl _ _)
    obtain ⟨nk, hnk⟩ : ∃ nk, nk = keep.length := ⟨_, rfl⟩
    rw [← hnk] at hkv hck hkl
    subst hkv
    have HM := Lib.hid hm; have HD := Lib.hid h; have HVL := Lib.hid hvl; have HK := Lib.hid hk; have HNK := Lib.hid hnk
    have HLC : Hid (ws.length = d.cache.length) := Lib.hid (by rw [← h.cw]; simp [wof])
    clear hm h hvl hk hnk
    go_enter Try.func29, Try.ntmps29
    go_wp2
    go_loopw [6] (fun i wr => ∃ p : Nat, p ≤ m ∧ i = .int .i64 p ∧ (∃ ss', RdM wr B r rf vs vl vk (dk d keep torn p) ss' ws) ∧ Chg (OwnR r vs) w wr) (fun i _ => m - (intOf i).toNat)
    case atStart => exact ⟨0, by omega, rfl, ⟨ss, HD.out⟩, Chg.refl _ _⟩
    case round =>
      obtain ⟨p, hp, rfl, ⟨ss', hdv⟩, hch⟩ := hrel
      by_cases hlt : p < m
      · obtain ⟨_, c1, c2, c3, _⟩ := hdv.cells
        rw [HVL.out] at c3
        have hpw : p < ws.length := by rw [← HM.out]; exact hlt
        obtain ⟨al, rfl, x0, x1⟩ := hdv.wr HVL.out p hpw
        have hkw : IntR wr (.slice Ak nk ck) keep := HK.out wr hch
        obtain ⟨Ak', ck', ek, _, hkr⟩ := hkw
        have ek1 : Ak = Ak' := by injection ek
        subst ek1
        clear ek
        have hsucc := dk_succ d keep torn p (by rw [← HLC.out]; exact hpw)
        have hcw := HD.out.cw
        have hcg : d.cache[p]'(by rw [← HLC.out]; exact hpw) = (ws[p].1, ws[p].2.data.toList) := by
          have : (wof ws)[p]'(by simp [wof]; exact hpw) = (ws[p].1, ws[p].2.data.toList) := by simp [wof]
          simp only [hcw] at this
          exact this
        rw [hcg] at hsucc
        have hcf : 0 ≤ ws[p].1 ∧ ws[p].1 < d.sectors ∧ ws[p].2.data.toList.length = 512 := by
          refine hI.cf (ws[p].1, ws[p].2.data.toList) ?_
          rw [← hcg]
          exact List.getElem_mem _
        dsimp only at hsucc
        generalize ws[p] = x at x0 x1 hsucc hcf
        clear hcg hcw
        obtain ⟨y0, y1⟩ := x
        dsimp only at *
        obtain ⟨ha0, ha1, hy5⟩ := hcf
        obtain ⟨j, rfl⟩ := Int.eq_ofNat_of_zero_le ha0
        have HDv := Lib.hid hdv; have HCh := Lib.hid hch; have HSu := Lib.hid hsucc; have HKR := Lib.hid hkr; have HY5 := Lib.hid hy5
        clear hdv hch hsucc hkr hy5
        have hwp : IntKind.i64.wrap ((p : Int) + 1) = ((p + 1 : Nat) : Int) := by rw [IntKind.wrap_i64]; omega
        go_wp2_with fail
        rename World => wr
        go_loopw [7, 8] (fun b i w2 => ∃ q : Nat, q ≤ nk ∧ i = .int .i64 q ∧ w2 = wr ∧ b = .bool ((keep.take q).contains (p : Int))) (fun b i _ => nk - (intOf i).toNat)
        case atStart => exact ⟨0, by omega, rfl, rfl, rfl⟩
        case round =>
          obtain ⟨q, hq, rfl, rfl, rfl⟩ := hrel
          rename World => wr
          by_cases hltq : q < nk
          · have hqk : q < keep.length := by rw [← HNK.out]; exact hltq
            obtain ⟨ak, rfl, hak⟩ := HKR.out (by omega)
            have z0 := hak q hqk
            have htc := take_contains keep q hqk (p : Int)
            generalize keep[q] = kq at z0 htc
            have hwq : IntKind.i64.wrap ((q : Int) + 1) = ((q + 1 : Nat) : Int) := by rw [IntKind.wrap_i64]; omega
            have HTC := Lib.hid htc
            clear htc hak
            cases hct : (keep.take q).contains (p : Int) with
            | true =>
              go_wp2
              go_roundw
              case rel => exact ⟨q + 1, by omega, by go_num, by first | rfl | trivial, by rw [HTC.out, hct]; rfl⟩
              case measure => simp [intOf]; omega
            | false =>
              go_wp2
              go_roundw
              case rel => exact ⟨q + 1, by omega, by go_num, by first | rfl | trivial, by rw [HTC.out, hct]; rfl⟩
              case measure => simp [intOf]; omega
          · have hqn : q = nk := by omega
            have hkt : keep.take q = keep := by rw [hqn, HNK.out]; exact List.take_length
            rw [hkt]
            clear hkt
            cases hct : keep.contains (p : Int) with
            | true =>
              have hsu := HSu.out
              rw [hct, if_pos rfl] at hsu
              have HU := Lib.hid hsu
              clear hsu
              obtain ⟨As, cs, hvs, hcs, has⟩ := HDv.out.vs
              change vs = .slice As d.sectors cs at hvs
              change d.sectors ≤ cs at hcs
              obtain ⟨ad, rfl, _⟩ := has (by show 0 < d.sectors; omega)
              rw [hvs] at c2
              have hjn : j < d.sectors := by omega
              have hjs : j < ss'.length := by rw [HDv.out.sl]; exact hjn
              have HVS := Lib.hid hvs
              have hz0 := (HDv.out.at hvs j hjs).1
              obtain ⟨s0, hs0⟩ : ∃ s0, s0 = ss'[j] := ⟨_, rfl⟩
              rw [← hs0] at hz0
              have HS0 := Lib.hid hs0
              have HC : Hid (∀ W, Gr wr.heap.size wr.drew W → W.cell? ⟨r, 2, none⟩ = some (.slice (some ad) d.sectors cs) ∧ W.cell? ⟨r, 3, none⟩ = some (.slice (some al) m cl) ∧ W.cell? (al.add (p * 2)) = some (.int .i64 j) ∧ W.cell? ⟨(al.add (p * 2)).block, (al.add (p * 2)).off + 1, none⟩ = some (.string y1) ∧ W.cell? (ad.add j) = some (.string s0)) := Lib.hid fun W hW => by
                have hb := Below.trans (Below.drew (Below.refl wr.heap.size wr)) hW.1
                exact ⟨cell_below hb c2, cell_below hb c3, cell_below hb x0, cell_below hb x1, cell_below hb hz0⟩
              clear has hvs hs0
              go_wp2_with fail
              (refine wp_region_tbl_tail _ 13 (fun _ => none) wr.heap.size (by kernel_rfl) (by kernel_rfl) (by kernel_rfl) ?_; simp only [List.take_succ_cons, List.take_zero, List.drop_succ_cons, List.drop_zero])
              repeat (first
                | (refine wpR_plain ?_ (by rfl) (fun K hK => ?_); (focus (first | (simp only [Region.wanted]; done) | (go_simp; done))); apply Exists.intro; refine ⟨fun W hW => ?_, ?_⟩; (go_simp; (try simp only [plainUpon_value, true_and]); rfl); go_simp; refine hK _ ?_; clear hK K)
                | (refine wpR_plain ?_ (by rfl) (fun K hK => ?_); (focus (first | (simp only [Region.wanted]; done) | (go_simp; done))); apply Exists.intro; refine ⟨fun W hW => ?_, ?_⟩; (have hcw := HC.out W hW; go_simp; (try simp only [plainUpon_value, true_and]); rfl); go_simp; refine hK _ ?_; clear hK K))
              refine wpR_nil (fun W hW hF => ?_)
              have hb := Below.trans (Below.drew (Below.refl wr.heap.size wr)) hW.1
              have HDW := Lib.hid (HDv.out.tr (TR.of_below hb))
              have HCW := Lib.hid (HCh.out.trans (Chg.of_below hb))
              obtain ⟨z0, z1⟩ := HDW.out.at HVS.out j hjs
              clear hF hW hb
              obtain ⟨hd3, hc3⟩ := HDW.out.put HVS.out j y1
              have HD3 := Lib.hid hd3; have HC3 := Lib.hid (HCW.out.trans hc3)
              clear hd3 hc3
              go_wp2
              go_roundw
              case rel => exact ⟨p + 1, by omega, by go_num, ⟨_, by rw [HU.out]; exact HD3.out⟩, HC3.out⟩
              case measure => simp [intOf]; omega
            | false =>
              by_cases hto : (p : Int) = torn
              · have hsu := HSu.out
                rw [hct, if_neg (by decide), if_pos hto] at hsu
                have HU := Lib.hid hsu
                have hbe : ((p : Int) == torn) = true := by rw [beq_iff_eq]; exact hto
                have hbe2 : decide ((p : Int) = torn) = true := decide_eq_true hto
                clear hsu hto
                obtain ⟨As, cs, hvs, hcs, has⟩ := HDv.out.vs
                change vs = .slice As d.sectors cs at hvs
                change d.sectors ≤ cs at hcs
                obtain ⟨ad, rfl, _⟩ := has (by show 0 < d.sectors; omega)
                rw [hvs] at c2
                have hjn : j < d.sectors := by omega
                have hjs : j < ss'.length := by rw [HDv.out.sl]; exact hjn
                have HVS := Lib.hid hvs
                have hz0 := (HDv.out.at hvs j hjs).1
                obtain ⟨s0, hs0⟩ : ∃ s0, s0 = ss'[j] := ⟨_, rfl⟩
                rw [← hs0] at hz0
                have HS0 := Lib.hid hs0
                have HC : Hid (∀ W, Gr wr.heap.size wr.drew W → W.cell? ⟨r, 2, none⟩ = some (.slice (some ad) d.sectors cs) ∧ W.cell? ⟨r, 3, none⟩ = some (.slice (some al) m cl) ∧ W.cell? (al.add (p * 2)) = some (.int .i64 j) ∧ W.cell? ⟨(al.add (p * 2)).block, (al.add (p * 2)).off + 1, none⟩ = some (.string y1) ∧ W.cell? (ad.add j) = some (.string s0)) := Lib.hid fun W hW => by
                  have hb := Below.trans (Below.drew (Below.refl wr.heap.size wr)) hW.1
                  exact ⟨cell_below hb c2, cell_below hb c3, cell_below hb x0, cell_below hb x1, cell_below hb hz0⟩
                clear has hvs hs0
                have hy1 : y1.size = 512 := by simpa using HY5.out
                have hs1 : s0.size = 512 := by
                  have h1 := HDv.out.se j hjs
                  rw [← HS0.out] at h1
                  have hgood : DevMath.Good d.sectors (dk d keep torn p).safe := DevMath.Good.crashed keep torn _ (fun x hx => hI.cf x (List.mem_of_mem_take hx)) 0 _ hI.sf
                  have hsl := hgood.sector (j : Int)
                  have h2 : s0.data.toList.length = 512 := by rw [h1]; exact hsl
                  simpa using h2
                go_wp2_with fail
                (refine wp_region_tbl_tail _ 23 (fun _ => none) wr.heap.size (by kernel_rfl) (by kernel_rfl) (by kernel_rfl) ?_; simp only [List.take_succ_cons, List.take_zero, List.drop_succ_cons, List.drop_zero])
                repeat (first
                  | (refine wpR_plain ?_ (by rfl) (fun K hK => ?_); (focus (first | (simp only [Region.wanted]; done) | (go_simp; done))); apply Exists.intro; refine ⟨fun W hW => ?_, ?_⟩; (go_simp; (try simp only [plainUpon_value, true_and]); rfl); go_simp; refine hK _ ?_; clear hK K)
                  | (refine wpR_plain ?_ (by rfl) (fun K hK => ?_); (focus (first | (simp only [Region.wanted]; done) | (go_simp; done))); apply Exists.intro; refine ⟨fun W hW => ?_, ?_⟩; (have hcw := HC.out W hW; go_simp; (try simp only [plainUpon_value, true_and]); rfl); go_simp; refine hK _ ?_; clear hK K))
                refine wpR_nil (fun W hW hF => ?_)
                have hb := Below.trans (Below.drew (Below.refl wr.heap.size wr)) hW.1
                have HDW := Lib.hid (HDv.out.tr (TR.of_below hb))
                have HCW := Lib.hid (HCh.out.trans (Chg.of_below hb))
                obtain ⟨z0, z1⟩ := HDW.out.at HVS.out j hjs
                obtain ⟨sn, hsn⟩ : ∃ sn : ByteArray, sn = y1.extract 0 256 ++ s0.extract 256 512 := ⟨_, rfl⟩
                have hsl : sn.data.toList = y1.data.toList.take 256 ++ s0.data.toList.drop 256 := by
                  rw [hsn]
                  exact cut_join y1 s0 hs1
                have hse : s0.data.toList = (dk d keep torn p).sector (j : Int) := by
                  have h1 := HDv.out.se j hjs
                  rw [← HS0.out] at h1
                  exact h1
                rw [hse] at hsl
                obtain ⟨hd3, hc3⟩ := HDW.out.put HVS.out j sn
                have HD3 := Lib.hid hd3; have HC3 := Lib.hid (HCW.out.trans hc3)
                have HSN := Lib.hid hsn; have HSL := Lib.hid hsl
                clear hd3 hc3 hsn hsl hse hF hW hb
                go_wp2
                rw [← HSN.out]
                go_roundw
                case rel => exact ⟨p + 1, by omega, by go_num, ⟨_, by rw [HU.out, ← HSL.out]; exact HD3.out⟩, HC3.out⟩
                case measure => simp [intOf]; omega
              · have hsu := HSu.out
                rw [hct, if_neg (by decide), if_neg hto] at hsu
                have HU := Lib.hid hsu
                have hbe : ((p : Int) == torn) = false := by rw [beq_eq_false_iff_ne]; exact hto
                have hbe2 : decide ((p : Int) = torn) = false := decide_eq_false hto
                clear hsu hto
                go_wp2
                go_roundw
                case rel => exact ⟨p + 1, by omega, by go_num, ⟨_, by rw [HU.out]; exact HDv.out⟩, HCh.out⟩
                case measure => simp [intOf]; omega
      · have hpm : p = m := by omega
        have hdk : (dk d keep torn p).safe = DevMath.crashed keep torn 0 d.safe d.cache := by
          show DevMath.crashed keep torn 0 d.safe (d.cache.take p) = _
          rw [List.take_of_length_le (by rw [← HLC.out, ← HM.out, hpm]; exact Nat.le_refl _)]
        obtain ⟨_, c1, c2, c3, c4, c5, c6, f0⟩ := hdv.cells
        rw [HVL.out] at c3
        have f1 := f0 1; have f3 := f0 3; have f4 := f0 4
        have HDv := Lib.hid hdv; have HCh := Lib.hid hch; have HDK := Lib.hid hdk
        clear hdv hch hdk f0
        go_wp2
        go_end0
        have x1 := heap_setCell_same wr r 3 _ _ (.slice none 0 0) HDv.out.st
        have x2 := heap_setCell_same _ r 1 _ _ (.bool true) x1
        have x3 := heap_setCell_same _ r 4 _ _ (.int .i64 0) x2
        have hc3 : Chg (· = r) wr (((wr.setCell ⟨r, 3, none⟩ (.slice none 0 0)).setCell ⟨r, 1, none⟩ (.bool true)).setCell ⟨r, 4, none⟩ (.int .i64 0)) := ((Chg.setCell _ _ _ _).trans (Chg.setCell _ _ _ _)).trans (Chg.setCell _ _ _ _)
        have hrw := HDv.out.rows hc3
        refine ⟨rfl, ⟨0, .slice none 0 0, ss', [], HDv.out.turn hc3 x3 rfl HDK.out.symm ⟨rfl, .inl ⟨rfl, rfl⟩⟩ hrw.2 rfl rfl (by decide)⟩, HCh.out.trans (hc3.imp fun k hk => .inl hk)⟩
end Go.Proofs.Ytbpecfbliglboaa
