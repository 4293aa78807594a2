/- The document's table in bytes. -/
import Derived.Test.YtgaccogekmaijaaKvRf7
import Derived.Test.YtgaccogekmaijaaKvRf3
namespace Go.Proofs.Ytgaccogekmaijaa
open Go.RowKit Go.Maps
set_option linter.unusedVariables false
set_option linter.unusedSimpArgs false
attribute [local irreducible] wpR relOp Stu.wpR Stu.relOp
def RS (W : World) (v : Value) (l : List UInt8) : Prop := Sl W v l
theorem RS.te {S0 : Nat} (W W' : World) (v : Value) (l : List UInt8) (h : TE 80 3 S0 W W') (hs : RS W v l) : RS W' v l := Sl.te h (by decide) hs
theorem RS.gs {S0 : Nat} (W W' : World) (v : Value) (l : List UInt8) (h : Gs S0 W W') (hs : RS W v l) : RS W' v l := Sl.below hs h.1
def cvS (S0 n : Nat) (l : List UInt8) : Stu.SpU (TE 80 3 S0) (Gs S0) := ⟨false, fun _ v => ∃ g c, v = .slice (some ⟨g, 0, none⟩) n c ∧ n ≤ c, fun _ v W => RS W v l, fun _ _ => True, fun _ v W W' h hg => RS.te _ _ _ _ hg h, fun _ _ _ _ _ => trivial⟩
def bdS (S0 n : Nat) (k : ByteArray) (l : List UInt8) : Stu.SpU (TE 80 3 S0) (Gs S0) := ⟨false, fun _ v => ∃ g c, v = .agg #[.string k, .slice (some ⟨g, 0, none⟩) n c, .bool false] ∧ n ≤ c, fun _ v W => ∃ vb, v = .agg #[.string k, vb, .bool false] ∧ vb.oneCell' = true ∧ RS W vb l, fun _ _ => True, fun _ v W W' h hg => by
  obtain ⟨vb, h1, h2, h3⟩ := h
  exact ⟨vb, h1, h2, RS.te _ _ _ _ hg h3⟩, fun _ _ _ _ _ => trivial⟩
def ltS (S0 : Nat) (k : ByteArray) (l : List UInt8) : Stu.SpU (TE 80 3 S0) (Gs S0) := ⟨false, fun _ u => ∃ g, u = .slice (some ⟨g, 0, none⟩) 1 1, fun _ u W => ∃ gl vb, u = .slice (some ⟨gl, 0, none⟩) 1 1 ∧ vb.oneCell' = true ∧ RS W vb l ∧ W.heap[gl]? = some (.cells #[.string k, vb, .bool false] 80), fun _ _ => True, fun _ _ W W' h hg => by
  obtain ⟨g, vb, h1, h2, h3, h4⟩ := h
  exact ⟨g, vb, h1, h2, RS.te _ _ _ _ hg h3, hg.2 _ _ _ _ (.inr (by simp)) h4⟩, fun _ _ _ _ _ => trivial⟩
theorem cv_rel {o : Oper} {a : Act} {W : World} {S0 nv : Nat} {z : ByteArray} {yv : List UInt8} {x : Operand} (ho : o.op = .convert 9 32 x) (hx : a.eval x = .string z) (hzd : z.data.toList = yv) (hnv : nv = z.size) (hz : z.size ≤ 140737488351232) (hS : S0 ≤ W.heap.size) (xs : List Value) :
    Stu.relUpon Try.prog (Gs S0) W (fun v W' => (cvS S0 nv yv).p xs v ∧ (cvS S0 nv yv).q xs v W') ((execOp a.eval o).run Try.prog W) := by
  obtain ⟨c, W', h1, h2, h3⟩ := str_slice W z hz
  rw [hzd, ← hnv] at *
  have h4 := h2
  obtain ⟨_, c', e, h5, _⟩ := h2.rd
  injection e with e1 e2 e3
  unfold execOp
  simp only [ho, Sem.run_bind, Sem.run_pure, Result.andThen_ok, hx, h1]
  exact ⟨⟨h3, hS⟩, ⟨_, _, rfl, by rw [e2, e3]; exact h5⟩, h4⟩
set_option maxRecDepth 20000 in
set_option maxHeartbeats 4000000 in
theorem ref_bytes {w : World} {B g : Nat} {L : List KvMath.Ent} (h : RT w B g L) (hL : L.length ≤ 1000) (hLz : ∀ p ∈ L, p.1.size ≤ 200 ∧ p.2.length ≤ 200000) :
    Calls Try.prog 25 #[.pointer (some ⟨g, 0, none⟩)] w fun e w' => ∃ v, e = .returned v ∧ Sl w' v (bytesB L) ∧ Below w.heap.size w w' := by
  obtain ⟨n, hnn⟩ : ∃ n, n = L.length := ⟨_, rfl⟩
  rw [← hnn] at hL
  have HN := Lib.hid hnn; have HRT := Lib.hid h; have HLZ := Lib.hid hLz
  obtain ⟨S0, hS0⟩ : ∃ S0, S0 = w.heap.size := ⟨_, rfl⟩
  rw [← hS0]
  have HS0 := Lib.hid hS0
  clear hnn h hS0 hLz
  obtain ⟨Am, cm, h0, hcm, hrow⟩ := HRT.out.rd
  rw [← HN.out] at h0 hcm
  have HG0 := Lib.hid h0; have HROW := Lib.hid hrow
  clear hrow
  rw [HS0.out] at *
  clear HS0 S0
  have HK : Hid (∀ W : World, Below w.heap.size w W → W.cell? ⟨g, 0, none⟩ = some (.slice Am n cm)) := Lib.hid fun W hb => cell_below hb HG0.out
  clear h0
  go_enter Try.func25, Try.ntmps25
  go_wp2_with fail
  go_loopw [3, 4] (fun v i wr => ∃ p : Nat, p ≤ n ∧ i = .int .i64 p ∧ PutsG RS wr w.heap.size v ((L.take p).map toPut) ∧ Below w.heap.size w wr) (fun _ i _ => n - (intOf i).toNat)
  case atStart => exact ⟨0, by omega, rfl, PutsG.nil _ _ _, Below.refl _ _⟩
  case round =>
    rename World => wL
    obtain ⟨p, hp, rfl, hpg, hb⟩ := hrel
    have g0 := HK.out _ hb
    by_cases hlt : p < n
    · have hpx : p < L.length := by rw [← HN.out]; exact hlt
      have hlen : ((L.take p).map toPut).length = p := by rw [List.length_map, List.length_take, ← HN.out]; omega
      obtain ⟨A0, c00, hv0, hc00⟩ := hpg.shape hlen.symm
      subst hv0
      have hsu : (L.take (p + 1)).map toPut = (L.take p).map toPut ++ [toPut L[p]] := by rw [List.take_add_one, List.getElem?_eq_getElem hpx, List.map_append]; rfl
      obtain ⟨g', hA, hrow2⟩ := HROW.out (by omega)
      subst hA
      obtain ⟨x0, x1⟩ := hrow2 p hpx
      obtain ⟨z1, z2⟩ := HLZ.out _ (List.getElem_mem hpx)
      generalize L[p] = y at *
      obtain ⟨yk, yv⟩ := y
      dsimp only at *
      obtain ⟨z, hz⟩ : ∃ z, z = vS (yk, yv) := ⟨_, rfl⟩
      rw [← hz] at x1
      have hzd : z.data.toList = yv := by rw [hz]; rfl
      have hzs : z.size = yv.length := by rw [← hzd, Array.length_toList]; rfl
      obtain ⟨nv, hnv⟩ : ∃ nv, nv = z.size := ⟨_, rfl⟩
      have hnv9 : nv ≤ 140737488351232 := by omega
      have hwp : IntKind.i64.wrap ((p : Int) + 1) = ((p + 1 : Nat) : Int) := by rw [IntKind.wrap_i64]; omega
      have hBs : w.heap.size ≤ wL.heap.size := hb.size
      have hBW : ∀ W, TE 80 3 w.heap.size wL.drew W → Below w.heap.size w W := fun W hW => hb.trans (hW.drew hBs).1
      have HBW := Lib.hid hBW
      have HCC : Hid (∀ W, TE 80 3 w.heap.size wL.drew W → W.cell? ⟨g, 0, none⟩ = some (.slice (some ⟨g', 0, none⟩) n cm) ∧ W.cell? ⟨g', p * 2, none⟩ = some (.string yk) ∧ W.cell? ⟨g', p * 2 + 1, none⟩ = some (.string z)) := Lib.hid fun W hW => ⟨HK.out _ (hBW W hW), cell_below (hBW W hW) x0, cell_below (hBW W hW) x1⟩
      have HSz : Hid (∀ W, TE 80 3 w.heap.size wL.drew W → w.heap.size ≤ W.heap.size) := Lib.hid fun W hW => (hBW W hW).size
      have HPG : Hid (PutsG RS wL.drew w.heap.size (.slice A0 p c00) ((L.take p).map toPut)) := Lib.hid (hpg.below (Below.drew (Below.refl _ _)) (fun v l h => Sl.below h (Below.drew (Below.refl _ _))))
      have HZD := Lib.hid hzd; have HNV := Lib.hid hnv
      have HZ9 : Hid (z.size ≤ 140737488351232) := Lib.hid (by omega)
      have HLE := Lib.hid hlen; have HSU := Lib.hid hsu
      have hp9 : p ≤ 1000000 := by omega
      clear hpg hb hlen hsu hnv hBs hBW x0 x1 hrow2 hzd hzs hz hnv9 z1 z2
      go_wp2_with fail
      refine Stu.wp_region_stu_tail _ 21 (Stu.mkT [(17, cvS w.heap.size nv yv), (18, bdS w.heap.size nv yk yv), (19, ltS w.heap.size yk yv), (20, osp RS w.heap.size (p + 1) ((L.take p).map toPut ++ [⟨yk, yv, false⟩]) RS.gs)]) (fun W => PutsG RS W w.heap.size (.slice A0 p c00) ((L.take p).map toPut)) [20] (TE.refl _ _ _) TE.trans Gs.te (fun _ _ h hg => h.below hg.1 (fun v l => RS.gs _ _ v l hg)) HPG.out (Stu.mkT_ks _ (by show List.Nodup [17, 18, 19, 20]; decide) _ rfl) (by kernel_rfl) (by kernel_rfl) (by kernel_rfl) ?_
      simp only [List.take_succ_cons, List.take_zero, List.drop_succ_cons, List.drop_zero]
      repeat (first
        | (refine Stu.wpR_plain ?_ (by rfl) (by rfl) (fun K hK => ?_); (focus (first | (simp only [Region.wanted]; done) | (go_simp; done))); apply Exists.intro; refine ⟨fun W hW => ?_, ?_⟩; (go_simp; (try simp only [Stu.plainUpon_value, true_and]); rfl); go_simp; refine hK _ ?_; clear hK K)
        | (refine Stu.wpR_plain ?_ (by rfl) (by rfl) (fun K hK => ?_); (focus (first | (simp only [Region.wanted]; done) | (go_simp; done))); apply Exists.intro; refine ⟨fun W hW => ?_, ?_⟩; (have hcw := HCC.out W hW; go_simp; (try simp only [Stu.plainUpon_value, true_and]); rfl); go_simp; refine hK _ ?_; clear hK K)
        | (refine Stu.wpR_spg (by rfl) (by rfl) ?_ ?_ (fun W hW hF => ?_) (fun K v hv hK => ?_); (focus (first | (simp only [Region.wanted]; done) | (go_simp; done))); (focus (exact ⟨_, 0, nv, rfl, Nat.le_refl _⟩)); (exact cv_rel rfl rfl HZD.out HNV.out HZ9.out (HSz.out W hW) _); (obtain ⟨g7, c7, rfl, hc7⟩ := hv); go_simp; refine hK _ ?_; clear hK K)
        | (refine Stu.wpR_spg (by rfl) (by rfl) ?_ ?_ (fun W hW hF => ?_) (fun K v hv hK => ?_); (focus (first | (simp only [Region.wanted]; done) | (go_simp; done))); (focus (exact ⟨_, 0, nv, rfl, Nat.le_refl _⟩)); (go_simp; exact ⟨⟨Below.refl _ _, HSz.out W hW⟩, ⟨_, _, rfl, hc7⟩, ⟨_, rfl, rfl, (show (cvS w.heap.size nv yv).q [] (.slice (some ⟨g7, 0, none⟩) nv c7) W from hF 17 rfl)⟩⟩); (obtain ⟨g8, c8, rfl, hc8⟩ := hv); go_simp; refine hK _ ?_; clear hK K))
      (refine Stu.wpR_spg (by rfl) (by rfl) ?_ ?_ (fun W hW hF => ?_) (fun K v hv hK => ?_); (focus (first | (simp only [Region.wanted]; done) | (go_simp; done))); (focus (exact ⟨_, 0, rfl⟩)); (go_simp; exact plit_rel (HSz.out W hW) _ ⟨_, rfl⟩ (by obtain ⟨vb, e1, e2, e3⟩ := (show (bdS w.heap.size nv yk yv).q [] (.agg #[.string yk, .slice (some ⟨g8, 0, none⟩) nv c8, .bool false]) W from hF 18 rfl); injection e1 with e1; injection e1 with e1; simp at e1; subst e1; exact ⟨_, _, rfl, e2, RS.te _ _ _ _ (Gs.te _ _ ⟨(Below.refl _ W).alloc (Nat.le_refl _) _, HSz.out W hW⟩) e3, heap_new _ _ _ rfl⟩)); (obtain ⟨g10, rfl⟩ := hv); go_simp; refine hK _ ?_; clear hK K)
      (refine Stu.wpR_spu (by rfl) (by rfl) ?_ ?_ (fun W hW hU hF => ?_) (fun K v hv hK => ?_); (focus (first | (simp only [Region.wanted]; done) | (go_simp; done))); (focus (exact ⟨_, none, _, rfl, Nat.le_refl _⟩)); (obtain ⟨g', vb, e1, e2, e3, e4⟩ := (show (ltS w.heap.size yk yv).q [] (.slice (some ⟨g10, 0, none⟩) 1 1) W from hF 19 rfl); cases e1; exact PutsG.app_rel (v := .slice A0 p c00) (x := ⟨yk, yv, false⟩) hU (fun W' v l h => RS.te _ _ v l h) e3 e2 rfl rfl rfl e4 (HSz.out W hW) (by rw [HLE.out]; exact hp9) (by rw [HLE.out])); (obtain ⟨A3, c3, rfl, hc3⟩ := hv); go_simp; refine hK _ ?_; clear hK K)
      refine Stu.wpR_nil (fun W3 hW3 hU hF => ?_)
      have hU2 : PutsG RS W3 w.heap.size (.slice A3 (p + 1) c3) ((L.take p).map toPut ++ [toPut (yk, yv)]) := hU
      rw [← HSU.out] at hU2
      have HU := Lib.hid hU2; have HB3 := Lib.hid (HBW.out W3 hW3)
      clear hU hU2 hF hW3 HCC HSz HPG HBW
      go_wp2
      go_roundw
      case rel => exact ⟨p + 1, by omega, by go_num, HU.out, HB3.out⟩
      case measure => simp [intOf]; omega
    · have hpn : p = n := by omega
      have hltI : ¬ (p : Int) < n := by omega
      rw [hpn, HN.out, List.take_length] at hpg
      have hmem : ∀ x ∈ L.map toPut, x.key.size ≤ 140737488351232 ∧ x.val.length ≤ 140737488351232 := fun x hx => by
        obtain ⟨y, hy, rfl⟩ := List.mem_map.1 hx
        obtain ⟨z1, z2⟩ := HLZ.out y hy
        exact ⟨Nat.le_trans z1 (by decide), Nat.le_trans z2 (by decide)⟩
      obtain ⟨A5, c5, hv5, hc5, hrow5⟩ := hpg.row (fun v l h => Sl.rd h) hmem
      subst hv5
      have henc := ref_encode wL A5 c5 (L.map toPut) hrow5 hc5 (by rw [List.length_map, ← HN.out]; exact hL)
      rw [List.length_map, ← HN.out] at henc
      have HE := Lib.hid henc; have HB := Lib.hid hb
      have hll : (L.map toPut).length = n := by rw [List.length_map, ← HN.out]
      rw [hll]
      clear hpg hb hpn henc hrow5 hmem hll hc5
      go_wp2_with fail
      refine HE.out.mono ?_
      rintro e w1 ⟨v, rfl, ho, hb1⟩
      have HO := Lib.hid ho; have HB1 := Lib.hid hb1
      clear ho hb1 HE
      go_wp2
      go_ret
      exact ⟨_, rfl, HO.out.sl, below_then HB.out HB.out.size HB1.out⟩
end Go.Proofs.Ytgaccogekmaijaa
