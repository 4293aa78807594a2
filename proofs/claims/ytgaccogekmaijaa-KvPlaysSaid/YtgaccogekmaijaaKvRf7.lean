/- A row of changes as the document's own; the document's table in bytes. -/
import Derived.Test.YtgaccogekmaijaaKvRf6
namespace Go.Proofs.Ytgaccogekmaijaa
open Go.RowKit Go.Maps
set_option linter.unusedVariables false
set_option linter.unusedSimpArgs false
attribute [local irreducible] wpR relOp Stu.wpR Stu.relOp
def RO (w0 : World) (_ : World) (v : Value) (l : List UInt8) : Prop := ∃ A c, v = .slice A l.length c ∧ l.length ≤ c ∧ ∀ W, Below w0.heap.size w0 W → Rd W A l
def olit (S0 : Nat) (k : ByteArray) (vb : Value) (g : Bool) : Stu.SpU (TE 80 3 S0) (Gs S0) := ⟨false, fun _ u => ∃ g, u = .slice (some ⟨g, 0, none⟩) 1 1, fun _ u W => ∃ gl, u = .slice (some ⟨gl, 0, none⟩) 1 1 ∧ W.heap[gl]? = some (.cells #[.string k, vb, .bool g] 80), fun _ _ => True, fun _ _ W W' h hg => by
  obtain ⟨g, h1, h3⟩ := h
  exact ⟨g, h1, hg.2 _ _ _ _ (.inr (by simp)) h3⟩, fun _ _ _ _ _ => trivial⟩
def osp (R : World → Value → List UInt8 → Prop) (S0 m : Nat) (rs : List PutD) (hR : ∀ W W' v l, Gs S0 W W' → R W v l → R W' v l) : Stu.SpU (TE 80 3 S0) (Gs S0) := ⟨true, fun _ v => shpn m v, fun _ _ _ => True, fun v W => PutsG R W S0 v rs, fun _ _ _ _ _ _ => trivial, fun v W W' h hg => h.below hg.1 (fun v l => hR W W' v l hg)⟩
set_option maxRecDepth 20000 in
set_option maxHeartbeats 4000000 in
theorem kv_own (w0 w : World) (hb0 : Below w0.heap.size w0 w) (A : Option Addr) (c : Nat) (xs : List PutD) (hr : Row KPut 3 w0 A xs) (hc : xs.length ≤ c) (hn : xs.length ≤ 1000) :
    Calls Try.prog 19 #[.slice A xs.length c] w fun e w' => ∃ v, e = .returned v ∧ PutsG (RO w0) w' w.heap.size v xs ∧ Below w.heap.size w w' := by
  obtain ⟨n, hnn⟩ : ∃ n, n = xs.length := ⟨_, rfl⟩
  rw [← hnn] at hc hn ⊢
  have HN := Lib.hid hnn; have HR := Lib.hid hr
  obtain ⟨S0, hS0⟩ : ∃ S0, S0 = w.heap.size := ⟨_, rfl⟩
  rw [← hS0]
  have HS0 := Lib.hid hS0; have HB0 := Lib.hid hb0
  have HW0 : Hid (w0.heap.size ≤ S0) := Lib.hid (by rw [hS0]; exact hb0.size)
  clear hnn hr hS0 hb0
  go_enter Try.func19, Try.ntmps19
  go_wp2_with fail
  go_loopw [3, 4] (fun v i wr => ∃ p : Nat, p ≤ n ∧ i = .int .i64 p ∧ PutsG (RO w0) wr S0 v (xs.take p) ∧ Below S0 w wr) (fun _ i _ => n - (intOf i).toNat)
  case atStart => exact ⟨0, by omega, rfl, PutsG.nil _ _ _, Below.refl _ _⟩
  case round =>
    rename World => wL
    obtain ⟨p, hp, rfl, hpg, hb⟩ := hrel
    by_cases hlt : p < n
    · have hpx : p < xs.length := by rw [← HN.out]; exact hlt
      obtain ⟨a, Aj, cj, rfl, c0, c1, c2, hcj, hrd, _⟩ := put_at HR.out p hpx
      have hbw : Below w0.heap.size w0 wL := HB0.out.trans (hb.mono HW0.out)
      have hlen : (xs.take p).length = p := by rw [List.length_take, ← HN.out]; omega
      obtain ⟨A0, c00, hv0, hc00⟩ := hpg.shape hlen.symm
      subst hv0
      have hsu : xs.take (p + 1) = xs.take p ++ [xs[p]] := by rw [List.take_add_one, List.getElem?_eq_getElem hpx]; rfl
      generalize xs[p] = x at *
      obtain ⟨xk, xv, xg⟩ := x
      dsimp only at *
      obtain ⟨nv, hnv⟩ : ∃ nv, nv = xv.length := ⟨_, rfl⟩
      rw [← hnv] at c1 hcj
      have hwp : IntKind.i64.wrap ((p : Int) + 1) = ((p + 1 : Nat) : Int) := by rw [IntKind.wrap_i64]; omega
      have hBs : S0 ≤ wL.heap.size := by rw [HS0.out]; rw [HS0.out] at hb; exact hb.size
      have hBW : ∀ W, TE 80 3 S0 wL.drew W → Below S0 w W := fun W hW => hb.trans (hW.drew hBs).1
      have HBW := Lib.hid hBW
      have HCC : Hid (∀ W, TE 80 3 S0 wL.drew W → W.cell? (a.add (p * 3)) = some (.string xk) ∧ W.cell? ⟨(a.add (p * 3)).block, (a.add (p * 3)).off + 1, none⟩ = some (.slice Aj nv cj) ∧ W.cell? ⟨(a.add (p * 3)).block, (a.add (p * 3)).off + 2, none⟩ = some (.bool xg)) := Lib.hid fun W hW => by
        have h1 : Below w0.heap.size w0 W := HB0.out.trans ((hBW W hW).mono HW0.out)
        exact ⟨cell_below h1 c0, cell_below h1 c1, cell_below h1 c2⟩
      have HSz : Hid (∀ W, TE 80 3 S0 wL.drew W → S0 ≤ W.heap.size) := Lib.hid fun W hW => Nat.le_trans hBs (hW.drew hBs).1.size
      have HRO : Hid (RO w0 wL (.slice Aj nv cj) xv) := Lib.hid ⟨Aj, cj, by rw [hnv], by rw [← hnv]; exact hcj, fun W hW => hrd.below hW⟩
      have HPG : Hid (PutsG (RO w0) wL.drew S0 (.slice A0 p c00) (xs.take p)) := Lib.hid (hpg.below (Below.drew (Below.refl _ _)) (fun _ _ h => h))
      have HLE := Lib.hid hlen; have HSU := Lib.hid hsu
      have hp9 : p ≤ 1000000 := by omega
      clear hpg hb hbw hlen hsu hnv hBs hBW c0 c1 c2 hrd
      go_wp2_with fail
      refine Stu.wp_region_stu_tail _ 19 (Stu.mkT [(17, olit S0 xk (.slice Aj nv cj) xg), (18, osp (RO w0) S0 (p + 1) (xs.take p ++ [⟨xk, xv, xg⟩]) (fun _ _ _ _ _ h => h))]) (fun W => PutsG (RO w0) W S0 (.slice A0 p c00) (xs.take p)) [18] (TE.refl _ _ _) TE.trans Gs.te (fun _ _ h hg => h.below hg.1 (fun _ _ h => h)) HPG.out (Stu.mkT_ks _ (by show List.Nodup [17, 18]; decide) _ rfl) (by kernel_rfl) (by kernel_rfl) (by kernel_rfl) ?_
      simp only [List.take_succ_cons, List.take_zero, List.drop_succ_cons, List.drop_zero]
      repeat (first
        | (refine Stu.wpR_plain ?_ (by rfl) (by rfl) (fun K hK => ?_); (focus (first | (simp only [Region.wanted]; done) | (go_simp; done))); apply Exists.intro; refine ⟨fun W hW => ?_, ?_⟩; (go_simp; (try simp only [Stu.plainUpon_value, true_and]); rfl); go_simp; refine hK _ ?_; clear hK K)
        | (refine Stu.wpR_plain ?_ (by rfl) (by rfl) (fun K hK => ?_); (focus (first | (simp only [Region.wanted]; done) | (go_simp; done))); apply Exists.intro; refine ⟨fun W hW => ?_, ?_⟩; (have hcw := HCC.out W hW; go_simp; (try simp only [Stu.plainUpon_value, true_and]); rfl); go_simp; refine hK _ ?_; clear hK K)
        | (refine Stu.wpR_spg (by rfl) (by rfl) ?_ ?_ (fun W hW hF => ?_) (fun K v hv hK => ?_); (focus (first | (simp only [Region.wanted]; done) | (go_simp; done))); (focus (exact ⟨_, 0, rfl⟩)); (go_simp; exact plit_rel (HSz.out W hW) _ ⟨_, rfl⟩ ⟨_, rfl, heap_new _ _ _ rfl⟩); (obtain ⟨g10, rfl⟩ := hv); go_simp; refine hK _ ?_; clear hK K)
        | (refine Stu.wpR_spu (by rfl) (by rfl) ?_ ?_ (fun W hW hU hF => ?_) (fun K v hv hK => ?_); (focus (first | (simp only [Region.wanted]; done) | (go_simp; done))); (focus (exact ⟨_, none, _, rfl, Nat.le_refl _⟩)); (obtain ⟨g', e1, e3⟩ := (show (olit S0 xk (.slice Aj nv cj) xg).q [] (.slice (some ⟨g10, 0, none⟩) 1 1) W from hF 17 rfl); cases e1; exact PutsG.app_rel (v := .slice A0 p c00) (x := ⟨xk, xv, xg⟩) hU (fun _ _ _ _ h => h) HRO.out rfl rfl rfl rfl e3 (HSz.out W hW) (by rw [HLE.out]; exact hp9) (by rw [HLE.out])); (obtain ⟨A3, c3, rfl, hc3⟩ := hv); go_simp; refine hK _ ?_; clear hK K))
      refine Stu.wpR_nil (fun W3 hW3 hU hF => ?_)
      have hU2 : PutsG (RO w0) W3 S0 (.slice A3 (p + 1) c3) (xs.take p ++ [⟨xk, xv, xg⟩]) := hU
      rw [← HSU.out] at hU2
      have HU := Lib.hid hU2; have HB3 := Lib.hid (HBW.out W3 hW3)
      clear hU hU2 hF hW3 HCC HSz HPG HBW
      go_wp2
      go_roundw
      case rel => exact ⟨p + 1, by omega, by go_num, HU.out, HB3.out⟩
      case measure => simp [intOf]; omega
    · have hpn : p = n := by omega
      have hltI : ¬ (p : Int) < n := by omega
      obtain ⟨A0, c00, hv0, hc00⟩ := hpg.shape rfl
      rw [hpn, HN.out, List.take_length] at hpg hv0
      rw [← HN.out] at hv0
      subst hv0
      have HPG := Lib.hid hpg; have HB := Lib.hid hb
      clear hpg hb hpn
      go_wp2
      go_ret
      exact ⟨_, rfl, HPG.out, HB.out⟩
end Go.Proofs.Ytgaccogekmaijaa
