/- The document's Load. -/
import Derived.Test.YtgaccogekmaijaaKvRf9
import Derived.Test.YtgaccogekmaijaaKvRf4
namespace Go.Proofs.Ytgaccogekmaijaa
open Go.RowKit Go.Maps
set_option linter.unusedVariables false
set_option linter.unusedSimpArgs false
attribute [local irreducible] wpR relOp Stu.wpR Stu.relOp
def CG (g : Nat) (W W' : World) : Prop := Chg (· = g) W W'
def CB (W W' : World) : Prop := Below W.heap.size W W'
theorem CB.cg {g : Nat} (W W' : World) (h : CB W W') : CG g W W' := Chg.of_below h
def RdF (g n : Nat) (l : List UInt8) (v : Value) (W : World) : Prop := ∀ W', CG g W W' → (convert 32 9 v).run Try.prog W' = .ok (.string ⟨l.toArray⟩) W'
def cmS (B g : Nat) (L : List KvMath.Ent) : Stu.SpU (CG g) CB := ⟨true, fun _ v => v = .int .i64 0, fun _ _ _ => True, fun _ W => RT W B g L, fun _ _ _ _ _ _ => trivial, fun _ _ _ h hg => h.below hg⟩
def byS (g n : Nat) (l : List UInt8) (U : World → Prop) (hU : ∀ W W', U W → CB W W' → U W') : Stu.SpU (CG g) CB := ⟨true, fun _ v => ∃ A c, v = .slice A n c ∧ n ≤ c, fun _ v W => RdF g n l v W, fun _ W => U W, fun _ _ _ _ h hg W' hW => h W' (Chg.trans hg hW), fun _ _ _ h hg => hU _ _ h hg⟩
def stS (g : Nat) (z : ByteArray) : Stu.SpU (CG g) CB := ⟨false, fun _ v => v = .string z, fun _ _ _ => True, fun _ _ => True, fun _ _ _ _ _ _ => trivial, fun _ _ _ _ _ => trivial⟩
def mvS (g : Nat) (v0 : Value) (U : World → Prop) (hU : ∀ W W', U W → CB W W' → U W') : Stu.SpU (CG g) CB := ⟨true, fun _ v => v = v0, fun _ _ _ => True, fun _ W => U W, fun _ _ _ _ _ _ => trivial, fun _ _ _ h hg => hU _ _ h hg⟩
theorem RT.ty {w : World} {B g : Nat} {L : List KvMath.Ent} (h : RT w B g L) : ∀ (t : Nat), t ≠ 49 → ∀ cs fr, w.heap[g]? ≠ some (.cells cs t fr) := fun t ht cs fr e => by
  obtain ⟨v, h1, _⟩ := h
  rw [h1] at e
  injection e with e
  injection e with _ e
  exact ht e.symm
theorem Sl.cg {w : World} {B g : Nat} {L : List KvMath.Ent} {v : Value} {l : List UInt8} (h : RT w B g L) (hs : Sl w v l) : RdF g l.length l v w := fun W hW => by
  have h2 := hs.chg hW (fun k hk cs fr => by
    have hk : k = g := hk
    rw [hk]
    exact h.ty _ (by decide) cs fr)
  obtain ⟨A, c, rfl, _, h3⟩ := h2.rd
  exact h3.str _ _ rfl
def RLoad (w : World) (bs : List UInt8) (e : Ending) (w' : World) : Prop := Below w.heap.size w w' ∧
  ((∃ xs g, decB bs = some xs ∧ bytesB (KvMath.all [] (xs.map PutD.ent)) = bs ∧ e = .returned (.tuple #[.pointer (some ⟨g, 0, none⟩), .bool true]) ∧ RT w' w.heap.size g (KvMath.all [] (xs.map PutD.ent))) ∨
   ((∀ xs, decB bs = some xs → bytesB (KvMath.all [] (xs.map PutD.ent)) ≠ bs) ∧ e = .returned (.tuple #[.pointer none, .bool false])))
set_option maxRecDepth 20000 in
set_option maxHeartbeats 2000000 in
theorem ref_load (w : World) (A : Option Addr) (c : Nat) (bs : List UInt8) (hr : Rd w A bs) (hc : bs.length ≤ c) (hl : bs.length ≤ 600) :
    Calls Try.prog 27 #[.slice A bs.length c] w (RLoad w bs) := by
  have hdec := Lib.hid (ref_decode w A c bs hr hc (by omega))
  have HR := Lib.hid hr
  obtain ⟨n, hn⟩ : ∃ n, n = bs.length := ⟨_, rfl⟩
  rw [← hn] at hdec hc hl ⊢
  have HN := Lib.hid hn
  clear hn hr
  go_enter Try.func27, Try.ntmps27
  go_wp2_with fail
  refine hdec.out.mono ?_
  rintro e w1 ⟨hb1, (⟨xs, v, hd, rfl, hpg, hxl, hxz⟩ | ⟨hd, rfl⟩)⟩
  · obtain ⟨A1, c1, rfl, hc1⟩ := hpg.shape rfl
    have HB1 := Lib.hid hb1; have HD := Lib.hid hd
    cases hg : xs.all PutD.good with
    | false =>
      have HE : Hid (∀ xs, decB bs = some xs → bytesB (KvMath.all [] (xs.map PutD.ent)) ≠ bs) := Lib.hid fun ys hy => by
        rw [dec_ref _ bs ys (Nat.le_refl _), hd] at hy
        obtain ⟨e1, e2⟩ := hy
        injection e1 with e1
        subst e1
        rw [hg] at e2
        cases e2
      generalize xs.length = m at *
      clear hb1 hpg hxl hxz hd hdec
      obtain ⟨W2, hW2⟩ : ∃ W2, W2 = w1.alloc (.cells #[.slice none 0 0] 49) := ⟨_, rfl⟩
      have HB2 : Hid (Below w.heap.size w W2) := Lib.hid (HB1.out.trans (by rw [hW2]; exact ((Below.refl _ w1).alloc (Nat.le_refl _) _).mono HB1.out.size))
      have HW2 := Lib.hid hW2
      clear hW2
      go_wp2
      go_region
      all_goals rw [← HW2.out]
      all_goals go_wp2
      all_goals go_ret2
      all_goals exact ⟨Below.trans HB2.out (Below.drew (Below.refl _ _)), .inr ⟨HE.out, rfl⟩⟩
    | true =>
      have hdb : decB bs = some xs := (dec_ref _ bs xs (Nat.le_refl _)).2 ⟨hd, hg⟩
      have hgx : ∀ x ∈ xs, x.key.size ≤ 140737488351232 ∧ x.val.length ≤ 140737488351232 := fun x hx => ⟨Nat.le_trans (hxz x hx).1 (by decide), Nat.le_trans (hxz x hx).2 (by decide)⟩
      obtain ⟨W2, hW2⟩ : ∃ W2, W2 = w1.alloc (.cells #[.slice none 0 0] 49) := ⟨_, rfl⟩
      have hb2 : Below w1.heap.size w1 W2 := by rw [hW2]; exact (Below.refl _ w1).alloc (Nat.le_refl _) _
      have hrt2 : RT W2 w1.heap.size w1.heap.size [] := ⟨_, by rw [hW2]; exact heap_new w1 _ _ rfl, Nat.le_refl _, ⟨rfl, .inl ⟨rfl, rfl⟩⟩⟩
      have hrow : ∀ W, Chg (· = w1.heap.size) W2 W → Row KPut 3 W A1 xs := fun W hW => (by
        have h2 : PutsG RS W w.heap.size (.slice A1 xs.length c1) xs := (hpg.below hb2 (fun v l h => Sl.below h hb2)).stay (fun k cs fr hk => hW.heap hk (fun e => by
          have e : k = w1.heap.size := e
          subst e
          exact hrt2.ty _ (by decide) _ _ hk)) (fun v l h => Sl.chg h hW (fun k hk cs fr => by
          have hk : k = w1.heap.size := hk
          rw [hk]
          exact hrt2.ty _ (by decide) cs fr))
        obtain ⟨A', c', e, _, h3⟩ := h2.row (fun v l h => Sl.rd h) hgx
        injection e with e
        subst e
        exact h3)
      have hcom : ∀ W, CB W2.drew W → Calls Try.prog 18 #[.pointer (some ⟨w1.heap.size, 0, none⟩), .slice A1 xs.length c1] W fun e w' => e = .returned (.int .i64 0) ∧ RT w' w1.heap.size w1.heap.size (KvMath.all [] (xs.map PutD.ent)) ∧ CG w1.heap.size W w' := fun W hW => by
        have hbW : Below W2.heap.size W2 W := (Below.drew (Below.refl _ W2)).trans hW
        have h1 := ref_commit (hrt2.below hbW) (by exact List.Pairwise.nil) (Nat.le_trans hb2.size hbW.size) A1 c1 xs (fun V hV => hrow V ((Chg.of_below hbW).trans hV)) hc1 (by have := HN.out; omega) (by simp)
        rw [if_pos hg, if_pos hg] at h1
        exact h1
      obtain ⟨L, hL⟩ : ∃ L, L = KvMath.all [] (xs.map PutD.ent) := ⟨_, rfl⟩
      have hLz : ∀ p ∈ L, p.1.size ≤ 200 ∧ p.2.length ≤ 200000 := fun p hp => (all_keys xs hg [] (fun p hp => by simp at hp) p (by rw [← hL]; exact hp)).2
      have hLl : L.length ≤ 1000 := by
        have h1 := KvMath.all_len [] List.Pairwise.nil (xs.map PutD.ent)
        rw [← hL, List.length_map] at h1
        have := HN.out
        simp at h1
        omega
      obtain ⟨nb, hnb⟩ : ∃ nb, nb = (bytesB L).length := ⟨_, rfl⟩
      have hbyt : ∀ W, RT W w1.heap.size w1.heap.size L → Calls Try.prog 25 #[.pointer (some ⟨w1.heap.size, 0, none⟩)] W fun e w' => ∃ A c, e = .returned (.slice A nb c) ∧ nb ≤ c ∧ RdF w1.heap.size nb (bytesB L) (.slice A nb c) w' ∧ RT w' w1.heap.size w1.heap.size L ∧ CB W w' := fun W hW => by
        refine (ref_bytes hW hLl hLz).mono ?_
        rintro e w3 ⟨v, rfl, hs, hb3⟩
        have hrt := hW.below hb3
        have h1 := Sl.cg hrt hs
        obtain ⟨A', c', rfl, h2, _⟩ := hs.rd
        rw [← hnb] at h1 h2 ⊢
        exact ⟨_, _, rfl, h2, h1, hrt, hb3⟩
      have hstr : ∀ W, CG w1.heap.size W2.drew W → (convert 32 9 (.slice A n c)).run Try.prog W = .ok (.string ⟨bs.toArray⟩) W := fun W hW => by
        have h1 : Below w1.heap.size w1 W := Chg.below (hb2.trans ((Below.drew (Below.refl _ W2)).mono hb2.size)) hW (Nat.le_trans hb2.size (Nat.le_refl _)) (fun k hk => Nat.le_of_eq hk.symm)
        exact Rd.str (HR.out.below (HB1.out.trans (h1.mono HB1.out.size))) n c HN.out.symm
      have HWB : Hid (∀ W, CG w1.heap.size W2.drew W → Below w.heap.size w W) := Lib.hid fun W hW => by
        have h1 : Below w1.heap.size w1 W := Chg.below (hb2.trans ((Below.drew (Below.refl _ W2)).mono hb2.size)) hW (Nat.le_trans hb2.size (Nat.le_refl _)) (fun k hk => Nat.le_of_eq hk.symm)
        exact HB1.out.trans (h1.mono HB1.out.size)
      have HCOM := Lib.hid hcom; have HBYT := Lib.hid hbyt; have HSTR := Lib.hid hstr; have HDB := Lib.hid hdb; have HLL := Lib.hid hL; have HW2 := Lib.hid hW2
      have HS1 : Hid (w.heap.size ≤ w1.heap.size) := Lib.hid HB1.out.size
      generalize hm : xs.length = m at *
      clear hb1 hpg hxl hxz hd hdec hcom hbyt hstr hdb hrow hrt2 hb2 hgx hLz hLl hnb hW2 hm hL
      rw [← HLL.out] at HCOM
      obtain ⟨z1, hz1⟩ : ∃ z1 : ByteArray, z1 = ⟨(bytesB L).toArray⟩ := ⟨_, rfl⟩
      obtain ⟨z2, hz2⟩ : ∃ z2 : ByteArray, z2 = ⟨bs.toArray⟩ := ⟨_, rfl⟩
      rw [← hz2] at HSTR
      obtain ⟨bz, hbz⟩ : ∃ bz, (z1.toList == z2.toList) = bz := ⟨_, rfl⟩
      have HBZ : Hid (bz = decide (bytesB L = bs)) := Lib.hid (by
        rw [← hbz, Bool.eq_iff_iff, beq_iff_eq, decide_eq_true_eq, hz1, hz2, Lib.toList_data, Lib.toList_data])
      have HZ1 := Lib.hid hz1
      clear hz1 hz2
      go_wp2_with fail
      rw [← HW2.out]
      refine Stu.wp_region_stu _ (Stu.mkT [(5, cmS w1.heap.size w1.heap.size L), (8, mvS w1.heap.size (.bool false) (fun W => RT W w1.heap.size w1.heap.size L) (fun _ _ h k => h.below k)), (10, byS w1.heap.size nb (bytesB L) (fun W => RT W w1.heap.size w1.heap.size L) (fun _ _ h k => h.below k)), (11, stS w1.heap.size z1)]) (CB W2.drew) [5, 8, 10] (Chg.refl _) (fun _ _ _ h k => Chg.trans h k) CB.cg (fun _ _ h k => below_add h k) (Below.refl _ _) (Stu.mkT_ks _ (by show List.Nodup [5, 8, 10, 11]; decide) _ rfl) (by kernel_rfl) (by kernel_rfl) (by kernel_rfl) ?_
      repeat (first
        | (refine Stu.wpR_plain ?_ (by rfl) (by rfl) (fun K hK => ?_); (focus (first | (simp only [Region.wanted]; done) | (go_simp; done))); apply Exists.intro; refine ⟨fun W hW => ?_, ?_⟩; (go_simp; (try simp only [Stu.plainUpon_value, true_and]); rfl); go_simp; refine hK _ ?_; clear hK K)
        | (refine Stu.wpR_plain ?_ (by rfl) (by rfl) (fun K hK => ?_); (focus (first | (simp only [Region.wanted]; done) | (go_simp; done))); apply Exists.intro; refine ⟨fun W hW => ?_, ?_⟩; (have hcw := HSTR.out W hW; go_simp; (try simp only [Stu.plainUpon_value, true_and]); rfl); go_simp; refine hK _ ?_; clear hK K))
      (refine Stu.wpR_spu (by rfl) (by rfl) ?_ ?_ (fun W hW hU hF => ?_) (fun K v hv hK => ?_); (focus (first | (simp only [Region.wanted]; done) | (go_simp; done))); (focus (exact ⟨_, rfl⟩)); (go_simp; simp only [Stu.relUpon_enter]; refine (HCOM.out W hU).mono ?_; rintro e w' ⟨rfl, h1, h2⟩; exact ⟨_, rfl, h2, ⟨rfl, trivial⟩, h1⟩); (cases hv); go_simp; refine hK _ ?_; clear hK K)
      repeat (refine Stu.wpR_plain ?_ (by rfl) (by rfl) (fun K hK => ?_); (focus (first | (simp only [Region.wanted]; done) | (go_simp; done))); apply Exists.intro; refine ⟨fun W hW => ?_, ?_⟩; (go_simp; (try simp only [Stu.plainUpon_value, true_and]); rfl); go_simp; refine hK _ ?_; clear hK K)
      (refine Stu.wpR_spu (by rfl) (by rfl) ?_ ?_ (fun W hW hU hF => ?_) (fun K v hv hK => ?_); (focus (first | (simp only [Region.wanted]; done) | (go_simp; done))); (focus (exact ⟨_, rfl⟩)); (go_simp; exact ⟨Chg.refl _ _, ⟨rfl, trivial⟩, hU⟩); (cases hv); go_simp; refine hK _ ?_; clear hK K)
      (refine Stu.wpR_plain ?_ (by rfl) (by rfl) (fun K hK => ?_); (focus (first | (simp only [Region.wanted]; done) | (go_simp; done))); apply Exists.intro; refine ⟨fun W hW => ?_, ?_⟩; (go_simp; (try simp only [Stu.plainUpon_value, true_and]); rfl); go_simp; refine hK _ ?_; clear hK K)
      (refine Stu.wpR_spu (by rfl) (by rfl) ?_ ?_ (fun W hW hU hF => ?_) (fun K v hv hK => ?_); (focus (first | (simp only [Region.wanted]; done) | (go_simp; done))); (focus (exact ⟨_, none, _, rfl, Nat.le_refl _⟩)); (go_simp; simp only [Stu.relUpon_enter]; refine (HBYT.out W hU).mono ?_; rintro e w' ⟨A', c', rfl, h1, h2, h3, h4⟩; exact ⟨_, rfl, CB.cg _ _ h4, ⟨⟨A', c', rfl, h1⟩, h2⟩, h3⟩); (obtain ⟨A6, c6, rfl, hc6⟩ := hv); go_simp; refine hK _ ?_; clear hK K)
      (refine Stu.wpR_spg (by rfl) (by rfl) ?_ ?_ (fun W hW hF => ?_) (fun K v hv hK => ?_); (focus (first | (simp only [Region.wanted]; done) | (go_simp; done))); (focus (exact ⟨_, rfl⟩)); (go_simp; rw [(show RdF w1.heap.size nb (bytesB L) (.slice A6 nb c6) W from hF 10 rfl) W (Chg.refl _ _)]; simp only [Result.andThen_ok]; exact ⟨Below.refl _ _, by rw [HZ1.out]; rfl, trivial⟩); (cases hv); go_simp; refine hK _ ?_; clear hK K)
      repeat (first
        | (refine Stu.wpR_plain ?_ (by rfl) (by rfl) (fun K hK => ?_); (focus (first | (simp only [Region.wanted]; done) | (go_simp; done))); apply Exists.intro; refine ⟨fun W hW => ?_, ?_⟩; (go_simp; (try simp only [Stu.plainUpon_value, true_and]); rfl); go_simp; refine hK _ ?_; clear hK K)
        | (refine Stu.wpR_plain ?_ (by rfl) (by rfl) (fun K hK => ?_); (focus (first | (simp only [Region.wanted]; done) | (go_simp; done))); apply Exists.intro; refine ⟨fun W hW => ?_, ?_⟩; (have hcw := HSTR.out W hW; go_simp; (try simp only [Stu.plainUpon_value, true_and]); rfl); go_simp; refine hK _ ?_; clear hK K))
      refine Stu.wpR_nil (fun W3 hW3 hU hF => ?_)
      have hU2 : RT W3 w1.heap.size w1.heap.size L := hU
      have HU := Lib.hid hU2; have HB3 := Lib.hid (HWB.out W3 hW3)
      clear hU hU2 hF hW3 HSTR HWB HCOM HBYT hbz
      cases bz with
      | true =>
        have HEQ : Hid (bytesB L = bs) := Lib.hid (of_decide_eq_true HBZ.out.symm)
        go_wp2
        go_ret2
        refine ⟨HB3.out, .inl ⟨xs, w1.heap.size, HDB.out, by rw [← HLL.out]; exact HEQ.out, rfl, ?_⟩⟩
        rw [← HLL.out]
        obtain ⟨v, h1, h2, h3⟩ := HU.out
        exact ⟨v, h1, HS1.out, orow_low h3 HS1.out⟩
      | false =>
        have HEQ : Hid (¬ bytesB L = bs) := Lib.hid (of_decide_eq_false HBZ.out.symm)
        go_wp2
        go_ret2
        refine ⟨HB3.out, .inr ⟨fun ys hy => ?_, rfl⟩⟩
        rw [HDB.out] at hy
        injection hy with hy
        rw [← hy, ← HLL.out]
        exact HEQ.out
  · have HB1 := Lib.hid hb1
    have HE : Hid (∀ xs, decB bs = some xs → bytesB (KvMath.all [] (xs.map PutD.ent)) ≠ bs) := Lib.hid fun ys hy => by
      rw [dec_ref _ bs ys (Nat.le_refl _), hd] at hy
      obtain ⟨e1, e2⟩ := hy
      cases e1
    clear hb1 hd hdec
    obtain ⟨W2, hW2⟩ : ∃ W2, W2 = w1.alloc (.cells #[.slice none 0 0] 49) := ⟨_, rfl⟩
    have HB2 : Hid (Below w.heap.size w W2) := Lib.hid (HB1.out.trans (by rw [hW2]; exact ((Below.refl _ w1).alloc (Nat.le_refl _) _).mono HB1.out.size))
    have HW2 := Lib.hid hW2
    clear hW2
    go_wp2
    go_region
    all_goals rw [← HW2.out]
    all_goals go_wp2
    all_goals go_ret2
    all_goals exact ⟨Below.trans HB2.out (Below.drew (Below.refl _ _)), .inr ⟨HE.out, rfl⟩⟩
end Go.Proofs.Ytgaccogekmaijaa
