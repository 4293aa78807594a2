/- Write of a device. -/
import Derived.Test.YtbpecfbliglboaaFlush
import Derived.Test.YtbpecfbliglboaaRelApp
namespace Go.Proofs.Ytbpecfbliglboaa
open Go.RowKit Go.Maps
set_option linter.unusedVariables false
set_option linter.unusedSimpArgs false
attribute [local irreducible] wpR relOp
/-- what a call leaves of the cache's slice: its own, or fresh -/
def Fresh (w : World) (vc vc' : Value) : Prop := ∀ k, some k = vc'.ownBlock → some k = vc.ownBlock ∨ w.heap.size ≤ k
theorem Vc.fresh {w : World} {vc vc' : Value} (h : Vc vc vc') : Fresh w vc vc' := by
  intro k hk
  rcases h with rfl | rfl
  · exact .inl hk
  · simp [Value.ownBlock] at hk
theorem GA.sl {Tr : Nat → Option ATr} {w W : World} (hg : GA Tr w W) (hn : ∀ k, Td Tr k → ∀ cs fr, w.heap[k]? ≠ some (.cells cs 5 fr)) {v : Value} {l : List UInt8} (h : Sl w v l) : Sl W v l := h.chg hg.chg hn
theorem DvM.ga {Tr : Nat → Option ATr} {w W : World} {B g m : Nat} {vc vk : Value} {d : DevMath.Dev} (h : DvM w B g m vc vk d) (hg : GA Tr w W) (hT : ∀ k p, Tr k = some p → some k = vc.ownBlock ∧ d.cache.length * 2 ≤ p.pos) : DvM W B g m vc vk d := by
  have hS : ∀ k, Td Tr k → some k = vc.ownBlock := fun k hk => by
    unfold Td at hk
    cases hp : Tr k with
    | none => rw [hp] at hk; cases hk
    | some p => exact (hT k p hp).1
  have hn8 : ∀ t : Nat, t ≠ 71 → t ≠ 75 → ∀ k, Td Tr k → ∀ cs fr, w.heap[k]? ≠ some (.cells cs t fr) := fun t ht ht2 k hk => h.not8 ht ht2 k (.inr (.inr (hS k hk)))
  obtain ⟨f, n, h1, h2, h3⟩ := h.mp
  refine ⟨hg.chg.heap h.st ?_, ⟨f, n, ?_, h2, h3.imp fun _ _ h4 => hg.sl (hn8 _ (by decide) (by decide)) h4⟩, ?_, h.ke.chg hg.chg (hn8 _ (by decide) (by decide)), h.gb, h.mb⟩
  · intro hk
    obtain ⟨_, _, cs, fr, hh⟩ := h.ca.lt (hS g hk)
    have := h.st
    rw [hh] at this
    injection this with this
    injection this with _ this
    revert this; decide
  · refine h1.kept (row := vc.ownBlock) ⟨hg.chg.os, hg.chg.tape, hg.chg.output, hg.chg.size, fun k hk hn => hg.chg.block k hk (fun e => hn (hS k e))⟩ ?_
    intro e
    obtain ⟨_, _, cs, fr, hh⟩ := h.ca.lt e
    obtain ⟨es, clock, hb⟩ := h1.blk
    rw [hh] at hb
    injection hb with hb
    cases hb
  · obtain ⟨xs, ho, hC⟩ := h.ca
    exact ⟨xs, hg.row ho (fun k hk p hp => (hT k p hp).2), hC.imp fun _ _ h4 => hg.sl (hn8 _ (by decide) (by decide)) h4⟩
/-- the struct's own cells turn, the cache with them -/
theorem DvM.turn_ca {w w1 : World} {B g m : Nat} {vc vc' vk : Value} {d d' : DevMath.Dev} (h : DvM w B g m vc vk d) (hst : w1.heap[g]? = some (.cells (dvCells d' m vc' vk) 71)) (hc : Chg (· = g) w w1) (hca : Recs w B 75 vc' d'.cache) (e1 : d'.safe = d.safe) (e3 : d'.keep = d.keep) (e4 : d'.sectors = d.sectors) : DvM w1 B g m vc' vk d' := by
  obtain ⟨f, n, h1, h2, h3⟩ := h.mp
  have hn8 : ∀ t : Nat, t ≠ 71 → t ≠ 75 → ∀ k, k = g → ∀ cs fr, w.heap[k]? ≠ some (.cells cs t fr) := fun t ht ht2 k hk => h.not8 ht ht2 k (.inl hk)
  refine ⟨hst, ⟨f, n, ?_, by rw [e1, e4]; exact h2, by rw [e1]; exact h3.imp fun _ _ h4 => h4.chg hc (hn8 _ (by decide) (by decide))⟩, hca.chg hc (fun k hk e => ?_) (hn8 _ (by decide) (by decide)), ?_, h.gb, h.mb⟩
  · refine h1.kept (row := some g) ⟨hc.os, hc.tape, hc.output, hc.size, fun k hk hn => hc.block k hk (fun e => hn (by rw [e]))⟩ ?_
    intro e
    injection e with e
    obtain ⟨es, clock, hb⟩ := h1.blk
    have := h.st
    rw [← e, hb] at this
    injection this with this
    cases this
  · subst hk
    obtain ⟨_, _, cs, fr, hh⟩ := hca.lt e
    have := h.st
    rw [hh] at this
    injection this with this
    injection this with _ this
    revert this; decide
  · rw [e3]
    exact h.ke.chg hc (hn8 _ (by decide) (by decide))
theorem clone_relG {Tr : Nat → Option ATr} {S0 : Nat} (W : World) (hS : S0 ≤ W.heap.size) (A : Option Addr) (c : Nat) (l : List UInt8) (h : Sl W (.slice A 512 c) l) (hl : 512 = l.length) :
    Calls Try.prog 44 #[.slice A 512 c] W fun e w'' => ∃ v, e = .returned v ∧ GA Tr W w'' ∧ (∃ A c, v = .slice A 512 c ∧ 512 ≤ c) ∧ SlF S0 v l w'' := by
  have hr := h.rd_eq.1
  have hcl := clone_any W A c l hr (by omega)
  rw [← hl] at hcl
  refine hcl.mono ?_
  rintro e w1 ⟨v, rfl, ho, hb⟩
  obtain ⟨A1, c1, rfl, h1, h2⟩ := ho.rd
  exact ⟨_, rfl, GA.of_below hb, ⟨A1, c1, by rw [hl], by omega⟩, ho.sl, fun g hg => Nat.le_trans hS (own_base ho g hg)⟩
theorem info_write : (Try.prog.info? 75).map (fun i => (i.zero, i.size, i.bytes)) = some (some (.agg #[.int .i64 0, .slice none 0 0]), 2, 32) := by kernel_rfl
theorem Src.lit {B0 e : Nat} {xs : List Value} {gL n c : Nat} {W : World} (h : LitG B0 e xs (.slice (some ⟨gL, 0, none⟩) n c) W) : Src W (some ⟨gL, 0, none⟩) xs := by
  obtain ⟨h1, _⟩ := h
  obtain ⟨fr, h2⟩ : ∃ fr, W.heap[gL]? = some (Obj.cells xs.toArray e fr) := h1
  intro _
  refine ⟨_, rfl, fun j u hu => ?_⟩
  have ha : (⟨gL, 0, none⟩ : Addr).add j = ⟨gL, j, none⟩ := by unfold Addr.add; split <;> simp_all
  rw [ha, cell_of_row _ gL j _ _ _ h2]
  simpa using hu
theorem write_app {o : Oper} {a : Act} {W : World} {Tr : Nat → Option ATr} {pp : ATr} {S0 B n gL c7 : Nat} {at_ : Int} {l : List UInt8} {A7 : Option Addr} {xs : List Value} {v : Value} {s x : Operand}
    (ho : o.op = .call { callee := .builtin .append, args := #[s, x], argTypes := #[69, 69] }) (hs : a.eval s = v) (hx : a.eval x = .slice (some ⟨gL, 0, none⟩) 1 1)
    (hpp : pp = ⟨n * 2, 2, fun news W => ∃ A c, news = [.int .i64 at_, .slice A 512 c] ∧ 512 ≤ c ∧ SlF S0 (.slice A 512 c) l W⟩)
    (h9 : LitG S0 75 (flatC [.agg #[.int .i64 at_, .slice A7 512 c7]]) (.slice (some ⟨gL, 0, none⟩) 1 1) W) (h7 : SlF S0 (.slice A7 512 c7) l W) (hc7 : 512 ≤ c7)
    (hrow : W.ownsRow B 75 2 v n xs) (hn : n ≤ 1000000) (hB : B ≤ S0) (hS : S0 ≤ W.heap.size) (hB0 : ∀ k, S0 ≤ k → Tr k = none) (hTv : ∀ k, v.ownBlock = some k → Tr k = some pp) :
    relUpon Try.prog (GA Tr) W (fun v W' => (∃ A c, v = .slice A (n + 1) c ∧ n + 1 ≤ c) ∧ RowQ Tr S0 B 75 2 (n + 1) xs pp v W') ((execOp a.eval o).run Try.prog W) := by
  have hfl : flatC [.agg #[.int .i64 at_, .slice A7 512 c7]] = [.int .i64 at_, .slice A7 512 c7] := rfl
  rw [hfl] at h9
  refine rel_app Tr pp S0 B s x 69 75 (.agg #[.int .i64 0, .slice none 0 0]) 2 32 ho Try.underlying69 info_write rfl (by decide) (by decide) v n xs [.int .i64 at_, .slice A7 512 c7] (some ⟨gL, 0, none⟩) 1 1 hs hx hrow rfl (Src.lit h9) ?_ (Nat.le_trans hB hS) (by omega) hB0 hS hTv (by rw [hpp]) (by rw [hpp]) (fun W' hch => ?_)
  · intro u hu
    simp at hu
    rcases hu with rfl | rfl <;> rfl
  · rw [hpp]
    exact ⟨A7, c7, rfl, hc7, h7.chg hB0 hch⟩
def wrTbl (Tr : Nat → Option ATr) (S0 B n : Nat) (l : List UInt8) (xs : List Value) (pp : ATr) (hB0 : ∀ k, S0 ≤ k → Tr k = none) (hgst : ∀ news W W', pp.good news W → Chg (Td Tr) W W' → pp.good news W') (h1 : pp.pos = xs.length) (h2 : pp.len + xs.length = (n + 1) * 2) : Nat → Option (SpG Tr)
  | 7 => some (slG Tr S0 512 l hB0)
  | 9 => some (.lit 75 flatC)
  | 10 => some (rowG Tr S0 B 75 2 (n + 1) xs pp hgst h1 h2)
  | _ => none
set_option maxRecDepth 20000 in
set_option maxHeartbeats 1000000 in
theorem write_any (w : World) (B g m : Nat) (vc vk : Value) (d : DevMath.Dev) (h : DvM w B g m vc vk d) (hI : DvI d) (hcl : d.cache.length ≤ 1000000) (hkl : d.keep.length ≤ 1000000) (hB : B ≤ w.heap.size) (at_ : Int) (vb : Value) (l : List UInt8) (hs : Sl w vb l) (hl : l.length ≤ 1000000) :
    Calls Try.prog 15 #[.pointer (some ⟨g, 0, none⟩), .int .i64 at_, vb] w fun e w' => e = .returned (.int .i64 (d.write at_ l).2) ∧ ∃ vc', Fresh w vc vc' ∧ DvM w' B g m vc' vk (d.write at_ l).1 ∧ Chg (Own g m vc) w w' := by
  unfold DevMath.Dev.write
  obtain ⟨h0, h1, h2, h3, h4, h5, h6, h7⟩ := h.cells
  have HD := Lib.hid h
  obtain ⟨A, c, rfl, hc, hr⟩ := hs.rd
  obtain ⟨n, hnn⟩ : ∃ n, n = l.length := ⟨_, rfl⟩
  have HS := Lib.hid hs
  rw [← hnn] at hc hl ⊢
  by_cases ho : d.off = true
  · rw [if_pos ho]
    rw [ho] at h3
    clear h h0 h1 h2 h4 h5 h6 h7 hr
    go_enter Try.func15, Try.ntmps15
    go_wp2
    go_ret
    exact ⟨rfl, vc, fun k hk => .inl hk, HD.out, Chg.refl _ _⟩
  · rw [if_neg ho]
    have ho2 : d.off = false := by cases hx : d.off <;> simp_all
    rw [ho2] at h3
    have hha := Lib.hid (has_any w B g m vc vk d h at_)
    by_cases hb : d.has at_ = false
    · rw [if_pos (.inl hb)]
      clear h h0 h1 h2 h4 h5 h6 h7 hr
      go_enter Try.func15, Try.ntmps15
      go_wp2_with fail
      refine hha.out.mono ?_
      rintro e w1 ⟨rfl, rfl⟩
      rw [hb]
      go_wp2
      go_ret
      exact ⟨rfl, vc, fun k hk => .inl hk, HD.out, Chg.refl _ _⟩
    · have hb2 : d.has at_ = true := by cases hx : d.has at_ <;> simp_all
      by_cases hn : n = 512
      · rw [if_neg (by rintro (h | h); exact hb h; exact h hn)]
        have hcon := burn_any w B g m vc vk d h hI (by omega) (by omega)
        have hI1 := hI.burn
        have hcl1 : d.burn.cache.length ≤ 1000000 := by
          rcases burn_cache d with e | e
          · rw [e]; exact hcl
          · rw [e]; simp
        clear h h0 h1 h2 h4 h5 h6 h7 hI hcl hkl
        generalize d.burn = db at hcon hI1 hcl1 ⊢
        have hcon := Lib.hid hcon
        subst hn
        have HNN := Lib.hid hnn
        clear hnn
        by_cases hbo : db.off = true
        · rw [if_pos hbo]
          have hno : (!db.off) = false := by rw [hbo]; rfl
          go_enter Try.func15, Try.ntmps15
          go_wp2_with fail
          refine hha.out.mono ?_
          rintro e w1 ⟨rfl, rfl⟩
          rw [hb2]
          go_wp2_with fail
          refine hcon.out.mono ?_
          rintro e w2 ⟨rfl, vc', hvc, hd1, hc1⟩
          rw [hno]
          have HD1 := Lib.hid hd1; have HC1 := Lib.hid hc1; have HV := Lib.hid hvc
          clear hd1 hc1 hvc hha hcon hno hr
          go_wp2
          go_ret
          exact ⟨rfl, vc', HV.out.fresh, HD1.out, HC1.out⟩
        · rw [if_neg hbo]
          have hno : (!db.off) = true := by cases hx : db.off <;> simp_all
          go_enter Try.func15, Try.ntmps15
          go_wp2_with fail
          refine hha.out.mono ?_
          rintro e w1 ⟨rfl, rfl⟩
          rw [hb2]
          go_wp2_with fail
          refine hcon.out.mono ?_
          rintro e w2 ⟨rfl, vc', hvc, hd1, hc1⟩
          rw [hno]
          obtain ⟨Ac, cc, rfl, hcc⟩ := hd1.ca.shape
          obtain ⟨q0, q1, q2, q3, q4, q5, q6, q7⟩ := hd1.cells
          have f2 := q7 2
          obtain ⟨xs, hown, hC⟩ := hd1.ca
          obtain ⟨n, hn⟩ : ∃ n, n = db.cache.length := ⟨_, rfl⟩
          rw [← hn] at hown hcc q2 hcl1
          obtain ⟨S0, hS0⟩ : ∃ S0, S0 = w2.heap.size := ⟨_, rfl⟩
          have hlt := hd1.lt
          have hn2 := Lib.hid hn
          have hSB : B ≤ S0 := by rw [hS0]; exact Nat.le_trans hB hc1.size
          have HD1 := Lib.hid hd1; have HC1 := Lib.hid hc1; have HV := Lib.hid hvc; have HN := Lib.hid hn
          have hsl2 : Sl w2 (.slice A 512 c) l := by
            have := HS.out.chg hc1 (HD.out.not8 (by decide) (by decide))
            rw [← HNN.out] at this
            exact this
          have HSl := Lib.hid hsl2
          obtain ⟨pp, hpp⟩ : ∃ pp : ATr, pp = ⟨n * 2, 2, fun news W => ∃ A c, news = [.int .i64 at_, .slice A 512 c] ∧ 512 ≤ c ∧ SlF S0 (.slice A 512 c) l W⟩ := ⟨_, rfl⟩
          obtain ⟨Tr, hTr⟩ : ∃ Tr : Nat → Option ATr, ∀ k, Tr k = if some k = (Value.slice Ac n cc).ownBlock then some pp else none := ⟨_, fun k => rfl⟩
          have hB0 : ∀ k, S0 ≤ k → Tr k = none := by
            intro k hk
            rw [hTr]
            refine if_neg (fun e => ?_)
            have := (hlt k (.inr (.inr (by rw [hn] at e; exact e)))).1
            omega
          have hgst : ∀ news W W', pp.good news W → Chg (Td Tr) W W' → pp.good news W' := by
            intro news W W' hg hch
            rw [hpp] at hg ⊢
            obtain ⟨A, c, e, hc, hsf⟩ := hg
            exact ⟨A, c, e, hc, hsf.chg hB0 hch⟩
          have hst : GSt Tr := by
            intro g p hp news W W' hg hch
            rw [hTr] at hp
            split at hp
            · injection hp with hp
              subst hp
              exact hgst _ _ _ hg hch
            · cases hp
          have hxl : xs.length = n * 2 := hown.1
          have hgn : Tr g = none := by
            rw [hTr]
            refine if_neg (fun e => ?_)
            obtain ⟨_, _, cs, fr, hh⟩ := HD1.out.ca.lt (k := g) (by rw [hn] at e; exact e)
            have := HD1.out.st
            rw [hh] at this
            injection this with this
            injection this with _ this
            revert this; decide
          have HC : Hid (∀ W, GA Tr w2.drew W → W.cell? ⟨g, 2, none⟩ = some (.slice Ac n cc)) := Lib.hid fun W hW => hW.cell q2 hgn
          have hTT : ∀ k p, Tr k = some p → some k = (Value.slice Ac db.cache.length cc).ownBlock ∧ db.cache.length * 2 ≤ p.pos := by
            intro k p hp
            rw [hTr] at hp
            split at hp
            · rename_i e
              injection hp with hp
              subst hp
              exact ⟨by rw [← hn]; exact e, by rw [hpp, ← hn]; exact Nat.le_refl _⟩
            · cases hp
          have HT8 : Hid (∀ k, Td Tr k → ∀ cs fr, w2.heap[k]? ≠ some (.cells cs 5 fr)) := Lib.hid fun k hk => HD1.out.not8 (by decide) (by decide) k (.inr (.inr (by
            unfold Td at hk
            cases hp : Tr k with
            | none => rw [hp] at hk; cases hk
            | some p => exact (hTT k p hp).1)))
          have HSlW : Hid (∀ W, GA Tr w2.drew W → ∀ v l, Sl w2 v l → Sl W v l) := Lib.hid fun W hW v l h => GA.sl ((GA.drew Tr w2).trans hst hW) HT8.out h
          have HDW : Hid (∀ W, GA Tr w2.drew W → DvM W B g m (.slice Ac n cc) vk db) := Lib.hid fun W hW => by
            rw [hn]
            exact HD1.out.ga ((GA.drew Tr w2).trans hst hW) hTT
          have HRow : Hid (∀ W, GA Tr w2.drew W → W.ownsRow B 75 2 (.slice Ac n cc) n xs) := Lib.hid fun W hW => by
            refine ((GA.drew Tr w2).trans hst hW).row hown (fun k hk p hp => ?_)
            have := (hTT k p hp).2
            rw [← hn] at this
            exact this
          have HSz : Hid (∀ W, GA Tr w2.drew W → S0 ≤ W.heap.size) := Lib.hid fun W hW => by rw [hS0]; exact hW.size
          have HTv : Hid (∀ k, (Value.slice Ac n cc).ownBlock = some k → Tr k = some pp) := Lib.hid fun k hk => by rw [hTr, if_pos hk.symm]
          have HPP : Hid (pp = ⟨n * 2, 2, fun news W => ∃ A c, news = [.int .i64 at_, .slice A 512 c] ∧ 512 ≤ c ∧ SlF S0 (.slice A 512 c) l W⟩) := Lib.hid hpp
          have HCe := Lib.hid hC
          have HSS : Hid (w2.heap.size ≤ S0) := Lib.hid (by rw [hS0]; exact Nat.le_refl _)
          have HTP : Hid (∀ k, Tr k = some pp → some k = (Value.slice Ac db.cache.length cc).ownBlock) := Lib.hid fun k hk => (hTT k pp hk).1
          have HTQ : Hid (∀ k p, Tr k = some p → p = pp) := Lib.hid fun k p hp => by
            rw [hTr] at hp
            split at hp
            · injection hp with hp; exact hp.symm
            · cases hp
          have HXL := Lib.hid hxl
          have HS0 : Hid (S0 ≤ w2.drew.heap.size) := Lib.hid (by rw [hS0]; exact Nat.le_refl _)
          clear hS0
          clear hn hC hlt hown hpp hTT hTr hxl hsl2
          clear hd1 hc1 hvc hha hcon hno hr q0 q1 q3 q4 q5 q6 q7
          go_wp2_with fail
          refine wp_region_app_tail _ 11 (Tr) (wrTbl Tr S0 B n l xs pp hB0 hgst (by rw [HPP.out]; exact HXL.out.symm) (by rw [HPP.out, HXL.out]; show 2 + n * 2 = _; omega)) (S0) (hB0) (hst) (by kernel_rfl) (by kernel_rfl) (by kernel_rfl) ?_; simp only [List.take_succ_cons, List.take_zero, List.drop_succ_cons, List.drop_zero]
          repeat (first
            | (refine wpR_plain ?_ (by rfl) (fun K hK => ?_); (focus (first | (simp only [Region.wanted]; done) | (go_simp; done))); apply Exists.intro; refine ⟨fun W hW => ?_, ?_⟩; (go_simp; (try simp only [plainUpon_value, true_and]); rfl); go_simp; refine hK _ ?_; clear hK K)
            | (refine wpR_plain ?_ (by rfl) (fun K hK => ?_); (focus (first | (simp only [Region.wanted]; done) | (go_simp; done))); apply Exists.intro; refine ⟨fun W hW => ?_, ?_⟩; (have hcw := HC.out W hW; go_simp; (try simp only [plainUpon_value, true_and]); rfl); go_simp; refine hK _ ?_; clear hK K))
          (refine wpR_propG (by rfl) ?_ (fun W hW hF => ?_) (fun K v hv hK => ?_); (focus (first | (simp only [Region.wanted]; done) | (go_simp; done))); (go_simp; simp only [relUpon_enter]; exact clone_relG W (HSz.out W hW) A c l (HSlW.out W hW _ _ HSl.out) HNN.out); obtain ⟨A7, c7, rfl, hc7⟩ := hv; go_simp; refine hK _ ?_; clear hK K)
          (refine wpR_plain ?_ (by rfl) (fun K hK => ?_); (focus (first | (simp only [Region.wanted]; done) | (go_simp; done))); apply Exists.intro; refine ⟨fun W hW => ?_, ?_⟩; (go_simp; (try simp only [plainUpon_value, true_and]); rfl); go_simp; refine hK _ ?_; clear hK K)
          (refine wpR_litG (by rfl) ?_ HS0.out ?_; (focus (first | (simp only [Region.wanted]; done) | (go_simp; done))); apply Exists.intro; apply Exists.intro; refine ⟨fun W => ?_, ?_, ?litc, fun K gL hK => ?_⟩; (case litc => ((simp only [Oper.argv, Op.operands]; go_simp) <;> rfl)); (focus (go_simp; first | exact ⟨rfl, rfl⟩ | rfl)); (focus rfl); go_simp; refine hK _ ?_; clear hK K)
          (refine wpR_propG (by rfl) ?_ (fun W hW hF => ?_) (fun K v hv hK => ?_); (focus (first | (simp only [Region.wanted]; done) | (go_simp; done))); (exact write_app rfl rfl rfl HPP.out (hF 9 rfl) (hF 7 rfl) hc7 (HRow.out W hW) hcl1 hSB (HSz.out W hW) hB0 HTv.out); obtain ⟨A10, c10, rfl, hc10⟩ := hv; go_simp; refine hK _ ?_; clear hK K)
          refine wpR_nil (fun W hW hF => ?_)
          have h10 : RowQ Tr S0 B 75 2 (n + 1) xs pp (.slice A10 (n + 1) c10) W := hF 10
          have HDv := Lib.hid (HDW.out W hW)
          have c2' := HDv.out.cells.2.2.1
          have f2' := HDv.out.cells.2.2.2.2.2.2.2 2
          have HCh := Lib.hid (Chg.of_below (S := Td Tr) (Below.drew (Below.refl w2.heap.size w2)) |>.trans hW.chg)
          have HSA := Lib.hid (HSlW.out W hW)
          have H10 := Lib.hid h10
          clear hF h10 HC HDW HRow HSz hW HSlW
          go_wp2
          go_ret
          obtain ⟨r1, news, r2, r3⟩ := H10.out
          rw [HPP.out] at r2
          obtain ⟨A8, c8, rfl, hc8, hsl8⟩ := r2
          have hca : Recs W B 75 (.slice A10 (n + 1) c10) (db.cache ++ [(at_, l)]) := by
            refine ⟨xs ++ [.int .i64 at_, .slice A8 512 c8], ?_, (HCe.out.imp HSA.out).snoc hsl8.1⟩
            have : (db.cache ++ [(at_, l)]).length = n + 1 := by rw [List.length_append, ← HN.out]; rfl
            rw [this]
            exact r3
          have x1 := heap_setCell_same W g 2 _ _ (.slice A10 (n + 1) c10) HDv.out.st
          have hc3 : Chg (· = g) W (W.setCell ⟨g, 2, none⟩ (.slice A10 (n + 1) c10)) := Chg.setCell _ _ _ _
          refine ⟨rfl, _, ?_, HDv.out.turn_ca x1 hc3 hca rfl rfl rfl, ?_⟩
          · intro k hk
            rcases (r1 k hk.symm).2 with ⟨h, _⟩ | h
            · exact .inr (Nat.le_trans (Nat.le_trans HC1.out.size HSS.out) h)
            · exact HV.out.fresh k (HTP.out k h)
          · refine HC1.out.trans ((HCh.out.imp fun k hk => ?_).trans (hc3.imp fun k hk => .inl hk))
            unfold Td at hk
            cases hp : Tr k with
            | none => rw [hp] at hk; cases hk
            | some p => exact Own.of_vc HV.out (.inr (.inr (HTP.out k (by rw [hp, HTQ.out k p hp]))))
      · rw [if_pos (.inr hn)]
        have hde : decide (n = 512) = false := decide_eq_false hn
        have hde2 : ¬ ((n : Int) = 512) := by omega
        clear h h0 h1 h2 h4 h5 h6 h7 hr
        go_enter Try.func15, Try.ntmps15
        go_wp2_with fail
        refine hha.out.mono ?_
        rintro e w1 ⟨rfl, rfl⟩
        rw [hb2]
        go_wp2
        go_ret
        exact ⟨rfl, vc, fun k hk => .inl hk, HD.out, Chg.refl _ _⟩
end Go.Proofs.Ytbpecfbliglboaa
