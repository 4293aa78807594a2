/- Fuse of a device; slices.Clone of numbers. -/
import Derived.Test.YtbpecfbliglboaaWrite
namespace DevMath
def Dev.fused (d : Dev) (calls : Int) (keep : List Int) (torn : Int) : Dev := if d.off then d else { d with fuse := max calls 0, keep := keep, torn := torn }
end DevMath
namespace Go.Proofs.Ytbpecfbliglboaa
open Go.RowKit Go.Maps
set_option linter.unusedVariables false
set_option linter.unusedSimpArgs false
def ivl (ks : List Int) : List Value := ks.map fun k => Value.int .i64 k
theorem IntV.of_row {w : World} {base n : Nat} {v : Value} {ks : List Int} (h : w.ownsRow base 3 1 v n (ivl ks)) (hn : n = ks.length) : IntV w v ks := by
  subst hn
  rcases h.2 with ⟨rfl, hn⟩ | ⟨g, cap, cur, rfl, hb, hh, hc, hm, hsz, htk⟩
  · obtain rfl : ks = [] := List.eq_nil_of_length_eq_zero hn
    exact IntV.nil w
  · refine ⟨_, cap, rfl, hc, (fun a e => by injection e with e; subst e; exact ⟨_, _, hh⟩), fun hp => ⟨_, rfl, fun j hj => ?_⟩⟩
    exact World.ownsRow.cells (g := g) h rfl j _ (by simp [ivl, hj])
theorem iclone_any (w : World) (A : Option Addr) (c : Nat) (ks : List Int) (h : IntR w (.slice A ks.length c) ks) (hl : ks.length ≤ 1000000000) :
    Calls Try.prog 49 #[.slice A ks.length c] w fun e w' => ∃ v, e = .returned v ∧ IntV w' v ks ∧ Below w.heap.size w w' := by
  have ht := Try.underlying30
  have hi : (Try.prog.info? 3).map (fun i => (i.zero, i.size, i.bytes)) = some (some (.int .i64 0), 1, 8) := by kernel_rfl
  have q22 : ∀ (w : World) (a : Option Addr) (n c n' c' : Nat), (binOp .eql 30 (.slice a n c) (.slice none n' c')).run Try.prog w = .ok (.bool a.isNone) w := fun w a n c n' c' => Lib.run_eql_slice_nil w _ _ a n c n' c' ht
  obtain ⟨A', c', e, hc, hr⟩ := h
  injection e with e1 _ e2
  subst e1; subst e2
  obtain ⟨n, hnn⟩ : ∃ n, n = ks.length := ⟨_, rfl⟩
  have HR := Lib.hid hr
  clear hr
  rw [← hnn] at hl hc ⊢
  cases A with
  | none =>
    have he : ks = [] := by
      rcases Nat.eq_zero_or_pos n with h0 | h0
      · exact List.eq_nil_of_length_eq_zero (by rw [← hnn]; exact h0)
      · obtain ⟨a, h, _⟩ := HR.out (by rw [← hnn]; exact h0)
        cases h
    subst he
    simp at hnn
    subst hnn
    clear HR hc
    go_enter Try.func49, Try.ntmps49
    go_wp2
    go_ret
    exact ⟨_, rfl, IntV.nil _, Below.refl _ _⟩
  | some a =>
    have HN := Lib.hid hnn; clear hnn hc
    have hsrc : Src (w.alloc (.cells #[] 3)) (some a) (ivl ks) := fun hp => by
      simp [ivl] at hp
      obtain ⟨a', e, hcell⟩ := HR.out hp
      injection e with e
      subst e
      refine ⟨a, rfl, fun j u hu => ?_⟩
      have hj : j < ks.length := by have := (List.getElem?_eq_some_iff.1 hu).1; simpa [ivl] using this
      have : u = .int .i64 ks[j] := by simp [ivl, hj] at hu; exact hu.symm
      rw [this]
      exact cell_alloc _ (hcell j hj)
    have HS := Lib.hid hsrc
    clear hsrc
    go_enter Try.func49, Try.ntmps49
    go_wp2_with (at_builtin; go_loud (refine wpList_app (w0 := w) w.heap.size rfl (.tmp 5) (.tmp 6) 30 3 (.int .i64 0) 1 8 rfl ht hi rfl (by decide) (by decide) _ 0 [] (ivl ks) (some a) n c rfl rfl (World.ownsRow_made w #[] 0 (Nat.le_refl _) (Nat.zero_le _) rfl) (by rw [HN.out]; simp [ivl]) HS.out (by intro u hu; obtain ⟨k, _, rfl⟩ := List.mem_map.1 hu; rfl) ((Below.refl _ w).alloc (Nat.le_refl _) _) (by simp) (by omega) ?_))
    intro v1 w1 ho hb _ _
    go_wp2
    go_ret
    exact ⟨_, rfl, IntV.of_row (by simpa using ho) HN.out, hb⟩
theorem DvM.turn_ke {w w1 : World} {B g m : Nat} {vc vk vk' : Value} {d d' : DevMath.Dev} (h : DvM w B g m vc vk d) (hst : w1.heap[g]? = some (.cells (dvCells d' m vc vk') 71)) (hc : Chg (· = g) w w1) (hke : IntV w vk' d'.keep) (e1 : d'.safe = d.safe) (e2 : d'.cache = d.cache) (e4 : d'.sectors = d.sectors) : DvM w1 B g m vc vk' d' := by
  obtain ⟨f, n, h1, h2, h3⟩ := h.mp
  have hn8 : ∀ t : Nat, t ≠ 71 → t ≠ 75 → ∀ k, k = g → ∀ cs fr, w.heap[k]? ≠ some (.cells cs t fr) := fun t ht ht2 k hk => h.not8 ht ht2 k (.inl hk)
  refine ⟨hst, ⟨f, n, ?_, by rw [e1, e4]; exact h2, by rw [e1]; exact h3.imp fun _ _ h4 => h4.chg hc (hn8 _ (by decide) (by decide))⟩, e2 ▸ h.ca.chg hc (fun k hk e => ?_) (hn8 _ (by decide) (by decide)), hke.chg hc (hn8 _ (by decide) (by decide)), h.gb, h.mb⟩
  · refine h1.kept (row := some g) ⟨hc.os, hc.tape, hc.output, hc.size, fun k hk hn => hc.block k hk (fun e => hn (by rw [e]))⟩ ?_
    intro e
    injection e with e
    obtain ⟨es, clock, hb⟩ := h1.blk
    have := h.st
    rw [← e, hb] at this
    injection this with this
    cases this
  · subst hk
    obtain ⟨_, _, cs, fr, hh⟩ := h.ca.lt e
    have := h.st
    rw [hh] at this
    injection this with this
    injection this with _ this
    revert this; decide
theorem DvI.fused {d : DevMath.Dev} (h : DvI d) (calls : Int) (keep : List Int) (torn : Int) (wf : (Lit.int .i64 calls).wf = true) (wt : (Lit.int .i64 torn).wf = true) : DvI (d.fused calls keep torn) := by
  unfold DevMath.Dev.fused
  split
  · exact h
  · have hw : calls ≤ 9223372036854775807 := by simp [Lit.wf, IntKind.min, IntKind.max, IntKind.signed, IntKind.bits] at wf; omega
    exact ⟨h.n1, h.sf, h.cf, by show 0 ≤ max calls 0; omega, by show max calls 0 ≤ _; omega, wt⟩
set_option maxRecDepth 20000 in
theorem fuse_any (w : World) (B g m : Nat) (vc vk : Value) (d : DevMath.Dev) (h : DvM w B g m vc vk d) (calls torn : Int) (kv : Value) (keep : List Int) (hk : IntR w kv keep) (hkl : keep.length ≤ 1000000000) :
    Calls Try.prog 22 #[.pointer (some ⟨g, 0, none⟩), .int .i64 calls, kv, .int .i64 torn] w fun e w' => e = .returned (.tuple #[]) ∧ ∃ vk', DvM w' B g m vc vk' (d.fused calls keep torn) ∧ Chg (· = g) w w' := by
  unfold DevMath.Dev.fused
  obtain ⟨h0, h1, h2, h3, h4, h5, h6, h7⟩ := h.cells
  have HD := Lib.hid h
  cases ho : d.off with
  | true =>
    rw [if_pos rfl]
    rw [ho] at h3
    clear h h0 h1 h2 h4 h5 h6 h7
    go_enter Try.func22, Try.ntmps22
    go_wp2
    refine bodyPost_ret (results_none rfl _ _ _) rfl ?_
    exact ⟨rfl, _, HD.out, Chg.refl _ _⟩
  | false =>
    rw [if_neg (by decide)]
    rw [ho] at h3
    have f4 := h7 4; have f5 := h7 5; have f6 := h7 6
    obtain ⟨A, c, rfl, hc⟩ : ∃ A c, kv = .slice A keep.length c ∧ keep.length ≤ c := by obtain ⟨A, c, h1, h2, _⟩ := hk; exact ⟨A, c, h1, h2⟩
    have hcon := Lib.hid (iclone_any w A c keep hk hkl)
    obtain ⟨n, hn⟩ : ∃ n, n = keep.length := ⟨_, rfl⟩
    rw [← hn] at hcon hc ⊢
    have HN := Lib.hid hn
    obtain ⟨mx, hmx⟩ : ∃ mx, mx = max calls 0 := ⟨_, rfl⟩
    rw [← hmx]
    have HO := Lib.hid ho
    clear h h0 h1 h2 h4 h5 h6 h7 hk hn hkl
    have hfin : Hid (∀ v w1, IntV w1 v keep → Below w.heap.size w w1 → DvM (((w1.setCell ⟨g, 4, none⟩ (.int .i64 mx)).setCell ⟨g, 5, none⟩ v).setCell ⟨g, 6, none⟩ (.int .i64 torn)) B g m vc v { d with off := false, fuse := mx, keep := keep, torn := torn } ∧ Chg (· = g) w (((w1.setCell ⟨g, 4, none⟩ (.int .i64 mx)).setCell ⟨g, 5, none⟩ v).setCell ⟨g, 6, none⟩ (.int .i64 torn)) ∧ (∀ i, w1.frozen? ⟨g, i, none⟩ = false) ∧ w1.cell? ⟨g, 4, none⟩ = some (.int .i64 d.fuse) ∧ w1.cell? ⟨g, 5, none⟩ = some vk ∧ w1.cell? ⟨g, 6, none⟩ = some (.int .i64 d.torn)) := Lib.hid fun v w1 hi hb => by
      have hd := HD.out.below hb
      have x1 := heap_setCell_same w1 g 4 _ _ (.int .i64 mx) hd.st
      have x2 := heap_setCell_same _ g 5 _ _ v x1
      have x3 := heap_setCell_same _ g 6 _ _ (.int .i64 torn) x2
      have hc := ((Chg.setCell w1 g 4 (.int .i64 mx)).trans (Chg.setCell _ g 5 v)).trans (Chg.setCell _ g 6 (.int .i64 torn))
      obtain ⟨_, _, _, _, q4, q5, q6, q7⟩ := hd.cells
      refine ⟨hd.turn_ke ?_ hc hi rfl rfl rfl, (Chg.of_below hb).trans hc, q7, q4, q5, q6⟩
      rw [x3]
      rw [show dvCells d m vc vk = dvCells { d with off := false } m vc vk by rw [← HO.out]]
      rfl
    by_cases hp : 0 ≤ calls
    · obtain rfl : mx = calls := by omega
      clear hmx
      go_enter Try.func22, Try.ntmps22
      go_wp2_with fail
      refine hcon.out.mono ?_
      rintro e w1 ⟨v, rfl, hi, hb⟩
      obtain ⟨k1, k2, k3, k4, k5, k6⟩ := hfin.out v w1 hi hb
      have g4 := k3 4; have g5 := k3 5; have g6 := k3 6
      have K1 := Lib.hid k1; have K2 := Lib.hid k2
      obtain ⟨A1, c1, rfl, _⟩ : ∃ A c, v = .slice A keep.length c ∧ keep.length ≤ c := by obtain ⟨A, c, h1, h2, _⟩ := hi; exact ⟨A, c, h1, h2⟩
      clear k1 k2 k3 hi hb hcon hfin f4 f5 f6
      go_wp2
      go_end0
      exact ⟨rfl, _, K1.out, K2.out⟩
    · obtain rfl : mx = 0 := by omega
      clear hmx
      go_enter Try.func22, Try.ntmps22
      go_wp2_with fail
      refine hcon.out.mono ?_
      rintro e w1 ⟨v, rfl, hi, hb⟩
      obtain ⟨k1, k2, k3, k4, k5, k6⟩ := hfin.out v w1 hi hb
      have g4 := k3 4; have g5 := k3 5; have g6 := k3 6
      have K1 := Lib.hid k1; have K2 := Lib.hid k2
      obtain ⟨A1, c1, rfl, _⟩ : ∃ A c, v = .slice A keep.length c ∧ keep.length ≤ c := by obtain ⟨A, c, h1, h2, _⟩ := hi; exact ⟨A, c, h1, h2⟩
      clear k1 k2 k3 hi hb hcon hfin f4 f5 f6
      go_wp2
      go_end0
      exact ⟨rfl, _, K1.out, K2.out⟩
end Go.Proofs.Ytbpecfbliglboaa
