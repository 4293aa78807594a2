/- Read of a device. -/
import Derived.Test.YtbpecfbliglboaaBack
namespace Go.Proofs.Ytbpecfbliglboaa
open Go.RowKit Go.Shelf
set_option linter.unusedVariables false
set_option linter.unusedSimpArgs false
attribute [local go_sem] Oper.semAt_some
theorem cell_lt {w : World} {a : Addr} {v : Value} (h : w.cell? a = some v) : a.block < w.heap.size := by
  rcases Nat.lt_or_ge a.block w.heap.size with h' | h'
  · exact h'
  · simp [World.cell?, Array.getElem?_eq_none h'] at h
theorem results_cc {fn : Func} {p u : Tmp} {ty ty2 : TypeId} (h : fn.results = #[.cell p ty, .cell u ty2]) (tmps : Array Value) (P : Program) (w : World) :
    (results fn tmps).run P w =
      ((asAddr (tmps.getD p undef)).run P w).andThen fun a w₁ => ((loadVar ty a).run P w₁).andThen fun v w₂ => ((asAddr (tmps.getD u undef)).run P w₂).andThen fun a' w₃ => ((loadVar ty2 a').run P w₃).andThen fun v' w₄ => .ok (.tuple #[v, v']) w₄ := by
  simp only [results, h]
  simp [Sem.run_bind, Result.andThen]
/-- what Read answers -/
def ReadIs (r : Option (List UInt8) × Int) (w : World) (e : Ending) (w' : World) : Prop := ∃ v, e = .returned (.tuple #[v, .int .i64 r.2]) ∧ Sl w' v (r.1.getD []) ∧ Below w.heap.size w w'
theorem read_off (w : World) (B g m : Nat) (vc vk : Value) (d : DevMath.Dev) (h : DvM w B g m vc vk d) (at_ : Int) (hoff : d.off = true) :
    Calls Try.prog 18 #[.pointer (some ⟨g, 0, none⟩), .int .i64 at_] w (ReadIs (d.read at_) w) := by
  have hd : DvM (((w.alloc (.cells #[.int .i64 at_] 3)).alloc (.cells #[.slice none 0 0] 33)).alloc (.cells #[.int .i64 0] 25)) B g m vc vk d := h.below ((((Below.refl _ w).alloc (Nat.le_refl _) _).alloc (by simp) _).alloc (by simp; omega) _)
  obtain ⟨h0, h1, h2, h3, h4, h5, h6, h7⟩ := hd.cells
  rw [hoff] at h3
  unfold DevMath.Dev.read ReadIs
  rw [if_pos hoff]
  clear h hd h0 h1 h2 h4 h5 h6 h7
  go_enter Try.func18, Try.ntmps18
  go_wp2
  (try simp only [Exit.inBlock, Exit.then])
  refine bodyPost_ret_by (by rw [results_cc rfl]; go_simp; rfl) rfl ?_
  exact ⟨_, rfl, Sl.nil _, (((Below.refl _ w).alloc (Nat.le_refl _) _).alloc (by simp) _).alloc (by simp; omega) _⟩
theorem read_bad (w : World) (B g m : Nat) (vc vk : Value) (d : DevMath.Dev) (h : DvM w B g m vc vk d) (at_ : Int) (hoff : d.off = false) (hhas : d.has at_ = false) :
    Calls Try.prog 18 #[.pointer (some ⟨g, 0, none⟩), .int .i64 at_] w (ReadIs (d.read at_) w) := by
  have hd : DvM (((w.alloc (.cells #[.int .i64 at_] 3)).alloc (.cells #[.slice none 0 0] 33)).alloc (.cells #[.int .i64 0] 25)) B g m vc vk d := h.below ((((Below.refl _ w).alloc (Nat.le_refl _) _).alloc (by simp) _).alloc (by simp; omega) _)
  have hh := has_any _ B g m vc vk d hd at_
  rw [hhas] at hh
  obtain ⟨h0, h1, h2, h3, h4, h5, h6, h7⟩ := hd.cells
  rw [hoff] at h3
  unfold DevMath.Dev.read ReadIs
  rw [if_neg (by rw [hoff]; decide), if_pos hhas]
  clear h hd h0 h1 h2 h4 h5 h6 h7
  go_enter Try.func18, Try.ntmps18
  go_wp2_with fail
  refine hh.mono ?_
  rintro e w1 ⟨rfl, rfl⟩
  go_wp2
  (try simp only [Exit.inBlock, Exit.then])
  refine bodyPost_ret_by (by rw [results_cc rfl]; go_simp; rfl) rfl ?_
  exact ⟨_, rfl, Sl.nil _, (((Below.refl _ w).alloc (Nat.le_refl _) _).alloc (by simp) _).alloc (by simp; omega) _⟩
/-- the row of writes, number by number -/
theorem row_fn {w : World} {B e : Nat} {A : Option Addr} {len cc : Nat} {rs : List (Int × List UInt8)} (h : Recs w B e (.slice A len cc) rs) :
    ∃ (z : Nat → Int × Value) (bs : Nat → List UInt8), (∀ j, Sl w (z j).2 (bs j)) ∧ (∀ j, rs.length ≤ j → bs j = []) ∧ (∀ j, (hj : j < rs.length) → (z j).1 = rs[j].1 ∧ bs j = rs[j].2) ∧
      (0 < rs.length → ∃ b, A = some ⟨b, 0, none⟩ ∧ b < w.heap.size ∧ ∀ j, j < rs.length → w.cell? ⟨b, j * 2, none⟩ = some (.int .i64 (z j).1) ∧ w.cell? ⟨b, j * 2 + 1, none⟩ = some (z j).2) := by
  obtain ⟨A', c', e1, hle, hc⟩ := h.rd
  injection e1 with e1 e2 e3
  subst e1
  have hex : ∀ j : Nat, ∃ p : (Int × Value) × List UInt8, Sl w p.1.2 p.2 ∧ (rs.length ≤ j → p.2 = []) ∧ ((hj : j < rs.length) → p.1.1 = rs[j].1 ∧ p.2 = rs[j].2 ∧ ∃ b, A = some ⟨b, 0, none⟩ ∧ w.cell? ⟨b, j * 2, none⟩ = some (.int .i64 p.1.1) ∧ w.cell? ⟨b, j * 2 + 1, none⟩ = some p.1.2) := by
    intro j
    by_cases hj : j < rs.length
    · obtain ⟨g, vb, h1, h2, h3, h4⟩ := hc j hj
      exact ⟨((rs[j].1, vb), rs[j].2), h4, fun h => absurd hj (by omega), fun _ => ⟨rfl, rfl, g, h1, h2, h3⟩⟩
    · exact ⟨((0, .slice none 0 0), []), Sl.nil _, fun _ => rfl, fun h => absurd h hj⟩
  refine ⟨fun j => (Classical.choose (hex j)).1, fun j => (Classical.choose (hex j)).2, fun j => (Classical.choose_spec (hex j)).1, fun j => (Classical.choose_spec (hex j)).2.1, fun j hj => ?_, fun hp => ?_⟩
  · obtain ⟨h1, h2, _⟩ := (Classical.choose_spec (hex j)).2.2 hj
    exact ⟨h1, h2⟩
  · obtain ⟨_, _, b, hb, hb1, _⟩ := (Classical.choose_spec (hex 0)).2.2 hp
    refine ⟨b, hb, ?_, fun j hj => ?_⟩
    · have : (⟨b, 0 * 2, none⟩ : Addr).block < w.heap.size := cell_lt hb1
      exact this
    · obtain ⟨_, _, b', hb', h1, h2⟩ := (Classical.choose_spec (hex j)).2.2 hj
      rw [hb] at hb'
      injection hb' with hb'
      injection hb' with hb'
      subst hb'
      exact ⟨h1, h2⟩
/-- two results are stored -/
theorem store2 {W : World} {a b ta tb : Nat} {x y : Value} (ha : Boxed W a ta x) (hb : Boxed W b tb y) (v u : Value) {l : List UInt8} (hs : Sl W v l) (hne : a ≠ b) (hta : ta ≠ 5 := by decide) (htb : tb ≠ 5 := by decide) :
    Boxed ((W.setCell ⟨a, 0, none⟩ v).setCell ⟨b, 0, none⟩ u) a ta v ∧ Boxed ((W.setCell ⟨a, 0, none⟩ v).setCell ⟨b, 0, none⟩ u) b tb u ∧ Sl ((W.setCell ⟨a, 0, none⟩ v).setCell ⟨b, 0, none⟩ u) v l ∧ Chg (fun k => k = a ∨ k = b) W ((W.setCell ⟨a, 0, none⟩ v).setCell ⟨b, 0, none⟩ u) ∧ KeepsOthers W ((W.setCell ⟨a, 0, none⟩ v).setCell ⟨b, 0, none⟩ u) := by
  have h1 : Boxed (W.setCell ⟨a, 0, none⟩ v) a ta v := heap_setCell_same W a 0 _ _ _ ha
  have h2 : Boxed (W.setCell ⟨a, 0, none⟩ v) b tb y := hb.other (fun e => hne e.symm) v
  have c1 := Chg.setCell W a 0 v
  have c2 := Chg.setCell (W.setCell ⟨a, 0, none⟩ v) b 0 u
  have n1 : ∀ k, k = a → ∀ cs fr, W.heap[k]? ≠ some (.cells cs 5 fr) := by
    intro k hk cs fr h
    subst hk
    rw [show W.heap[k]? = _ from ha] at h
    injection h with h
    injection h with _ h
    exact hta h
  have n2 : ∀ k, k = b → ∀ cs fr, (W.setCell ⟨a, 0, none⟩ v).heap[k]? ≠ some (.cells cs 5 fr) := by
    intro k hk cs fr h
    subst hk
    rw [show (W.setCell ⟨a, 0, none⟩ v).heap[k]? = _ from h2] at h
    injection h with h
    injection h with _ h
    exact htb h
  exact ⟨h1.other hne u, heap_setCell_same _ b 0 _ _ _ h2, (hs.chg c1 n1).chg c2 n2, (c1.imp fun k hk => .inl hk).trans (c2.imp fun k hk => .inr hk), (KeepsOthers.setCell _ _ _).trans (KeepsOthers.setCell _ _ _)⟩
theorem KB.t {n₀ Bs : Nat} : ∀ {A B C : World}, KB n₀ Bs A B → KB n₀ Bs B C → KB n₀ Bs A C := fun h k => h.trans k
theorem KB.b {n₀ Bs : Nat} {w : World} (h1 : n₀ ≤ w.heap.size) (h2 : Bs < w.heap.size) : ∀ (W : World) (l : Nat) (o o' : Obj), w.heap.size ≤ l → W.heap[l]? = some o → o.isCells = false → o.isWalk = false → KB n₀ Bs W (W.putObj l o') :=
  fun W l o o' hl _ _ _ => ⟨⟨rfl, rfl, rfl, by simp, fun k hk => World.putObj_heap_other (by omega)⟩, World.putObj_heap_other (by omega)⟩
theorem sl_turn {B : Nat} {A C : World} {row : Option Nat} {v : Value} {l : List UInt8} (hs : Sl A v l) (hg : A.grownBy C row) (hr : ∀ r, row = some r → B ≤ r ∧ ∃ o : Obj, A.heap[r]? = some o ∧ o.isCells = false) : Sl C v l := by
  refine hs.chg (S := fun k => some k = row) ⟨hg.os, hg.tape, hg.output, hg.size, fun k hk hn => hg.block k hk hn⟩ (fun k hk cs fr h1 => ?_)
  obtain ⟨_, o, ho, hc⟩ := hr k hk.symm
  rw [ho] at h1
  injection h1 with h1
  subst h1
  cases hc
set_option maxRecDepth 100000 in
set_option maxHeartbeats 1000000 in
theorem read_in (w : World) (B g m : Nat) (vc vk : Value) (d : DevMath.Dev) (h : DvM w B g m vc vk d) (at_ : Int) (hoff : d.off = false) (hhas : d.has at_ = true) (hcl : d.cache.length ≤ 1000000000) (hI : DvI d) (wf : (Lit.int .i64 at_).wf = true) :
    CallsIn Fence.wide 3 Try.prog 18 #[.pointer (some ⟨g, 0, none⟩), .int .i64 at_] w (ReadIs (some ((DevMath.lastOf at_ d.cache).getD (d.sector at_)), 0) w) := by
  obtain ⟨W3, hW3⟩ : ∃ W, W = ((w.alloc (.cells #[.int .i64 at_] 3)).alloc (.cells #[.slice none 0 0] 33)).alloc (.cells #[.int .i64 0] 25) := ⟨_, rfl⟩
  have hB3 : Below w.heap.size w W3 := by rw [hW3]; exact (((Below.refl _ w).alloc (Nat.le_refl _) _).alloc (by simp) _).alloc (by simp; omega) _
  have hd := h.below hB3
  have hh := has_any _ B g m vc vk d hd at_
  rw [hhas] at hh
  obtain ⟨h0, h1, h2, h3, h4, h5, h6, h7⟩ := hd.cells
  rw [hoff] at h3
  obtain ⟨Ac, cc, rfl, hcc⟩ := h.ca.shape
  rw [hW3] at h0 h1 h2 h3 h4 h5 h6 h7 hh
  have HH := Lib.hid hh
  clear h1 h4 h5 h6 h7 hh
  refine callsIn_of_wp_marks Try.func18 rfl trivial ?_ rfl
  simp only [Try.ntmps18, List.size_toArray, List.length_cons, List.length_nil, Nat.reduceAdd, Nat.reduceSub, Array.replicate_succ, Array.replicate_zero, List.push_toArray, List.append_toArray, List.nil_append, List.cons_append]
  gi_wp2_with (first
    | (refine ⟨trivial, ?_⟩; gi_at_call 42; refine (callsIn_wide.2 HH.out).mono ?_; rintro e w1 ⟨rfl, rfl⟩)
    | (refine ⟨trivial, ?_⟩; gi_at_call 45; refine (back_in Fence.wide 2 trivial rfl _ _ _ _).mono ?_; rintro e w' ⟨rfl, rfl⟩))
  obtain ⟨z, bs, hz1, hz0, hz2, hz3⟩ := row_fn h.ca
  have hbl : ∀ j, (bs j).length ≤ 140737488351232 := by
    intro j
    by_cases hj : j < d.cache.length
    · rw [(hz2 j hj).2, (hI.cf _ (List.getElem_mem hj)).2.2]; decide
    · rw [hz0 j (by omega)]; simp
  obtain ⟨W0, hW0⟩ : ∃ W, W = W3.alloc (.cells #[.slice Ac d.cache.length cc] 69) := ⟨_, rfl⟩
  have hs3 : W3.heap.size = w.heap.size + 1 + 1 + 1 := by rw [hW3]; simp
  have hB0 : Below w.heap.size w W0 := by rw [hW0]; exact hB3.alloc (by omega) _
  have hs0 : W0.heap.size = w.heap.size + 1 + 1 + 1 + 1 := by rw [hW0]; simp [hs3]
  have bA : Boxed W0 w.heap.size 3 (.int .i64 at_) := by rw [hW0, hW3]; exact heap_old (heap_old (heap_old (heap_new _ _ _ rfl)))
  have bR : Boxed W0 (w.heap.size + 1) 33 (.slice none 0 0) := by rw [hW0, hW3]; exact heap_old (heap_old (heap_new _ _ _ (by simp)))
  have bE : Boxed W0 (w.heap.size + 1 + 1) 25 (.int .i64 0) := by rw [hW0, hW3]; exact heap_old (heap_new _ _ _ (by simp))
  have bS : Boxed W0 (w.heap.size + 1 + 1 + 1) 69 (.slice Ac d.cache.length cc) := by rw [hW0]; exact heap_new _ _ _ hs3.symm
  rw [← hW3, ← hW0]
  clear hW3 hW0 hB3 hd h0 h2 h3 HH hs3
  refine wpIn_rangeFunc_ownH rfl (by decide) (gf := 59) (lb := #[.pointer (some ⟨w.heap.size + 1 + 1 + 1, 0, none⟩)]) rfl trivial (enters_of Try.func59 (by kernel_rfl) rfl)
    (back_stops Fence.wide (3 - 1) trivial rfl (by decide) (w.heap.size + 1 + 1 + 1) w.heap.size d.cache.length cc Ac z hcl W0 (by omega) (by omega) hcc bS.cell (fun hp => by
      obtain ⟨b, h1, h2, h3⟩ := hz3 hp
      exact ⟨b, h1, h2, fun j hj => ⟨(hB0.cell (p := ⟨b, j * 2, none⟩) h2).trans (h3 j hj).1, (hB0.cell (p := ⟨b, j * 2 + 1, none⟩) h2).trans (h3 j hj).2⟩⟩)) KB.t (KB.b (by omega) (by omega)) (Below.refl _ _) (fun _ => rfl)
    (fun pre W => ((Boxed W w.heap.size 3 (.int .i64 at_) ∧ Boxed W (w.heap.size + 1) 33 (.slice none 0 0)) ∧ (Boxed W (w.heap.size + 1 + 1) 25 (.int .i64 0) ∧ Boxed W (w.heap.size + 1 + 1 + 1) 69 (.slice Ac d.cache.length cc))) ∧ ((∀ p ∈ pre, (z p).1 ≠ at_) ∧ Below w.heap.size w W))
    (fun c pre W => (∃ ini last v, c = .ret ∧ pre = ini ++ [last] ∧ (∀ p ∈ ini, (z p).1 ≠ at_) ∧ (z last).1 = at_ ∧ Boxed W (w.heap.size + 1) 33 v ∧ Boxed W (w.heap.size + 1 + 1) 25 (.int .i64 0) ∧ Sl W v (bs last)) ∧ Below w.heap.size w W)
    (OwnFrom.and (OwnFrom.and (OwnFrom.and (Own.from (boxed_own _ _ _) _) (Own.from (boxed_own _ _ _) _)) (OwnFrom.and (Own.from (boxed_own _ _ _) _) (Own.from (boxed_own _ _ _) _))) (OwnFrom.and (ownFrom_pure _ _) (ownFrom_below (Nat.le_refl _) (by omega))))
    (fun c => OwnFrom.and (fun s X Y row hs hg hr => by
      obtain ⟨ini, last, v, e0, e1, e2, e3, e4, e5, e6⟩ := hs
      exact ⟨ini, last, v, e0, e1, e2, e3, boxed_own _ _ (fun (_ : Unit) => v) () X Y row e4 hg (fun r e => (hr r e).2), boxed_own _ _ (fun (_ : Unit) => Value.int .i64 0) () X Y row e5 hg (fun r e => (hr r e).2), sl_turn e6 hg hr⟩) (ownFrom_below (Nat.le_refl _) (by omega)))
    ⟨⟨⟨bA, bR⟩, ⟨bE, bS⟩⟩, by simp, hB0⟩
    (fun x a' W => ∃ Bx, w.heap.size + 1 + 1 + 1 < Bx ∧ W.heap[Bx]? = some (.cells #[.int .i64 (z x).1, (z x).2] 75) ∧ a' = { tmps := #[.pointer (some ⟨g, 0, none⟩), .int .i64 at_, undef, .pointer (some ⟨w.heap.size, 0, none⟩), .pointer (some ⟨w.heap.size + 1, 0, none⟩), .pointer (some ⟨w.heap.size + 1 + 1, 0, none⟩), undef, .pointer (some ⟨Bx, 0, none⟩), .bool false, .pointer (some ⟨g, 0, none⟩), .pointer (some ⟨g, 0, none⟩), .pointer (some ⟨g, 3, none⟩), .bool false, .bool false, .pointer (some ⟨g, 0, none⟩), .int .i64 at_, .bool true, .bool false, .pointer (some ⟨g, 0, none⟩), .pointer (some ⟨g, 0, none⟩), .pointer (some ⟨g, 2, none⟩), .slice Ac d.cache.length cc, .func (.func 59) #[] #[.pointer (some ⟨w.heap.size + 1 + 1 + 1, 0, none⟩)], .int .i64 (x : Int), .agg #[.int .i64 (z x).1, (z x).2], undef, undef, undef, undef, undef, undef, undef, undef, undef, undef, undef], defers := [] })
    (fun x a' _ X Y row hs hg hr => by
      obtain ⟨Bx, e1, e2, e3⟩ := hs
      refine ⟨Bx, e1, ?_, e3⟩
      refine (hg.block Bx (Array.getElem?_eq_some_iff.1 e2).1 (fun e => ?_)).trans e2
      obtain ⟨_, o, ho, hc⟩ := hr Bx e.symm
      rw [e2] at ho
      injection ho with ho
      subst ho
      cases hc)
    ?assign ?body ?done ?stop
  case assign =>
    rintro l pre x W K ⟨⟨⟨b1, b2⟩, ⟨b3, b4⟩⟩, hne, hB⟩ hK
    obtain ⟨Az, cz, hv, _, _⟩ := (hz1 x).rd
    unfold bkEnc
    rw [hv]
    gi_wp2
    refine hK _ _ ((KeepsOthers.alloc _ _).from _) ⟨(Below.refl _ W).alloc hB.size _, Below.heap_alloc W _ _ b4.lt⟩ ⟨⟨⟨b1.alloc _, b2.alloc _⟩, ⟨b3.alloc _, b4.alloc _⟩⟩, hne, hB.alloc hB.size _⟩ ⟨W.heap.size, b4.lt, by rw [hv]; exact heap_new W _ _ rfl, by rw [hv]⟩
  case body =>
    rintro l pre x a' W hl ⟨r, hr⟩ ⟨⟨⟨b1, b2⟩, ⟨b3, b4⟩⟩, hne, hB⟩ ⟨Bx, hBx, bX, rfl⟩ hlt
    have c0 : W.cell? ⟨Bx, 0, none⟩ = some (.int .i64 (z x).1) := by rw [cell_of_row W Bx 0 _ _ _ bX]; rfl
    have c1 : W.cell? ⟨Bx, 1, none⟩ = some (z x).2 := by rw [cell_of_row W Bx 1 _ _ _ bX]; rfl
    have cA := b1.cell
    obtain ⟨Az, cz, hv, hcz, hrz⟩ := (hz1 x).rd
    have hrW := hrz.below hB
    have hszx := hrW.1
    rw [hv] at bX c1 ⊢
    have fR := b2.frozen
    have fE := b3.frozen
    have cR := b2.cell
    have cE := b3.cell
    by_cases hm : (z x).1 = at_
    · have hm1 : ((z x).1 == at_) = true := by rw [beq_iff_eq]; exact hm
      have hcl2 := clone_any W Az cz (bs x) hrW (hbl x)
      have HCl := Lib.hid hcl2
      have H1 := Lib.hid b1; have H2 := Lib.hid b2; have H3 := Lib.hid b3; have H4 := Lib.hid b4; have HB := Lib.hid hB; have HNe := Lib.hid hne; have HM := Lib.hid hm; have HX := Lib.hid bX
      clear hcl2 b1 b2 b3 b4 hB hne hm bX hrz hrW hr
      gi_wp2_with (refine ⟨trivial, ?_⟩; gi_at_call 44; refine (CallsIn.inRound l (callsIn_wide.2 HCl.out)).mono ?_)
      rintro e w2 ⟨v2, rfl, ho2, hb2⟩
      obtain ⟨A2, c2, rfl, hle2, hrd2⟩ := ho2.rd
      have gR : w2.cell? ⟨w.heap.size + 1, 0, none⟩ = some (.slice none 0 0) := cell_below hb2 cR
      have gE : w2.cell? ⟨w.heap.size + 1 + 1, 0, none⟩ = some (.int .i64 0) := cell_below hb2 cE
      have gfR : w2.frozen? ⟨w.heap.size + 1, 0, none⟩ = false := (hb2.frozen (p := ⟨w.heap.size + 1, 0, none⟩) H2.out.lt).trans fR
      have gfE : w2.frozen? ⟨w.heap.size + 1 + 1, 0, none⟩ = false := (hb2.frozen (p := ⟨w.heap.size + 1 + 1, 0, none⟩) H3.out.lt).trans fE
      gi_wp2
      have e1 : Boxed w2 (w.heap.size + 1) 33 (.slice none 0 0) := (hb2.block _ H2.out.lt).trans H2.out
      have e2 : Boxed w2 (w.heap.size + 1 + 1) 25 (.int .i64 0) := (hb2.block _ H3.out.lt).trans H3.out
      obtain ⟨k1, k2, k3, k4, k5⟩ := store2 e1 e2 (.slice A2 (bs x).length c2) (.int .i64 0) ho2.sl (by omega)
      refine ⟨⟨Nat.le_trans hb2.size k5.size, fun k o _ hk ho => k5.same k o ((hb2.block k (Array.getElem?_eq_some_iff.1 hk).1).trans hk) ho⟩, ⟨pre, x, _, rfl, rfl, HNe.out, HM.out, k1, k2, k3⟩, ?_⟩
      exact ((below_then HB.out HB.out.size hb2).setCell (p := ⟨w.heap.size + 1, 0, none⟩) (by simp) _).setCell (p := ⟨w.heap.size + 1 + 1, 0, none⟩) (by simp; omega) _
    · have hm1 : ((z x).1 == at_) = false := by rw [beq_eq_false_iff_ne]; exact hm
      gi_wp2
      exact ⟨KeepsFrom.refl _ _, KB.refl _ _ _, ⟨⟨b1, b2⟩, ⟨b3, b4⟩⟩, fun p hp => (List.mem_append.1 hp).elim (hne p) (fun e => by simp at e; subst e; exact hm), hB⟩
  case done =>
    rintro D ys W hD rfl ⟨⟨⟨b1, b2⟩, ⟨b3, b4⟩⟩, hne, hB⟩ hK
    have cA := b1.cell
    have hd := h.below hB
    have hsec := Lib.hid (sector_any W B g m _ vk d hd at_ wf)
    have H2 := Lib.hid b2; have H3 := Lib.hid b3; have HB := Lib.hid hB; have HK := Lib.hid hK; have HNe := Lib.hid hne
    clear hd b1 b2 b3 b4 hne hB hK
    gi_wp2_with (refine ⟨trivial, ?_⟩; gi_at_call 46; refine (callsIn_wide.2 hsec.out).mono ?_)
    rintro e w2 ⟨v2, rfl, hs2, hb2⟩
    obtain ⟨A2, c2, rfl, hle2, hrd2⟩ := hs2.rd
    have hlen : (d.sector at_).length ≤ 140737488351232 := by
      unfold DevMath.Dev.sector
      cases hk : d.safe at_ with
      | none => rw [Option.getD_none]; unfold DevMath.zeros; rw [List.length_replicate]; decide
      | some l => rw [Option.getD_some, (hI.sf _ _ hk).2.2]; decide
    have hcl2 := Lib.hid (clone_any w2 A2 c2 (d.sector at_) hrd2 hlen)
    have HB2 := Lib.hid hb2
    clear hrd2 hs2 hb2 cA
    gi_wp2_with (refine ⟨trivial, ?_⟩; gi_at_call 44; refine (callsIn_wide.2 hcl2.out).mono ?_)
    rintro e w3 ⟨v3, rfl, ho3, hb3⟩
    have HB3 := Lib.hid (below_add HB2.out hb3)
    have e1 : Boxed w3 (w.heap.size + 1) 33 (.slice none 0 0) := (HB3.out.block _ H2.out.lt).trans H2.out
    have e2 : Boxed w3 (w.heap.size + 1 + 1) 25 (.int .i64 0) := (HB3.out.block _ H3.out.lt).trans H3.out
    obtain ⟨A3, c3, rfl, hle3, hrd3⟩ := ho3.rd
    obtain ⟨k1, k2, k3, k4, k5⟩ := store2 e1 e2 (.slice A3 (d.sector at_).length c3) (.int .i64 0) ho3.sl (by omega)
    have hKD : w3.heap[D]? = some (.deferred (some [])) := (HB3.out.block _ (Array.getElem?_eq_some_iff.1 HK.out).1).trans HK.out
    have hlast : DevMath.lastOf at_ d.cache = none := DevMath.lastOf_none _ _ (fun j hj => by
      rw [← (hz2 j hj).1]
      exact HNe.out j (by simp only [backTo, List.mem_map, List.mem_range]; exact ⟨d.cache.length - 1 - j, by omega, by unfold bk; omega⟩))
    have gR := e1.cell; have gE := e2.cell; have gfR := e1.frozen; have gfE := e2.frozen
    have K1 := Lib.hid k1; have K2 := Lib.hid k2; have K3 := Lib.hid k3; have K5 := Lib.hid k5; have HKD := Lib.hid hKD; have HLast := Lib.hid hlast
    clear k1 k2 k3 k4 k5 e1 e2 hKD hlast ho3 hb3 hrd3
    gi_wp2
    have hK' := K5.out.same D _ HKD.out rfl
    refine ⟨by simp, .inl ⟨_, _, rfl, run_takeDeferred hK', ?_⟩⟩
    have hc1 := cell_kept K1.out.cell (grownBy_putObj' _ D (.deferred none)) (fun r e => by cases e; exact ⟨_, hK', rfl⟩)
    have hc2 := cell_kept K2.out.cell (grownBy_putObj' _ D (.deferred none)) (fun r e => by cases e; exact ⟨_, hK', rfl⟩)
    have hSl := sl_turn (B := W0.heap.size) K3.out (grownBy_putObj' _ D (.deferred none)) (fun r e => by cases e; exact ⟨hD, _, hK', rfl⟩)
    have hread : ((some ((DevMath.lastOf at_ d.cache).getD (d.sector at_))).getD []) = d.sector at_ := by
      rw [HLast.out]; rfl
    refine ⟨.tuple #[.slice A3 (d.sector at_).length c3, .int .i64 0], ?_, ⟨.slice A3 (d.sector at_).length c3, rfl, ?_, ?_⟩⟩
    · simp [results, Try.f18, go_sem, hc1, hc2]
    · show Sl _ _ ((some ((DevMath.lastOf at_ d.cache).getD (d.sector at_))).getD [])
      rw [hread]; exact hSl
    · refine Below.trans ?_ (KB.b (n₀ := w.heap.size) (Bs := w.heap.size + 1 + 1 + 1) (w := W0) (by omega) (by omega) _ D _ (.deferred none) hD hK' rfl rfl).1
      exact ((below_then HB.out HB.out.size HB3.out).setCell (p := ⟨w.heap.size + 1, 0, none⟩) (by simp) _).setCell (p := ⟨w.heap.size + 1 + 1, 0, none⟩) (by simp; omega) _
  case stop =>
    rintro D c pre W hD ⟨k, hk, rfl⟩ ⟨⟨ini, last, v, rfl, e1, e2, e3, b2, b3, hs⟩, hB⟩ hK
    gi_wp2
    refine ⟨by simp, .inl ⟨_, _, rfl, run_takeDeferred hK, ?_⟩⟩
    have hc1 := cell_kept b2.cell (grownBy_putObj' _ D (.deferred none)) (fun r e => by cases e; exact ⟨_, hK, rfl⟩)
    have hc2 := cell_kept b3.cell (grownBy_putObj' _ D (.deferred none)) (fun r e => by cases e; exact ⟨_, hK, rfl⟩)
    obtain ⟨k', rfl⟩ : ∃ k', k = k' + 1 := by
      cases k with
      | zero => simp [backTo] at e1
      | succ k' => exact ⟨k', rfl⟩
    rw [backTo_succ] at e1
    obtain ⟨rfl, e5⟩ := List.append_inj' e1 rfl
    obtain rfl : bk d.cache.length k' = last := by simpa using e5
    have hj : bk d.cache.length k' < d.cache.length := by unfold bk; omega
    have hlast := DevMath.lastOf_some at_ d.cache (bk d.cache.length k') hj (by rw [← (hz2 _ hj).1]; exact e3) (fun i hi hi2 => by
      rw [← (hz2 i hi2).1]
      exact e2 i (by simp only [backTo, List.mem_map, List.mem_range]; exact ⟨d.cache.length - 1 - i, by unfold bk at hi; omega, by unfold bk; omega⟩))
    obtain ⟨A2, c2, rfl, hle2, hrd2⟩ := hs.rd
    have hSl := sl_turn (B := W0.heap.size) hs (grownBy_putObj' W D (.deferred none)) (fun r e => by cases e; exact ⟨hD, _, hK, rfl⟩)
    have hread : ((some ((DevMath.lastOf at_ d.cache).getD (d.sector at_))).getD []) = bs (bk d.cache.length k') := by
      rw [hlast, Option.getD_some, Option.getD_some, (hz2 _ hj).2]
    refine ⟨.tuple #[.slice A2 (bs (bk d.cache.length k')).length c2, .int .i64 0], ?_, ⟨.slice A2 (bs (bk d.cache.length k')).length c2, rfl, ?_, ?_⟩⟩
    · simp [results, Try.f18, go_sem, hc1, hc2]
    · show Sl _ _ ((some ((DevMath.lastOf at_ d.cache).getD (d.sector at_))).getD [])
      rw [hread]; exact hSl
    · exact hB.trans (KB.b (n₀ := w.heap.size) (Bs := w.heap.size + 1 + 1 + 1) (w := W0) (by omega) (by omega) W D _ (.deferred none) hD hK rfl rfl).1
theorem read_any (w : World) (B g m : Nat) (vc vk : Value) (d : DevMath.Dev) (h : DvM w B g m vc vk d) (hI : DvI d) (hcl : d.cache.length ≤ 1000000000) (at_ : Int) (wf : (Lit.int .i64 at_).wf = true) :
    Calls Try.prog 18 #[.pointer (some ⟨g, 0, none⟩), .int .i64 at_] w (ReadIs (d.read at_) w) := by
  cases ho : d.off with
  | true => exact read_off w B g m vc vk d h at_ ho
  | false =>
    cases hh : d.has at_ with
    | false => exact read_bad w B g m vc vk d h at_ ho hh
    | true =>
      have hr := callsIn_wide.1 (read_in w B g m vc vk d h at_ ho hh hcl hI wf)
      have e : d.read at_ = (some ((DevMath.lastOf at_ d.cache).getD (d.sector at_)), 0) := by
        unfold DevMath.Dev.read
        rw [if_neg (by rw [ho]; decide), if_neg (by rw [hh]; decide)]
      rw [e]
      exact hr
end Go.Proofs.Ytbpecfbliglboaa
