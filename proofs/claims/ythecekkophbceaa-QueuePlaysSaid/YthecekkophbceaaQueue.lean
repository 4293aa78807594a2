/- package queue: each function's contract over a queue in memory. -/
import Derived.Test.YthecekkophbceaaClone
import Derived.Test.YthecekkophbceaaStr
namespace Go.Proofs.Ythecekkophbceaa
open Go.RowKit Go.Conc
set_option linter.unusedVariables false
set_option linter.unusedSimpArgs false
/-- values, each a slice of bytes -/
def Cs (w : World) : List Value → List (List UInt8) → Prop
  | [], [] => True
  | v :: vs, l :: ls => Sl w v l ∧ Cs w vs ls
  | _, _ => False
theorem Cs.length {w : World} : ∀ {vs : List Value} {ls : List (List UInt8)}, Cs w vs ls → vs.length = ls.length
  | [], [], _ => rfl
  | _ :: _, _ :: _, h => by simp [Cs.length h.2]
theorem Cs.imp {w w1 : World} (hi : ∀ v l, Sl w v l → Sl w1 v l) : ∀ {vs : List Value} {ls : List (List UInt8)}, Cs w vs ls → Cs w1 vs ls
  | [], [], h => h
  | _ :: _, _ :: _, h => ⟨hi _ _ h.1, Cs.imp hi h.2⟩
theorem Cs.snoc {w : World} {v : Value} {l : List UInt8} (hv : Sl w v l) : ∀ {vs : List Value} {ls : List (List UInt8)}, Cs w vs ls → Cs w (vs ++ [v]) (ls ++ [l])
  | [], [], _ => ⟨hv, trivial⟩
  | _ :: _, _ :: _, h => ⟨h.1, Cs.snoc hv h.2⟩
/-- A queue in memory: its struct at block g, its channel at block ch. -/
structure Qu (w : World) (g ch cap : Nat) (ls : List (List UInt8)) (closed : Bool) : Prop where
  st : w.heap[g]? = some (.cells #[.chan (some ch), .bool closed] 49)
  buf : ∃ (b : List Value) (s r : Nat), w.heap[ch]? = some (.chan cap b.toArray false s r false) ∧ Cs w b ls
theorem Qu.not8g {w : World} {g ch cap : Nat} {ls : List (List UInt8)} {closed : Bool} (h : Qu w g ch cap ls closed) : ∀ k, k = g → ∀ cs fr, w.heap[k]? ≠ some (.cells cs 5 fr) := by
  intro k e cs fr h1
  subst e
  rw [h.st] at h1
  injection h1 with h1
  injection h1 with _ h1
  revert h1; decide
theorem Qu.not8c {w : World} {g ch cap : Nat} {ls : List (List UInt8)} {closed : Bool} (h : Qu w g ch cap ls closed) : ∀ k, k = ch → ∀ cs fr, w.heap[k]? ≠ some (.cells cs 5 fr) := by
  intro k e cs fr h1
  subst e
  obtain ⟨b, s, r, h2, _⟩ := h.buf
  rw [h2] at h1
  injection h1 with h1
  cases h1
theorem Qu.ne {w : World} {g ch cap : Nat} {ls : List (List UInt8)} {closed : Bool} (h : Qu w g ch cap ls closed) : g ≠ ch := by
  intro e
  subst e
  obtain ⟨b, s, r, h2, _⟩ := h.buf
  rw [h.st] at h2
  injection h2 with h2
  cases h2
/-- another queue stays -/
theorem Qu.chg {S : Nat → Prop} {w w1 : World} {g ch cap : Nat} {ls : List (List UInt8)} {closed : Bool} (h : Qu w g ch cap ls closed) (hc : Chg S w w1) (hg : ¬ S g) (hch : ¬ S ch) (hS : ∀ k, S k → ∀ cs fr, w.heap[k]? ≠ some (.cells cs 5 fr)) : Qu w1 g ch cap ls closed := by
  obtain ⟨b, s, r, h2, h3⟩ := h.buf
  exact ⟨hc.heap h.st hg, b, s, r, hc.heap h2 hch, h3.imp fun _ _ h => h.chg hc hS⟩
theorem Qu.below {w w1 : World} {g ch cap : Nat} {ls : List (List UInt8)} {closed : Bool} (h : Qu w g ch cap ls closed) (hc : Below w.heap.size w w1) : Qu w1 g ch cap ls closed :=
  h.chg (S := fun _ => False) (Chg.of_below hc) (by simp) (by simp) (fun _ h => h.elim)
theorem Qu.cells {w : World} {g ch cap : Nat} {ls : List (List UInt8)} {closed : Bool} (h : Qu w g ch cap ls closed) : w.cell? ⟨g, 0, none⟩ = some (.chan (some ch)) ∧ w.cell? ⟨g, 1, none⟩ = some (.bool closed) ∧ w.frozen? ⟨g, 1, none⟩ = false :=
  ⟨by rw [cell_of_row w g 0 _ _ _ h.st]; rfl, by rw [cell_of_row w g 1 _ _ _ h.st]; rfl, frozen_of_row w g 1 _ _ h.st⟩
theorem closed_any (w : World) (g ch cap : Nat) (ls : List (List UInt8)) (closed : Bool) (h : Qu w g ch cap ls closed) :
    Calls Try.prog 14 #[.pointer (some ⟨g, 0, none⟩)] w fun e w' => e = .returned (.bool closed) ∧ w' = w := by
  obtain ⟨h0, h1, _⟩ := h.cells
  go_enter Try.func14, Try.ntmps14
  go_wp2
  go_ret
  exact ⟨rfl, rfl⟩
theorem closed_nil (w : World) : Calls Try.prog 14 #[.pointer none] w fun e w' => e = .returned (.bool true) ∧ w' = w := by
  go_enter Try.func14, Try.ntmps14
  go_wp2
  go_ret
  exact ⟨rfl, rfl⟩
theorem len_any (w : World) (g ch cap : Nat) (ls : List (List UInt8)) (closed : Bool) (h : Qu w g ch cap ls closed) :
    Calls Try.prog 12 #[.pointer (some ⟨g, 0, none⟩)] w fun e w' => e = .returned (.int .i64 ls.length) ∧ w' = w := by
  obtain ⟨h0, h1, _⟩ := h.cells
  obtain ⟨b, s, r, h2, h3⟩ := h.buf
  have hlen := fun ty => run_len_chan (P := Try.prog) 47 ty Try.underlying47 h2
  have e : (b.length : Int) = ls.length := by rw [h3.length]
  go_enter Try.func12, Try.ntmps12
  go_wp2
  go_ret
  exact ⟨ret_int (by simp only [List.size_toArray]), rfl⟩
theorem close_any (w : World) (g ch cap : Nat) (ls : List (List UInt8)) (closed : Bool) (h : Qu w g ch cap ls closed) :
    Calls Try.prog 13 #[.pointer (some ⟨g, 0, none⟩)] w fun e w' => e = .returned (.tuple #[]) ∧ Qu w' g ch cap ls true ∧ Chg (· = g) w w' := by
  obtain ⟨h0, h1, hf⟩ := h.cells
  go_enter Try.func13, Try.ntmps13
  go_wp2
  go_end0
  have hc : Chg (· = g) w (w.setCell ⟨g, 1, none⟩ (.bool true)) := by
    have h2 := Below.setCell (Below.refl 0 w) (p := ⟨g, 1, none⟩) (Nat.zero_le _) (.bool true)
    exact ⟨h2.os, h2.tape, h2.output, h2.size, fun k _ hk => Below.heap_setCell w ⟨g, 1, none⟩ _ k hk⟩
  obtain ⟨b, s, r, h2, h3⟩ := h.buf
  exact ⟨rfl, ⟨heap_setCell_same w g 1 _ _ _ h.st, b, s, r, hc.heap h2 (fun e => h.ne e.symm), h3.imp fun _ _ h4 => h4.chg hc h.not8g⟩, hc⟩
theorem new_any (w : World) (room : Nat) (h1 : 1 ≤ room) (h2 : room ≤ 64) :
    Calls Try.prog 9 #[.int .i64 room] w fun e w' => e = .returned (.tuple #[.pointer (some ⟨w.heap.size + 1, 0, none⟩), .int .i64 0]) ∧ Qu w' (w.heap.size + 1) w.heap.size room [] false ∧ Below w.heap.size w w' := by
  have hmc : ∀ w : World, (Instr.makeChan 47 (.int .i64 room)).run Try.prog w = .ok (.chan (some w.heap.size)) (w.alloc (.chan room #[] false 0 0 false)) := by
    intro w
    obtain ⟨i, hi, hb⟩ : ∃ i, Try.prog.info? 28 = some i ∧ i.bytes = 24 := by
      have h : (Try.prog.info? 28).map (·.bytes) = some 24 := by rfl
      obtain ⟨i, hi, hb⟩ := Option.map_eq_some_iff.1 h
      exact ⟨i, hi, hb⟩
    simpa using run_makeChan (P := Try.prog) (w := w) Try.underlying47 hi .i64 room (by omega) (by rw [hb]; omega)
  go_enter Try.func9, Try.ntmps9
  go_wp2
  go_ret2
  refine ⟨rfl, ⟨?_, [], 0, 0, ?_, trivial⟩, ((Below.refl _ w).alloc (Nat.le_refl _) _).alloc (by simp) _⟩
  · exact heap_new _ _ _ (by simp)
  · exact heap_old (heap_new _ _ _ rfl)
theorem new_bad (w : World) (room : Int) (h : room < 1 ∨ 64 < room) :
    Calls Try.prog 9 #[.int .i64 room] w fun e w' => e = .returned (.tuple #[.pointer none, .int .i64 1]) ∧ Below w.heap.size w w' := by
  by_cases h1 : room < 1
  · clear h
    go_enter Try.func9, Try.ntmps9
    go_wp2
    go_ret2
    exact ⟨rfl, Below.refl _ _⟩
  · have h2 : 64 < room := by omega
    clear h
    go_enter Try.func9, Try.ntmps9
    go_wp2
    go_ret2
    exact ⟨rfl, Below.refl _ _⟩
def may (cap : Nat) (ls : List (List UInt8)) (closed : Bool) : Bool := decide (ls.length < cap) && !closed
theorem put_own (w : World) (g ch cap : Nat) (ls : List (List UInt8)) (h : Qu w g ch cap ls false) (A : Option Addr) (c : Nat) (l : List UInt8) (hr : Rd w A l) (hl : l.length ≤ 140737488351232) (hroom : ls.length < cap) :
    Calls Try.prog 10 #[.pointer (some ⟨g, 0, none⟩), .slice A l.length c] w fun e w' => e = .returned (.bool true) ∧ ∃ vs v s r, w.heap[ch]? = some (.chan cap vs.toArray false s r false) ∧ w'.heap[ch]? = some (.chan cap (vs ++ [v]).toArray false (s + 1) r false) ∧ Cs w vs ls ∧ Sl w' v l ∧ (∀ a n c, v = .slice (some a) n c → w.heap.size ≤ a.block) ∧ Chg (· = ch) w w' := by
  have hcl := closed_any w g ch cap ls false h
  obtain ⟨h0, h1, _⟩ := h.cells
  obtain ⟨vs, s, r, h2, h3⟩ := h.buf
  have HQ := Lib.hid h; have HR := Lib.hid hroom; have H2 := Lib.hid h2; have H3 := Lib.hid h3
  clear h hroom h2 h3
  (refine calls_of_wpN Try.func10 rfl ?_
   simp only [Try.ntmps10, List.size_toArray, List.length_cons, List.length_nil, Nat.reduceAdd, Nat.reduceSub, Array.replicate_succ, Array.replicate_zero, List.push_toArray, List.append_toArray, List.nil_append, List.cons_append])
  refine WpN.seqw ?_
  go_wp2
  refine WpN.seqw ?_
  go_wp2_with fail
  refine hcl.mono ?_
  rintro e w1 ⟨rfl, rfl⟩
  go_wp2
  refine WpN.seqw ?_
  go_wp2_with fail
  refine (clone_any w1 A c l hr hl).mono ?_
  rintro e w2 ⟨v, rfl, ho, hb⟩
  have hq2 := HQ.out.below hb
  have h2b := (Chg.of_below (S := fun _ => False) hb).heap H2.out (by simp)
  have HS := Lib.hid ho.sl; have HB := Lib.hid hb; have HQ2 := Lib.hid hq2; have H2b := Lib.hid h2b; have HO := Lib.hid ho
  clear ho hb hq2 h2b
  go_wp2
  refine WpN.seq ?_
  refine WpN.comm (cases := #[scase ch v (.slice none 0 0)]) (blocking := false) (shape := .select) (v := .tuple #[goInt 0, .bool false]) (w' := w2.setChan ch cap (vs.toArray.push v) false (s + 1) r false) rfl (by simp [execOp, scase, Act.eval]) (fun fr cs es hst => step_lone_select_send_room hst H2b.out (by have := H3.out.length; have := HR.out; simp; omega)) ?_
  go_wp2
  refine WpN.of ?_
  go_wp2
  go_ret
  have hc : Chg (· = ch) w2 (w2.setChan ch cap (vs ++ [v]).toArray false (s + 1) r false) := Chg.setChan
  refine ⟨rfl, vs, v, s, r, H2.out, heap_setChan _ _ _ _ _ _ _ _ (Array.getElem?_eq_some_iff.1 H2b.out).1, H3.out, HS.out.chg hc HQ2.out.not8c, ?_, (Chg.of_below HB.out).trans hc⟩
  intro a n c e
  exact own_base HO.out _ (by rw [e]; rfl)
theorem put_any (w : World) (g ch cap : Nat) (ls : List (List UInt8)) (closed : Bool) (h : Qu w g ch cap ls closed) (A : Option Addr) (c : Nat) (l : List UInt8) (hr : Rd w A l) (hl : l.length ≤ 140737488351232) :
    Calls Try.prog 10 #[.pointer (some ⟨g, 0, none⟩), .slice A l.length c] w fun e w' => e = .returned (.bool (may cap ls closed)) ∧ Qu w' g ch cap (if may cap ls closed then ls ++ [l] else ls) closed ∧ Chg (· = ch) w w' := by
  cases closed with
  | true =>
    have hcl := closed_any w g ch cap ls true h
    rw [show may cap ls true = false by simp [may]]
    have HQ := Lib.hid h
    clear h
    go_enter Try.func10, Try.ntmps10
    go_wp2_with fail
    refine hcl.mono ?_
    rintro e w1 ⟨rfl, rfl⟩
    go_wp2
    go_ret
    exact ⟨rfl, HQ.out, Chg.refl _ _⟩
  | false =>
    have hcl := closed_any w g ch cap ls false h
    obtain ⟨h0, h1, _⟩ := h.cells
    have HQ := Lib.hid h
    clear h
    by_cases hroom : ls.length < cap
    · rw [show may cap ls false = true by simp [may, hroom], if_pos rfl]
      refine (put_own w g ch cap ls HQ.out A c l hr hl hroom).mono ?_
      rintro e w' ⟨rfl, vs, v, s, r, h2, h3, h4, h5, _, h7⟩
      exact ⟨rfl, ⟨h7.heap HQ.out.st HQ.out.ne, _, _, _, h3, Cs.snoc h5 (h4.imp fun _ _ h => h.chg h7 HQ.out.not8c)⟩, h7⟩
    · have HR := Lib.hid hroom
      rw [show may cap ls false = false by simp [may]; omega, if_neg (by decide)]
      clear hroom
      (refine calls_of_wpN Try.func10 rfl ?_
       simp only [Try.ntmps10, List.size_toArray, List.length_cons, List.length_nil, Nat.reduceAdd, Nat.reduceSub, Array.replicate_succ, Array.replicate_zero, List.push_toArray, List.append_toArray, List.nil_append, List.cons_append])
      refine WpN.seqw ?_
      go_wp2
      refine WpN.seqw ?_
      go_wp2_with fail
      refine hcl.mono ?_
      rintro e w1 ⟨rfl, rfl⟩
      go_wp2
      refine WpN.seqw ?_
      go_wp2_with fail
      refine (clone_any w1 A c l hr hl).mono ?_
      rintro e w2 ⟨v, rfl, ho, hb⟩
      have hq2 := HQ.out.below hb
      obtain ⟨b, s, r, h2, h3⟩ := hq2.buf
      have HS := Lib.hid ho.sl; have HB := Lib.hid hb; have HQ2 := Lib.hid hq2; have H3 := Lib.hid h3; have H2 := Lib.hid h2
      clear ho hb hq2 h3 h2
      go_wp2
      refine WpN.seq ?_
      refine WpN.comm (cases := #[scase ch v (.slice none 0 0)]) (blocking := false) (shape := .select) (v := .tuple #[goInt (-1), .bool false]) (w' := w2) rfl (by simp [execOp, scase, Act.eval]) (fun fr cs es hst => step_lone_select_send_full hst H2.out (by have := H3.out.length; have := HR.out; simp; omega)) ?_
      go_wp2
      refine WpN.of ?_
      go_wp2
      go_ret
      exact ⟨rfl, HQ2.out, Chg.of_below HB.out⟩
theorem take_any (w : World) (g ch cap : Nat) (l : List UInt8) (ls : List (List UInt8)) (closed : Bool) (h : Qu w g ch cap (l :: ls) closed) :
    Calls Try.prog 11 #[.pointer (some ⟨g, 0, none⟩)] w fun e w' => ∃ v, e = .returned (.tuple #[v, .bool true]) ∧ Sl w' v l ∧ Qu w' g ch cap ls closed ∧ Chg (· = ch) w w' := by
  obtain ⟨h0, h1, _⟩ := h.cells
  obtain ⟨b, s, r, h2, h3⟩ := h.buf
  match b, h3 with
  | v :: vs, h3 =>
    have HQ := Lib.hid h; have H3 := Lib.hid h3; have H2 := Lib.hid h2
    clear h h3 h2
    (refine calls_of_wpN Try.func11 rfl ?_
     simp only [Try.ntmps11, List.size_toArray, List.length_cons, List.length_nil, Nat.reduceAdd, Nat.reduceSub, Array.replicate_succ, Array.replicate_zero, List.push_toArray, List.append_toArray, List.nil_append, List.cons_append])
    refine WpN.seqw ?_
    go_wp2
    refine WpN.seqw ?_
    go_wp2
    refine WpN.seqw ?_
    go_wp2
    refine WpN.seq ?_
    refine WpN.comm (cases := #[rcase ch (.slice none 0 0)]) (blocking := false) (shape := .select) (v := .tuple #[goInt 0, .bool true, v]) (w' := w.setChan ch cap vs.toArray false s (r + 1) false) rfl (by simp [execOp, rcase, Act.eval]) (fun fr cs es hst => by simpa using step_lone_select_recv_buf hst H2.out (by simp)) ?_
    go_wp2
    refine WpN.of ?_
    go_wp2
    go_ret2
    have hc : Chg (· = ch) w (w.setChan ch cap vs.toArray false s (r + 1) false) := Chg.setChan
    refine ⟨_, rfl, H3.out.1.chg hc HQ.out.not8c, ⟨hc.heap HQ.out.st HQ.out.ne, vs, s, r + 1, heap_setChan _ _ _ _ _ _ _ _ (Array.getElem?_eq_some_iff.1 H2.out).1, ?_⟩, hc⟩
    exact Cs.imp (fun _ _ h4 => h4.chg hc HQ.out.not8c) H3.out.2
theorem take_none (w : World) (g ch cap : Nat) (closed : Bool) (h : Qu w g ch cap [] closed) :
    Calls Try.prog 11 #[.pointer (some ⟨g, 0, none⟩)] w fun e w' => e = .returned (.tuple #[.slice none 0 0, .bool false]) ∧ w' = w := by
  obtain ⟨h0, h1, _⟩ := h.cells
  obtain ⟨b, s, r, h2, h3⟩ := h.buf
  obtain rfl : b = [] := List.eq_nil_of_length_eq_zero h3.length
  have H2 := Lib.hid h2
  clear h h3 h2
  (refine calls_of_wpN Try.func11 rfl ?_
   simp only [Try.ntmps11, List.size_toArray, List.length_cons, List.length_nil, Nat.reduceAdd, Nat.reduceSub, Array.replicate_succ, Array.replicate_zero, List.push_toArray, List.append_toArray, List.nil_append, List.cons_append])
  refine WpN.seqw ?_
  go_wp2
  refine WpN.seqw ?_
  go_wp2
  refine WpN.seqw ?_
  go_wp2
  refine WpN.seq ?_
  refine WpN.comm (cases := #[rcase ch (.slice none 0 0)]) (blocking := false) (shape := .select) (v := .tuple #[goInt (-1), .bool false, .slice none 0 0]) (w' := w) rfl (by simp [execOp, rcase, Act.eval]) (fun fr cs es hst => step_lone_select_default hst H2.out) ?_
  go_wp2
  refine WpN.of ?_
  go_wp2
  go_ret2
  exact ⟨rfl, rfl⟩
theorem take_nil (w : World) : Calls Try.prog 11 #[.pointer none] w fun e w' => e = .returned (.tuple #[.slice none 0 0, .bool false]) ∧ w' = w := by
  go_enter Try.func11, Try.ntmps11
  go_wp2
  go_ret2
  exact ⟨rfl, rfl⟩
end Go.Proofs.Ythecekkophbceaa
