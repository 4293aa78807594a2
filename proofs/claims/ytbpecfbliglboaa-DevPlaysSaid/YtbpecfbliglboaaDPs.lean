/- DevPlays: relations for the rounds that draw their order. -/
import Derived.Test.YtbpecfbliglboaaDPb
namespace Go.Proofs.Ytbpecfbliglboaa
open Go.RowKit Go.Maps
set_option linter.unusedVariables false
set_option linter.unusedSimpArgs false
def svN (B : Nat) (v0 : Value) (u : World → Prop) (hu : ∀ W W', u W → Gn B W W' → u W') : Stu.SpU (TP B) (Gn B) := ⟨true, fun _ v => v = v0, fun _ _ _ => True, fun _ W => u W, fun _ _ _ _ _ _ => trivial, fun _ W W' h hg => hu W W' h hg⟩
def sgN (B n : Nat) (l : List UInt8) : Stu.SpU (TP B) (Gn B) := ⟨false, fun _ v => shpn n v, fun _ v W => Sl W v l, fun _ _ => True, fun _ _ _ _ h hg => hg.sl h, fun _ _ _ _ _ => trivial⟩
def scN (B n : Nat) (l : List UInt8) (u : World → Prop) (hu : ∀ W W', u W → Gn B W W' → u W') : Stu.SpU (TP B) (Gn B) := ⟨true, fun _ v => shpn n v, fun _ v W => Sl W v l, fun _ W => u W, fun _ _ _ _ h hg => hg.sl h, fun _ W W' h hg => hu W W' h hg⟩
theorem Sl.shpn {w : World} {v : Value} {l : List UInt8} (h : Sl w v l) {n : Nat} (hn : l.length = n) : shpn n v := by
  obtain ⟨A, c, h1, h2, _⟩ := h
  subst hn
  exact ⟨A, c, h1, h2⟩
theorem sect_grow {B : Nat} (W : World) (c : UInt8) (hB : B ≤ W.heap.size) : Calls Try.prog 16 #[.int .u8 (c.toNat : Int)] W fun e w'' => ∃ v, e = .returned v ∧ Gn B W w'' ∧ shpn 512 v ∧ Sl w'' v (List.replicate 512 c) := by
  refine (sect_any W c).mono ?_
  rintro e w1 ⟨v, rfl, h1, h2⟩
  exact ⟨v, rfl, ⟨h2, hB⟩, h1.shpn List.length_replicate, h1⟩
theorem sect_turn {B : Nat} (W : World) (c : UInt8) (hB : B ≤ W.heap.size) {u : World → Prop} (hU : u W) (hu : ∀ W', Below W.heap.size W W' → u W') : Calls Try.prog 16 #[.int .u8 (c.toNat : Int)] W fun e w'' => ∃ v, e = .returned v ∧ TP B W w'' ∧ (shpn 512 v ∧ Sl w'' v (List.replicate 512 c)) ∧ u w'' := by
  refine (sect_any W c).mono ?_
  rintro e w1 ⟨v, rfl, h1, h2⟩
  exact ⟨v, rfl, Gn.tp _ _ ⟨h2, hB⟩, ⟨h1.shpn List.length_replicate, h1⟩, hu _ h2⟩
theorem pw_rel {w0 w : World} {B g r k : Nat} {vs : Value} {d d2 : DevMath.Dev} (h : P2 w0 w B g r vs k d d2) (hk : k ≤ 1000) (at_ : Int) {vb : Value} {l : List UInt8} (hs : Sl w vb l) (hl : l.length ≤ 1000000) :
    Calls Try.prog 15 #[.pointer (some ⟨g, 0, none⟩), .int .i64 at_, vb] w fun e w' => ∃ v, e = .returned v ∧ TP B w w' ∧ (v = .int .i64 (d.write at_ l).2 ∧ True) ∧ P2 w0 w' B g r vs (k + 1) (d.write at_ l).1 d2 := by
  refine (p_write h hk at_ hs hl).mono ?_
  rintro e w1 ⟨rfl, h1, h2⟩
  exact ⟨_, rfl, h2, ⟨rfl, trivial⟩, h1⟩
theorem qw_rel {w0 w : World} {B g r k : Nat} {vs : Value} {d d2 : DevMath.Dev} (h : P2 w0 w B g r vs k d d2) (hk : k ≤ 1000) (at_ : Int) {vb : Value} {l : List UInt8} (hs : Sl w vb l) (hl : l.length ≤ 1000000) :
    Calls Try.prog 26 #[.pointer (some ⟨r, 0, none⟩), .int .i64 at_, vb] w fun e w' => ∃ v, e = .returned v ∧ TP B w w' ∧ (v = .int .i64 (d2.write at_ l).2 ∧ True) ∧ P2 w0 w' B g r vs (k + 1) d (d2.write at_ l).1 := by
  refine (q_write h hk at_ hs hl).mono ?_
  rintro e w1 ⟨rfl, h1, h2⟩
  exact ⟨_, rfl, h2, ⟨rfl, trivial⟩, h1⟩
theorem zero_slm (W : World) (m : Nat) (hm : m ≤ 281474976710656) : Sl (W.alloc (.cells (madeCells #[.int .u8 0] m) 5)) (.slice (some ⟨W.heap.size, 0, none⟩) m m) (List.replicate m 0) := by
  have h := Mb.made W 5 m hm
  refine ⟨some ⟨W.heap.size, 0, none⟩, m, by rw [List.length_replicate], by rw [List.length_replicate]; exact Nat.le_refl _, h.rd, fun a e => ?_⟩
  injection e with e
  subst e
  exact ⟨_, _, heap_new W _ _ rfl⟩
end Go.Proofs.Ytbpecfbliglboaa
