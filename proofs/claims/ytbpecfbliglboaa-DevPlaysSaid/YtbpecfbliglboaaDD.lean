/- Two devices side by side. -/
import Derived.Test.YtbpecfbliglboaaDSafe
import Derived.Test.YtbpecfbliglboaaStg
namespace Go.Proofs.Ytbpecfbliglboaa
open Go.RowKit Go.Maps
set_option linter.unusedVariables false
set_option linter.unusedSimpArgs false
theorem Mp.same {w w1 : World} {b n : Nat} {f : Int → Option Value} (h : Mp w b n f) (e : w1.heap[b]? = w.heap[b]?) : Mp w1 b n f := by
  obtain ⟨D, ⟨es, clock, hb, h1, h2, h3⟩, h4⟩ := h
  exact ⟨D, ⟨es, clock, e.trans hb, h1, h2, h3⟩, h4⟩
/-- blocks that are none of the device's turn -/
theorem DvM.apart {S : Nat → Prop} {w w1 : World} {B g m : Nat} {vc vk : Value} {d : DevMath.Dev} (h : DvM w B g m vc vk d) (hc : Chg S w w1) (hS : ∀ k, S k → ¬ Own g m vc k) (h8 : ∀ k, S k → ∀ cs fr, w.heap[k]? ≠ some (.cells cs 5 fr)) (hi : ∀ k, S k → ∀ cs fr, w.heap[k]? ≠ some (.cells cs 3 fr)) : DvM w1 B g m vc vk d := by
  have hl := h.lt
  obtain ⟨f, n, q1, q2, q3⟩ := h.mp
  exact ⟨hc.heap h.st (fun e => hS g e (.inl rfl)), ⟨f, n, q1.same (hc.block m (hl m (.inr (.inl rfl))).1 (fun e => hS m e (.inr (.inl rfl)))), q2, q3.imp fun _ _ h5 => h5.chg hc h8⟩, h.ca.chg hc (fun k hk e => hS k hk (.inr (.inr e))) h8, h.ke.chg hc hi, h.gb, h.mb⟩
/-- two devices of the program -/
def DD (w0 w : World) (B ga gb : Nat) (da db : DevMath.Dev) : Prop := ∃ ma vca vka mb vcb vkb, DvM w B ga ma vca vka da ∧ DvM w B gb mb vcb vkb db ∧ DvI da ∧ DvI db ∧ da.keep.length ≤ 1000000 ∧ db.keep.length ≤ 1000000 ∧ Below B w0 w ∧ B ≤ w.heap.size ∧ ∀ k, Own ga ma vca k → ¬ Own gb mb vcb k
theorem DD.swap {w0 w : World} {B ga gb : Nat} {da db : DevMath.Dev} (h : DD w0 w B ga gb da db) : DD w0 w B gb ga db da := by
  obtain ⟨ma, vca, vka, mb, vcb, vkb, h1, h2, h3, h4, h5, h6, h7, h8, h9⟩ := h
  exact ⟨mb, vcb, vkb, ma, vca, vka, h2, h1, h4, h3, h6, h5, h7, h8, fun k hk hk' => h9 k hk' hk⟩
theorem DD.fst {w0 w : World} {B ga gb : Nat} {da db : DevMath.Dev} (h : DD w0 w B ga gb da db) : DS w0 w B ga da := by
  obtain ⟨ma, vca, vka, mb, vcb, vkb, h1, h2, h3, h4, h5, h6, h7, h8, h9⟩ := h
  exact ⟨ma, vca, vka, h1, h3, h5, h7, h8⟩
theorem DD.bel {w0 w : World} {B ga gb : Nat} {da db : DevMath.Dev} (h : DD w0 w B ga gb da db) : Below B w0 w := h.fst.bel
theorem DD.sz {w0 w : World} {B ga gb : Nat} {da db : DevMath.Dev} (h : DD w0 w B ga gb da db) : B ≤ w.heap.size := h.fst.sz
theorem DD.below {w0 w w1 : World} {B ga gb : Nat} {da db : DevMath.Dev} (h : DD w0 w B ga gb da db) (hb : Below w.heap.size w w1) : DD w0 w1 B ga gb da db := by
  obtain ⟨ma, vca, vka, mb, vcb, vkb, h1, h2, h3, h4, h5, h6, h7, h8, h9⟩ := h
  exact ⟨ma, vca, vka, mb, vcb, vkb, h1.below hb, h2.below hb, h3, h4, h5, h6, below_then h7 h8 hb, Nat.le_trans h8 hb.size, h9⟩
/-- the first device turns -/
theorem DD.step {w0 w : World} {B ga gb : Nat} {da db : DevMath.Dev} (h : DD w0 w B ga gb da db) : ∃ ma vca vka, DvM w B ga ma vca vka da ∧ DvI da ∧ da.keep.length ≤ 1000000 ∧ (∀ w', Chg (Own ga ma vca) w w' → TK w w' ∧ Below B w0 w') ∧
    ∀ w' vca' vka' da', Chg (Own ga ma vca) w w' → DvM w' B ga ma vca' vka' da' → Fresh w vca vca' → DvI da' → da'.keep.length ≤ 1000000 → DD w0 w' B ga gb da' db := by
  obtain ⟨ma, vca, vka, mb, vcb, vkb, h1, h2, h3, h4, h5, h6, h7, h8, h9⟩ := h
  refine ⟨ma, vca, vka, h1, h3, h5, fun w' hc => ⟨TK.of_chg h1 hc, Chg.below h7 hc h8 (fun k hk => (h1.lt k hk).2)⟩, fun w' vca' vka' da' hc q1 q2 q3 q4 => ?_⟩
  refine ⟨ma, vca', vka', mb, vcb, vkb, q1, h2.apart hc h9 (h1.not8 (by decide) (by decide)) (h1.not8 (by decide) (by decide)), q3, h4, q4, h6, Chg.below h7 hc h8 (fun k hk => (h1.lt k hk).2), Nat.le_trans h8 hc.size, fun k hk hk' => ?_⟩
  rcases hk with hk | hk | hk
  · exact h9 k (.inl hk) hk'
  · exact h9 k (.inr (.inl hk)) hk'
  · rcases q2 k hk with e | e
    · exact h9 k (.inr (.inr e)) hk'
    · have := (h2.lt k hk').1; omega
theorem Fresh.refl (w : World) (vc : Value) : Fresh w vc vc := fun k hk => .inl hk
theorem dd_write {w0 w : World} {B ga gb : Nat} {da db : DevMath.Dev} (h : DD w0 w B ga gb da db) (hcl : da.cache.length ≤ 1000000) (at_ : Int) {vb : Value} {l : List UInt8} (hs : Sl w vb l) (hl : l.length ≤ 1000000) :
    Calls Try.prog 15 #[.pointer (some ⟨ga, 0, none⟩), .int .i64 at_, vb] w fun e w' => e = .returned (.int .i64 (da.write at_ l).2) ∧ DD w0 w' B ga gb (da.write at_ l).1 db ∧ TK w w' := by
  have hz := h.sz
  obtain ⟨m, vc, vk, h1, h2, h3, h4, h5⟩ := h.step
  refine (write_any w B ga m vc vk da h1 h2 hcl h3 hz at_ vb l hs hl).mono ?_
  rintro e w1 ⟨rfl, vc', hf, h6, h7⟩
  exact ⟨rfl, h5 _ _ _ _ h7 h6 hf (h2.write at_ l) (by rw [write_keep]; exact h3), (h4 _ h7).1⟩
theorem dd_flush {w0 w : World} {B ga gb : Nat} {da db : DevMath.Dev} (h : DD w0 w B ga gb da db) (hcl : da.cache.length ≤ 1000000) :
    Calls Try.prog 17 #[.pointer (some ⟨ga, 0, none⟩)] w fun e w' => e = .returned (.int .i64 da.flush.2) ∧ DD w0 w' B ga gb da.flush.1 db ∧ TK w w' := by
  obtain ⟨m, vc, vk, h1, h2, h3, h4, h5⟩ := h.step
  refine (flush_any w B ga m vc vk da h1 h2 (by omega) (by omega)).mono ?_
  rintro e w1 ⟨rfl, vc', hf, h6, h7⟩
  exact ⟨rfl, h5 _ _ _ _ h7 h6 hf.fresh h2.flush (by rw [flush_keep]; exact h3), (h4 _ h7).1⟩
theorem dd_crash {w0 w : World} {B ga gb : Nat} {da db : DevMath.Dev} (h : DD w0 w B ga gb da db) (hcl : da.cache.length ≤ 1000000) {kv : Value} {keep : List Int} (torn : Int) (hk : ∀ W, TK w W → Below B w0 W → IntR W kv keep) (hkl : keep.length ≤ 1000000) :
    Calls Try.prog 19 #[.pointer (some ⟨ga, 0, none⟩), kv, .int .i64 torn] w fun e w' => e = .returned (.tuple #[]) ∧ DD w0 w' B ga gb (da.crash keep torn) db ∧ TK w w' := by
  obtain ⟨m, vc, vk, h1, h2, h3, h4, h5⟩ := h.step
  refine (crash_any w B ga m vc vk da h1 h2 (by omega) kv keep torn (fun W hc => hk W (h4 W hc).1 (h4 W hc).2) (by omega)).mono ?_
  rintro e w1 ⟨rfl, h6, h7⟩
  refine ⟨rfl, h5 _ _ _ _ h7 h6 ?_ (h2.crash keep torn) (by rw [crash_keep]; exact h3), (h4 _ h7).1⟩
  split
  · exact Fresh.refl _ _
  · intro k hk; simp [Value.ownBlock] at hk
theorem dd_on {w0 w : World} {B ga gb : Nat} {da db : DevMath.Dev} (h : DD w0 w B ga gb da db) :
    Calls Try.prog 20 #[.pointer (some ⟨ga, 0, none⟩)] w fun e w' => e = .returned (.tuple #[]) ∧ DD w0 w' B ga gb { da with off := false } db ∧ TK w w' := by
  obtain ⟨m, vc, vk, h1, h2, h3, h4, h5⟩ := h.step
  refine (on_any w B ga m vc vk da h1).mono ?_
  rintro e w1 ⟨rfl, h6, h7⟩
  exact ⟨rfl, h5 _ _ _ _ h7 h6 (Fresh.refl _ _) ⟨h2.n1, h2.sf, h2.cf, h2.f0, h2.f1, h2.t0⟩ h3, (h4 _ h7).1⟩
theorem dd_fuse {w0 w : World} {B ga gb : Nat} {da db : DevMath.Dev} (h : DD w0 w B ga gb da db) (calls torn : Int) (wf : (Lit.int .i64 calls).wf = true) (wt : (Lit.int .i64 torn).wf = true) {kv : Value} {keep : List Int} (hk : IntR w kv keep) (hkl : keep.length ≤ 1000000) :
    Calls Try.prog 22 #[.pointer (some ⟨ga, 0, none⟩), .int .i64 calls, kv, .int .i64 torn] w fun e w' => e = .returned (.tuple #[]) ∧ DD w0 w' B ga gb (da.fused calls keep torn) db ∧ TK w w' := by
  obtain ⟨m, vc, vk, h1, h2, h3, h4, h5⟩ := h.step
  refine (fuse_any w B ga m vc vk da h1 calls torn kv keep hk (by omega)).mono ?_
  rintro e w1 ⟨rfl, vk', h6, h7⟩
  have h8 : Chg (Own ga m vc) w w1 := h7.imp fun k hk => .inl hk
  refine ⟨rfl, h5 _ _ _ _ h8 h6 (Fresh.refl _ _) (h2.fused calls keep torn wf wt) ?_, (h4 _ h8).1⟩
  unfold DevMath.Dev.fused
  split
  · exact h3
  · exact hkl
/-- a second device is made -/
theorem dd_new {w0 w : World} {B ga : Nat} {da : DevMath.Dev} (h : DS w0 w B ga da) (n : Nat) (h1 : 1 ≤ n) (h2 : n ≤ 8192) : Calls Try.prog 14 #[.int .i64 n] w fun e w' => ∃ gb, e = .returned (.tuple #[.pointer (some ⟨gb, 0, none⟩), .int .i64 0]) ∧ DD w0 w' B ga gb da (DevMath.Dev.new n) := by
  refine (new_any w n h1 h2).mono ?_
  rintro e w1 ⟨rfl, h3, h4⟩
  obtain ⟨m, vc, vk, q1, q2, q3, q4, q5⟩ := h
  refine ⟨_, rfl, m, vc, vk, w.heap.size, _, _, q1.below h4, ⟨h3.st, h3.mp, Recs.nil _ _ _, h3.ke, by omega, q5⟩, q2, DvI.new n h2, q3, by show ([] : List Int).length ≤ _; simp, below_then q4 q5 h4, Nat.le_trans q5 h4.size, fun k hk hk' => ?_⟩
  have := (q1.lt k hk).1
  rcases hk' with e | e | e
  · omega
  · omega
  · simp [Value.ownBlock] at e
end Go.Proofs.Ytbpecfbliglboaa
