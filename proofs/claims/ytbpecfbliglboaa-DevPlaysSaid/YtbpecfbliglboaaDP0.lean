/- DevPlays: the device and the reference's, side by side; their calls. -/
import Derived.Test.YtbpecfbliglboaaRdNew
import Derived.Test.YtbpecfbliglboaaDAct
namespace Go.Proofs.Ytbpecfbliglboaa
open Go.RowKit Go.Maps
set_option linter.unusedVariables false
set_option linter.unusedSimpArgs false
/-- blocks of other types than the two devices' stay; what is below B stays -/
def TP (B : Nat) (w w' : World) : Prop := Below B w w' ∧ ∀ (k : Nat) cs (t : Nat) fr, t ≠ 71 → t ≠ 75 → t ≠ 51 → t ≠ 9 → w.heap[k]? = some (.cells cs t fr) → w'.heap[k]? = some (.cells cs t fr)
theorem TP.refl (B : Nat) (w : World) : TP B w w := ⟨Below.refl _ _, fun _ _ _ _ _ _ _ _ h => h⟩
theorem TP.trans {B : Nat} (a b c : World) (h : TP B a b) (k : TP B b c) : TP B a c := ⟨h.1.trans k.1, fun i cs t fr h1 h2 h3 h4 h5 => k.2 i cs t fr h1 h2 h3 h4 (h.2 i cs t fr h1 h2 h3 h4 h5)⟩
theorem Gn.tp {B : Nat} (W W' : World) (h : Gn B W W') : TP B W W' := ⟨h.1.mono h.2, fun k _ _ _ _ _ _ _ h3 => (h.1.block k (Array.getElem?_eq_some_iff.1 h3).1).trans h3⟩
theorem TP.sl {B : Nat} {w w' : World} (h : TP B w w') {v : Value} {l : List UInt8} (hs : Sl w v l) : Sl w' v l := by
  obtain ⟨A, c, h1, h2, h3, h4⟩ := hs
  refine ⟨A, c, h1, h2, ⟨h3.1, fun hp => ?_⟩, fun a e => ?_⟩
  · obtain ⟨a, e, hc⟩ := h3.2 hp
    obtain ⟨cs, fr, h5⟩ := h4 a e
    refine ⟨a, e, fun j hj => ?_⟩
    have h6 : (a.add j).block = a.block := by unfold Addr.add; split <;> rfl
    rw [World.cell?_of_block (w := w) (by rw [h6]; exact (h.2 _ _ _ _ (by decide) (by decide) (by decide) (by decide) h5).trans h5.symm)]
    exact hc j hj
  · obtain ⟨cs, fr, h5⟩ := h4 a e
    exact ⟨cs, fr, h.2 _ _ _ _ (by decide) (by decide) (by decide) (by decide) h5⟩
/-- plain facts of a device in the law -/
def Dk (k : Nat) (d : DevMath.Dev) : Prop := DvI d ∧ d.keep.length ≤ 60 ∧ d.cache.length ≤ k
theorem Dk.next {k : Nat} {d : DevMath.Dev} (h : Dk k d) : Dk (k + 1) d := ⟨h.1, h.2.1, Nat.le_succ_of_le h.2.2⟩
theorem Dk.write {k : Nat} {d : DevMath.Dev} (h : Dk k d) (a : Int) (l : List UInt8) : Dk (k + 1) (d.write a l).1 := by
  refine ⟨h.1.write a l, by rw [write_keep]; exact h.2.1, ?_⟩
  have hb : d.burn.cache.length ≤ k := by
    rcases burn_cache d with e | e
    · rw [e]; exact h.2.2
    · rw [e]; simp
  have h0 := h.2.2
  unfold DevMath.Dev.write
  repeat (first | split | (show d.cache.length ≤ k + 1; omega) | (show d.burn.cache.length ≤ k + 1; omega) | (simp only [List.length_append, List.length_cons, List.length_nil]; omega))
theorem Dk.flush {k : Nat} {d : DevMath.Dev} (h : Dk k d) : Dk (k + 1) d.flush.1 := by
  refine ⟨h.1.flush, by rw [flush_keep]; exact h.2.1, ?_⟩
  have hb : d.burn.cache.length ≤ k := by
    rcases burn_cache d with e | e
    · rw [e]; exact h.2.2
    · rw [e]; simp
  unfold DevMath.Dev.flush
  split
  · exact Nat.le_succ_of_le hb
  · simp
theorem Dk.crash {k : Nat} {d : DevMath.Dev} (h : Dk k d) (keep : List Int) (torn : Int) : Dk (k + 1) (d.crash keep torn) := by
  refine ⟨h.1.crash keep torn, by rw [crash_keep]; exact h.2.1, ?_⟩
  have := h.2.2
  unfold DevMath.Dev.crash
  split
  · omega
  · simp
theorem Dk.on {k : Nat} {d : DevMath.Dev} (h : Dk k d) : Dk (k + 1) { d with off := false } := ⟨⟨h.1.n1, h.1.sf, h.1.cf, h.1.f0, h.1.f1, h.1.t0⟩, h.2.1, Nat.le_succ_of_le h.2.2⟩
theorem Dk.fused {k : Nat} {d : DevMath.Dev} (h : Dk k d) (calls : Int) (keep : List Int) (torn : Int) (wf : (Lit.int .i64 calls).wf = true) (wt : (Lit.int .i64 torn).wf = true) (hk : keep.length ≤ 60) : Dk (k + 1) (d.fused calls keep torn) := by
  refine ⟨h.1.fused calls keep torn wf wt, ?_, ?_⟩
  · unfold DevMath.Dev.fused
    split
    · exact h.2.1
    · exact hk
  · have := h.2.2
    unfold DevMath.Dev.fused
    split
    · omega
    · show d.cache.length ≤ _; omega
/-- both devices -/
structure P2 (w0 w : World) (B g r : Nat) (vs : Value) (k : Nat) (d d2 : DevMath.Dev) : Prop where
  a : DS w0 w B g d
  b : RS w B r vs d2
  c : Dk k d
  e : Dk k d2
theorem P2.below {w0 w w1 : World} {B g r k : Nat} {vs : Value} {d d2 : DevMath.Dev} (h : P2 w0 w B g r vs k d d2) (hb : Below w.heap.size w w1) : P2 w0 w1 B g r vs k d d2 := ⟨h.a.below hb, h.b.below hb, h.c, h.e⟩
theorem P2.next {w0 w : World} {B g r k : Nat} {vs : Value} {d d2 : DevMath.Dev} (h : P2 w0 w B g r vs k d d2) : P2 w0 w B g r vs (k + 1) d d2 := ⟨h.a, h.b, h.c.next, h.e.next⟩
theorem DS.re {w0 w : World} {B g : Nat} {d : DevMath.Dev} (h : DS w0 w B g d) : DS w w B g d := by
  obtain ⟨m, vc, vk, h1, h2, h3, h4, h5⟩ := h
  exact ⟨m, vc, vk, h1, h2, h3, Below.refl _ _, h5⟩
theorem DS.lift {w0 w w1 : World} {B g : Nat} {d : DevMath.Dev} (h : DS w w1 B g d) (hb : Below B w0 w) : DS w0 w1 B g d := by
  obtain ⟨m, vc, vk, h1, h2, h3, h4, h5⟩ := h
  exact ⟨m, vc, vk, h1, h2, h3, hb.trans h4, h5⟩
/-- the device's call is done -/
theorem P2.dev {w0 w w1 : World} {B g r k : Nat} {vs : Value} {d d' d2 : DevMath.Dev} (h : P2 w0 w B g r vs k d d2) (hd : DS w w1 B g d') (ht : TK w w1) (hk : Dk (k + 1) d') : P2 w0 w1 B g r vs (k + 1) d' d2 ∧ TP B w w1 :=
  ⟨⟨hd.lift h.a.bel, h.b.tk ht, hk, h.e.next⟩, hd.bel, fun i cs t fr h1 h2 _ _ h5 => ht i cs t fr h1 h2 h5⟩
theorem RdM.base {w : World} {B B' r : Nat} {rf : Int} {vs vl vk : Value} {d : DevMath.Dev} {ss : List ByteArray} {ws : List (Int × ByteArray)} (h : RdM w B r rf vs vl vk d ss ws) (hb : B' ≤ B) : RdM w B' r rf vs vl vk d ss ws :=
  ⟨h.st, orow_low h.sf hb, orow_low h.ca hb, h.ke, h.sl, h.se, h.cw, h.ff, Nat.le_trans hb h.rb, h.wf⟩
/-- the reference's call is done -/
theorem P2.ref {w0 w w1 : World} {B g r k : Nat} {vs : Value} {d d2 d' : DevMath.Dev} (h : P2 w0 w B g r vs k d d2) (hr : RS w1 B r vs d') (hc : Chg (OwnR r vs) w w1) (hk : Dk (k + 1) d') : P2 w0 w1 B g r vs (k + 1) d d' ∧ TP B w w1 := by
  refine ⟨⟨h.a.ref h.b hc, hr, h.c.next, hk⟩, ?_, ?_⟩
  · obtain ⟨rf, vl, vk, ss, ws, hb⟩ := h.b
    exact Chg.below (Below.refl _ _) hc h.a.sz (fun k hk => hb.low k hk)
  · obtain ⟨rf, vl, vk, ss, ws, hb⟩ := h.b
    intro i cs t fr _ _ h3 h4 h5
    exact hc.heap h5 (fun hk => hb.not h3 h4 i hk cs fr h5)
theorem p_write {w0 w : World} {B g r k : Nat} {vs : Value} {d d2 : DevMath.Dev} (h : P2 w0 w B g r vs k d d2) (hk : k ≤ 1000) (at_ : Int) {vb : Value} {l : List UInt8} (hs : Sl w vb l) (hl : l.length ≤ 1000000) :
    Calls Try.prog 15 #[.pointer (some ⟨g, 0, none⟩), .int .i64 at_, vb] w fun e w' => e = .returned (.int .i64 (d.write at_ l).2) ∧ P2 w0 w' B g r vs (k + 1) (d.write at_ l).1 d2 ∧ TP B w w' := by
  refine (ds_write h.a.re (Nat.le_trans h.c.2.2 (by omega)) at_ hs hl).mono ?_
  rintro e w1 ⟨rfl, h1, h2⟩
  exact ⟨rfl, h.dev h1 h2 (h.c.write at_ l)⟩
theorem q_write {w0 w : World} {B g r k : Nat} {vs : Value} {d d2 : DevMath.Dev} (h : P2 w0 w B g r vs k d d2) (hk : k ≤ 1000) (at_ : Int) {vb : Value} {l : List UInt8} (hs : Sl w vb l) (hl : l.length ≤ 1000000) :
    Calls Try.prog 26 #[.pointer (some ⟨r, 0, none⟩), .int .i64 at_, vb] w fun e w' => e = .returned (.int .i64 (d2.write at_ l).2) ∧ P2 w0 w' B g r vs (k + 1) d (d2.write at_ l).1 ∧ TP B w w' := by
  obtain ⟨rf, vl, vk, ss, ws, hb⟩ := h.b
  refine (ref_write w B r rf vs vl vk d2 ss ws hb h.e.1 (by rw [hb.len]; exact Nat.le_trans h.e.2.2 (by omega)) (Nat.le_trans h.e.2.1 (by omega)) h.a.sz at_ vb l hs hl).mono ?_
  rintro e w1 ⟨rfl, ⟨rf', vl', ss', ws', h1⟩, h2⟩
  exact ⟨rfl, h.ref ⟨_, _, _, _, _, h1⟩ h2 (h.e.write at_ l)⟩
theorem p_flush {w0 w : World} {B g r k : Nat} {vs : Value} {d d2 : DevMath.Dev} (h : P2 w0 w B g r vs k d d2) (hk : k ≤ 1000) :
    Calls Try.prog 17 #[.pointer (some ⟨g, 0, none⟩)] w fun e w' => e = .returned (.int .i64 d.flush.2) ∧ P2 w0 w' B g r vs (k + 1) d.flush.1 d2 ∧ TP B w w' := by
  refine (ds_flush h.a.re (Nat.le_trans h.c.2.2 (by omega))).mono ?_
  rintro e w1 ⟨rfl, h1, h2⟩
  exact ⟨rfl, h.dev h1 h2 h.c.flush⟩
theorem q_flush {w0 w : World} {B g r k : Nat} {vs : Value} {d d2 : DevMath.Dev} (h : P2 w0 w B g r vs k d d2) (hk : k ≤ 1000) :
    Calls Try.prog 28 #[.pointer (some ⟨r, 0, none⟩)] w fun e w' => e = .returned (.int .i64 d2.flush.2) ∧ P2 w0 w' B g r vs (k + 1) d d2.flush.1 ∧ TP B w w' := by
  obtain ⟨rf, vl, vk, ss, ws, hb⟩ := h.b
  refine (ref_flush w B r rf vs vl vk d2 ss ws hb h.e.1 (Nat.le_trans h.e.2.2 (by omega)) (Nat.le_trans h.e.2.1 (by omega))).mono ?_
  rintro e w1 ⟨rfl, ⟨rf', vl', ss', ws', h1⟩, h2⟩
  exact ⟨rfl, h.ref ⟨_, _, _, _, _, h1⟩ h2 h.e.flush⟩
theorem p_crash {w0 w : World} {B g r k : Nat} {vs : Value} {d d2 : DevMath.Dev} (h : P2 w0 w B g r vs k d d2) (hk : k ≤ 1000) {kv : Value} {keep : List Int} (torn : Int) (hv : IntR w0 kv keep) (hB : w0.heap.size ≤ B) (hkl : keep.length ≤ 60) :
    Calls Try.prog 19 #[.pointer (some ⟨g, 0, none⟩), kv, .int .i64 torn] w fun e w' => e = .returned (.tuple #[]) ∧ P2 w0 w' B g r vs (k + 1) (d.crash keep torn) d2 ∧ TP B w w' := by
  have hbel := h.a.bel
  refine (ds_crash h.a.re (Nat.le_trans h.c.2.2 (by omega)) (kv := kv) (keep := keep) torn (fun W _ hb => hv.below ((hbel.trans hb).mono hB)) (by omega)).mono ?_
  rintro e w1 ⟨rfl, h1, h2⟩
  exact ⟨rfl, h.dev h1 h2 (h.c.crash keep torn)⟩
theorem q_crash {w0 w : World} {B g r k : Nat} {vs : Value} {d d2 : DevMath.Dev} (h : P2 w0 w B g r vs k d d2) (hk : k ≤ 1000) {kv : Value} {keep : List Int} (torn : Int) (hv : IntR w0 kv keep) (hB : w0.heap.size ≤ B) (hkl : keep.length ≤ 60) :
    Calls Try.prog 29 #[.pointer (some ⟨r, 0, none⟩), kv, .int .i64 torn] w fun e w' => e = .returned (.tuple #[]) ∧ P2 w0 w' B g r vs (k + 1) d (d2.crash keep torn) ∧ TP B w w' := by
  have hbel := h.a.bel
  obtain ⟨rf, vl, vk, ss, ws, hb⟩ := h.b
  refine (ref_crash w B r rf vs vl vk d2 ss ws hb h.e.1 (by rw [hb.len]; exact Nat.le_trans h.e.2.2 (by omega)) kv keep torn (fun W hc => hv.below ((hbel.trans (Chg.below (Below.refl _ _) hc h.a.sz (fun k hk => hb.low k hk))).mono hB)) (by omega)).mono ?_
  rintro e w1 ⟨rfl, ⟨rf', vl', ss', ws', h1⟩, h2⟩
  exact ⟨rfl, h.ref ⟨_, _, _, _, _, h1⟩ h2 (h.e.crash keep torn)⟩
theorem p_on {w0 w : World} {B g r k : Nat} {vs : Value} {d d2 : DevMath.Dev} (h : P2 w0 w B g r vs k d d2) :
    Calls Try.prog 20 #[.pointer (some ⟨g, 0, none⟩)] w fun e w' => e = .returned (.tuple #[]) ∧ P2 w0 w' B g r vs (k + 1) { d with off := false } d2 ∧ TP B w w' := by
  refine (ds_on h.a.re).mono ?_
  rintro e w1 ⟨rfl, h1, h2⟩
  exact ⟨rfl, h.dev h1 h2 h.c.on⟩
theorem q_on {w0 w : World} {B g r k : Nat} {vs : Value} {d d2 : DevMath.Dev} (h : P2 w0 w B g r vs k d d2) :
    Calls Try.prog 30 #[.pointer (some ⟨r, 0, none⟩)] w fun e w' => e = .returned (.tuple #[]) ∧ P2 w0 w' B g r vs (k + 1) d { d2 with off := false } ∧ TP B w w' := by
  obtain ⟨rf, vl, vk, ss, ws, hb⟩ := h.b
  refine (ref_on w B r rf vs vl vk d2 ss ws hb).mono ?_
  rintro e w1 ⟨rfl, h1, h2⟩
  exact ⟨rfl, h.ref ⟨_, _, _, _, _, h1⟩ h2 h.e.on⟩
theorem p_fuse {w0 w : World} {B g r k : Nat} {vs : Value} {d d2 : DevMath.Dev} (h : P2 w0 w B g r vs k d d2) (calls : Int) {A : Option Addr} {c : Nat} {keep : List Int} (torn : Int) (wf : (Lit.int .i64 calls).wf = true) (wt : (Lit.int .i64 torn).wf = true) (hv : IntR w0 (.slice A keep.length c) keep) (hB : w0.heap.size ≤ B) (hkl : keep.length ≤ 60) :
    Calls Try.prog 22 #[.pointer (some ⟨g, 0, none⟩), .int .i64 calls, .slice A keep.length c, .int .i64 torn] w fun e w' => e = .returned (.tuple #[]) ∧ P2 w0 w' B g r vs (k + 1) (d.fused calls keep torn) d2 ∧ TP B w w' := by
  have hbel := h.a.bel
  refine (ds_fuse h.a.re calls torn wf wt (hv.below (hbel.mono hB)) (by omega)).mono ?_
  rintro e w1 ⟨rfl, h1, h2⟩
  exact ⟨rfl, h.dev h1 h2 (h.c.fused calls keep torn wf wt hkl)⟩
theorem q_fuse {w0 w : World} {B g r k : Nat} {vs : Value} {d d2 : DevMath.Dev} (h : P2 w0 w B g r vs k d d2) (calls : Int) {A : Option Addr} {c : Nat} {keep : List Int} (torn : Int) (wf : (Lit.int .i64 calls).wf = true) (wt : (Lit.int .i64 torn).wf = true) (hv : IntR w0 (.slice A keep.length c) keep) (hB : w0.heap.size ≤ B) (hkl : keep.length ≤ 60) :
    Calls Try.prog 31 #[.pointer (some ⟨r, 0, none⟩), .int .i64 calls, .slice A keep.length c, .int .i64 torn] w fun e w' => e = .returned (.tuple #[]) ∧ P2 w0 w' B g r vs (k + 1) d (d2.fused calls keep torn) ∧ TP B w w' := by
  have hbel := h.a.bel
  obtain ⟨rf, vl, vk, ss, ws, hb⟩ := h.b
  refine (ref_fuse w B r rf vs vl vk d2 ss ws hb calls torn A c keep (hv.below (hbel.mono hB)) (by omega) wf).mono ?_
  rintro e w1 ⟨rfl, ⟨rf', vk', h1⟩, h2⟩
  exact ⟨rfl, h.ref ⟨_, _, _, _, _, h1⟩ h2 (h.e.fused calls keep torn wf wt hkl)⟩
theorem p_read {w0 w : World} {B g r k : Nat} {vs : Value} {d d2 : DevMath.Dev} (h : P2 w0 w B g r vs k d d2) (hk : k ≤ 1000) (at_ : Int) (wf : (Lit.int .i64 at_).wf = true) :
    Calls Try.prog 18 #[.pointer (some ⟨g, 0, none⟩), .int .i64 at_] w fun e w' => ∃ v, e = .returned (.tuple #[v, .int .i64 (d.read at_).2]) ∧ Sl w' v ((d.read at_).1.getD []) ∧ P2 w0 w' B g r vs k d d2 ∧ Below w.heap.size w w' := by
  refine (ds_read h.a (Nat.le_trans h.c.2.2 (by omega)) at_ wf).mono ?_
  rintro e w1 ⟨v, rfl, h1, _, h2⟩
  exact ⟨v, rfl, h1, h.below h2, h2⟩
theorem q_read {w0 w : World} {B g r k : Nat} {vs : Value} {d d2 : DevMath.Dev} (h : P2 w0 w B g r vs k d d2) (hk : k ≤ 1000) (at_ : Int) :
    Calls Try.prog 27 #[.pointer (some ⟨r, 0, none⟩), .int .i64 at_] w fun e w' => ∃ v, e = .returned (.tuple #[v, .int .i64 (d2.read at_).2]) ∧ Sl w' v ((d2.read at_).1.getD []) ∧ P2 w0 w' B g r vs k d d2 ∧ Below w.heap.size w w' := by
  obtain ⟨rf, vl, vk, ss, ws, hb⟩ := h.b
  refine (ref_read w B r rf vs vl vk d2 ss ws hb h.e.1 (by rw [hb.len]; exact Nat.le_trans h.e.2.2 (by omega)) at_).mono ?_
  rintro e w1 ⟨⟨v, rfl, h1⟩, h2⟩
  exact ⟨v, rfl, h1, h.below h2, h2⟩
theorem q_unsafe {w0 w : World} {B g r k : Nat} {vs : Value} {d d2 : DevMath.Dev} (h : P2 w0 w B g r vs k d d2) :
    Calls Try.prog 32 #[.pointer (some ⟨r, 0, none⟩)] w fun e w' => e = .returned (.int .i64 d2.cache.length) ∧ w' = w := by
  obtain ⟨rf, vl, vk, ss, ws, hb⟩ := h.b
  rw [← hb.len]
  exact ref_unsafe w B r rf vs vl vk d2 ss ws hb
theorem P2.isoff {w0 w : World} {B g r k : Nat} {vs : Value} {d d2 : DevMath.Dev} (h : P2 w0 w B g r vs k d d2) : w.cell? ⟨r, 1, none⟩ = some (.bool d2.off) := by
  obtain ⟨rf, vl, vk, ss, ws, hb⟩ := h.b
  exact hb.cells.2.1
theorem p_new (w0 w : World) (n : Nat) (h1 : 1 ≤ n) (h2 : n ≤ 8192) (hb : Below w0.heap.size w0 w) : Calls Try.prog 25 #[.int .i64 n] w fun e w' => e = .returned (.pointer (some ⟨w.heap.size, 0, none⟩)) ∧ ∀ B g, DS w0 w B g (DevMath.Dev.new n) → ∃ vs, P2 w0 w' B g w.heap.size vs 0 (DevMath.Dev.new n) (DevMath.Dev.new n) := by
  refine (ref_new w n h2).mono ?_
  rintro e w1 ⟨rfl, ⟨vs, ss, h3⟩, h4⟩
  refine ⟨rfl, fun B g hd => ⟨vs, hd.below h4, ⟨_, _, _, _, _, h3.base hd.sz⟩, ?_, ?_⟩⟩
  · exact ⟨DvI.new n h2, by show ([] : List Int).length ≤ _; simp, by show ([] : List (Int × List UInt8)).length ≤ _; simp⟩
  · exact ⟨DvI.new n h2, by show ([] : List Int).length ≤ _; simp, by show ([] : List (Int × List UInt8)).length ≤ _; simp⟩
end Go.Proofs.Ytbpecfbliglboaa
