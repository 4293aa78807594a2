/- A device as its users see it: the calls keep 'DS'; memory of other types stays. -/
import Derived.Test.YtbpecfbliglboaaFuse
import Derived.Test.YtbpecfbliglboaaRead
import Derived.Test.YtbpecfbliglboaaDevSect
namespace Go.Proofs.Ytbpecfbliglboaa
open Go.RowKit Go.Maps
set_option linter.unusedVariables false
set_option linter.unusedSimpArgs false
/-- blocks of cells of other types than the device's stay -/
def TK (w w' : World) : Prop := ∀ (k : Nat) cs (t : Nat) fr, t ≠ 71 → t ≠ 75 → w.heap[k]? = some (.cells cs t fr) → w'.heap[k]? = some (.cells cs t fr)
theorem TK.refl (w : World) : TK w w := fun _ _ _ _ _ _ h => h
theorem TK.trans {a b c : World} (h : TK a b) (k : TK b c) : TK a c := fun i cs t fr h1 h2 h3 => k i cs t fr h1 h2 (h i cs t fr h1 h2 h3)
theorem TK.of_below {w w' : World} (h : Below w.heap.size w w') : TK w w' := fun k _ _ _ _ _ h3 => (h.block k (Array.getElem?_eq_some_iff.1 h3).1).trans h3
theorem TK.of_chg {w w' : World} {B g m : Nat} {vc vk : Value} {d : DevMath.Dev} (h : DvM w B g m vc vk d) (hc : Chg (Own g m vc) w w') : TK w w' := fun k cs t fr h1 h2 h3 => hc.heap h3 (fun hk => h.not8 h1 h2 k hk cs fr h3)
theorem TK.chg {w w' : World} (h : TK w w') {S : Nat → Prop} : True := trivial
theorem TK.cell {w w' : World} (h : TK w w') {k i : Nat} {cs : Array Value} {t : Nat} {fr : Nat × Nat} (h1 : t ≠ 71) (h2 : t ≠ 75) (hk : w.heap[k]? = some (.cells cs t fr)) : w'.cell? ⟨k, i, none⟩ = w.cell? ⟨k, i, none⟩ := by
  rw [cell_of_row _ k i _ _ _ (h k cs t fr h1 h2 hk), cell_of_row _ k i _ _ _ hk]
theorem TK.sl {w w' : World} (h : TK w w') {v : Value} {l : List UInt8} (hs : Sl w v l) : Sl w' v l := by
  obtain ⟨A, c, h1, h2, h3, h4⟩ := hs
  refine ⟨A, c, h1, h2, ⟨h3.1, fun hp => ?_⟩, fun a e => ?_⟩
  · obtain ⟨a, e, hc⟩ := h3.2 hp
    obtain ⟨cs, fr, h5⟩ := h4 a e
    refine ⟨a, e, fun j hj => ?_⟩
    have h6 : (a.add j).block = a.block := by unfold Addr.add; split <;> rfl
    rw [World.cell?_of_block (w := w) (by rw [h6]; exact (h _ _ _ _ (by decide) (by decide) h5).trans h5.symm)]
    exact hc j hj
  · obtain ⟨cs, fr, h5⟩ := h4 a e
    exact ⟨cs, fr, h _ _ _ _ (by decide) (by decide) h5⟩
theorem TK.int {w w' : World} (h : TK w w') {v : Value} {ks : List Int} (hs : IntV w v ks) : IntV w' v ks := by
  obtain ⟨A, c, h1, h2, h4, h3⟩ := hs
  refine ⟨A, c, h1, h2, fun a e => ?_, fun hp => ?_⟩
  · obtain ⟨cs, fr, h5⟩ := h4 a e
    exact ⟨cs, fr, h _ _ _ _ (by decide) (by decide) h5⟩
  · obtain ⟨a, e, hc⟩ := h3 hp
    obtain ⟨cs, fr, h5⟩ := h4 a e
    refine ⟨a, e, fun j hj => ?_⟩
    have h6 : (a.add j).block = a.block := by unfold Addr.add; split <;> rfl
    rw [World.cell?_of_block (w := w) (by rw [h6]; exact (h _ _ _ _ (by decide) (by decide) h5).trans h5.symm)]
    exact hc j hj
/-- a device of the program, made at a world above w0 -/
def DS (w0 w : World) (B g : Nat) (d : DevMath.Dev) : Prop := ∃ m vc vk, DvM w B g m vc vk d ∧ DvI d ∧ d.keep.length ≤ 1000000 ∧ Below B w0 w ∧ B ≤ w.heap.size
theorem DS.bel {w0 w : World} {B g : Nat} {d : DevMath.Dev} (h : DS w0 w B g d) : Below B w0 w := by
  obtain ⟨m, vc, vk, h1, h2, h3, h4, h5⟩ := h; exact h4
theorem DS.sz {w0 w : World} {B g : Nat} {d : DevMath.Dev} (h : DS w0 w B g d) : B ≤ w.heap.size := by
  obtain ⟨m, vc, vk, h1, h2, h3, h4, h5⟩ := h; exact h5
theorem DS.below {w0 w w1 : World} {B g : Nat} {d : DevMath.Dev} (h : DS w0 w B g d) (hb : Below w.heap.size w w1) : DS w0 w1 B g d := by
  obtain ⟨m, vc, vk, h1, h2, h3, h4, h5⟩ := h
  exact ⟨m, vc, vk, h1.below hb, h2, h3, below_then h4 h5 hb, Nat.le_trans h5 hb.size⟩
theorem DS.chg {w0 w w1 : World} {B g m : Nat} {vc vk vc' vk' : Value} {d d' : DevMath.Dev} (h : DvM w B g m vc vk d) (h4 : Below B w0 w) (h5 : B ≤ w.heap.size) (hc : Chg (Own g m vc) w w1) (h1 : DvM w1 B g m vc' vk' d') (h2 : DvI d') (h3 : d'.keep.length ≤ 1000000) : DS w0 w1 B g d' :=
  ⟨m, vc', vk', h1, h2, h3, Chg.below h4 hc h5 (fun k hk => (h.lt k hk).2), Nat.le_trans h5 hc.size⟩
/-- another block's cells turn -/
theorem DvM.other {w w1 : World} {B g m b : Nat} {vc vk : Value} {d : DevMath.Dev} {cs : Array Value} {t : Nat} {fr : Nat × Nat} (h : DvM w B g m vc vk d) (hb : w.heap[b]? = some (.cells cs t fr)) (h1 : t ≠ 71) (h2 : t ≠ 75) (h3 : t ≠ 5) (h4 : t ≠ 3) (hc : Chg (· = b) w w1) : DvM w1 B g m vc vk d := by
  have hn : ∀ u : Nat, t ≠ u → ∀ k, k = b → ∀ cs' fr', w.heap[k]? ≠ some (.cells cs' u fr') := by
    intro u hu k hk cs' fr' e
    rw [hk, hb] at e
    injection e with e
    injection e with _ e
    exact hu e
  have hno : ∀ k, Own g m vc k → k ≠ b := fun k hk e => h.not8 h1 h2 k hk cs fr (by rw [e]; exact hb)
  obtain ⟨f, n, q1, q2, q3⟩ := h.mp
  refine ⟨hc.heap h.st (fun e => hno g (.inl rfl) e), ⟨f, n, q1.kept (row := some b) ⟨hc.os, hc.tape, hc.output, hc.size, fun k hk hn => hc.block k hk (fun e => hn (by rw [e]))⟩ (by intro e; injection e with e; exact hno m (.inr (.inl rfl)) e), q2, q3.imp fun _ _ h5 => h5.chg hc (hn _ h3)⟩, h.ca.chg hc (fun k hk e => hno k (.inr (.inr e)) hk) (hn _ h3), h.ke.chg hc (hn _ h4), h.gb, h.mb⟩
theorem DS.other {w0 w w1 : World} {B g b : Nat} {d : DevMath.Dev} {cs : Array Value} {t : Nat} {fr : Nat × Nat} (h : DS w0 w B g d) (hb : w.heap[b]? = some (.cells cs t fr)) (hB : B ≤ b) (h1 : t ≠ 71 := by decide) (h2 : t ≠ 75 := by decide) (h3 : t ≠ 5 := by decide) (h4 : t ≠ 3 := by decide) (hc : Chg (· = b) w w1) : DS w0 w1 B g d := by
  obtain ⟨m, vc, vk, q1, q2, q3, q4, q5⟩ := h
  exact ⟨m, vc, vk, q1.other hb h1 h2 h3 h4 hc, q2, q3, Chg.below q4 hc q5 (fun k hk => by rw [hk]; exact hB), Nat.le_trans q5 hc.size⟩
theorem DS.set {w0 w : World} {B g b i : Nat} {v : Value} {d : DevMath.Dev} {cs : Array Value} {t : Nat} {fr : Nat × Nat} (h : DS w0 w B g d) (hb : w.heap[b]? = some (.cells cs t fr)) (hB : B ≤ b) (h1 : t ≠ 71 := by decide) (h2 : t ≠ 75 := by decide) (h3 : t ≠ 5 := by decide) (h4 : t ≠ 3 := by decide) : DS w0 (w.setCell ⟨b, i, none⟩ v) B g d :=
  h.other hb hB h1 h2 h3 h4 (Chg.setCell w b i v)
theorem DvI.new (n : Nat) (h : n ≤ 8192) : DvI (DevMath.Dev.new n) := ⟨h, (fun k l h => by cases h), (fun r h => by cases h), Int.le_refl _, by show (0 : Int) ≤ _; decide, by show (Lit.int .i64 0).wf = true; decide⟩
theorem ds_new (w : World) (n : Nat) (h1 : 1 ≤ n) (h2 : n ≤ 8192) : Calls Try.prog 14 #[.int .i64 n] w fun e w' => ∃ g, e = .returned (.tuple #[.pointer (some ⟨g, 0, none⟩), .int .i64 0]) ∧ DS w w' w.heap.size g (DevMath.Dev.new n) ∧ Below w.heap.size w w' := by
  refine (new_any w n h1 h2).mono ?_
  rintro e w1 ⟨rfl, h3, h4⟩
  exact ⟨_, rfl, ⟨_, _, _, h3, DvI.new n h2, by show ([] : List Int).length ≤ _; simp, h4, h4.size⟩, h4⟩
theorem write_keep (d : DevMath.Dev) (a : Int) (l : List UInt8) : (d.write a l).1.keep = d.keep := by
  unfold DevMath.Dev.write
  repeat (first | split | rfl | exact burn_keep d)
theorem DvI.write {d : DevMath.Dev} (h : DvI d) (a : Int) (l : List UInt8) : DvI (d.write a l).1 := by
  unfold DevMath.Dev.write
  split
  · exact h
  · split
    · exact h
    · rename_i hb
      split
      · exact h.burn
      · have hh : d.has a = true ∧ l.length = 512 := by
          constructor
          · cases e : d.has a
            · exact absurd (.inl e) hb
            · rfl
          · exact Decidable.byContradiction fun e => hb (.inr e)
        have h1 := h.burn
        refine ⟨h1.n1, h1.sf, fun r hr => ?_, h1.f0, h1.f1, h1.t0⟩
        rcases List.mem_append.1 hr with hr | hr
        · exact h1.cf r hr
        · simp at hr
          subst hr
          have h2 := hh.1
          simp [DevMath.Dev.has] at h2
          refine ⟨h2.1, ?_, hh.2⟩
          show a < ((d.burn).sectors : Int)
          rw [burn_sectors]; exact h2.2
theorem ds_write {w0 w : World} {B g : Nat} {d : DevMath.Dev} (h : DS w0 w B g d) (hcl : d.cache.length ≤ 1000000) (at_ : Int) {vb : Value} {l : List UInt8} (hs : Sl w vb l) (hl : l.length ≤ 1000000) :
    Calls Try.prog 15 #[.pointer (some ⟨g, 0, none⟩), .int .i64 at_, vb] w fun e w' => e = .returned (.int .i64 (d.write at_ l).2) ∧ DS w0 w' B g (d.write at_ l).1 ∧ TK w w' := by
  obtain ⟨m, vc, vk, h1, h2, h3, h4, h5⟩ := h
  refine (write_any w B g m vc vk d h1 h2 hcl h3 h5 at_ vb l hs hl).mono ?_
  rintro e w1 ⟨rfl, vc', _, h6, h7⟩
  exact ⟨rfl, DS.chg h1 h4 h5 h7 h6 (h2.write at_ l) (by rw [write_keep]; exact h3), TK.of_chg h1 h7⟩
theorem flush_keep (d : DevMath.Dev) : d.flush.1.keep = d.keep := by
  unfold DevMath.Dev.flush
  repeat (first | split | rfl | exact burn_keep d)
theorem DvI.flush {d : DevMath.Dev} (h : DvI d) : DvI d.flush.1 := by
  unfold DevMath.Dev.flush
  have h1 := h.burn
  split
  · exact h1
  · exact ⟨h1.n1, DevMath.Good.flushed _ h1.cf _ h1.sf, (fun r hr => by cases hr), h1.f0, h1.f1, h1.t0⟩
theorem ds_flush {w0 w : World} {B g : Nat} {d : DevMath.Dev} (h : DS w0 w B g d) (hcl : d.cache.length ≤ 1000000) :
    Calls Try.prog 17 #[.pointer (some ⟨g, 0, none⟩)] w fun e w' => e = .returned (.int .i64 d.flush.2) ∧ DS w0 w' B g d.flush.1 ∧ TK w w' := by
  obtain ⟨m, vc, vk, h1, h2, h3, h4, h5⟩ := h
  refine (flush_any w B g m vc vk d h1 h2 (by omega) (by omega)).mono ?_
  rintro e w1 ⟨rfl, vc', _, h6, h7⟩
  exact ⟨rfl, DS.chg h1 h4 h5 h7 h6 h2.flush (by rw [flush_keep]; exact h3), TK.of_chg h1 h7⟩
theorem ds_read {w0 w : World} {B g : Nat} {d : DevMath.Dev} (h : DS w0 w B g d) (hcl : d.cache.length ≤ 1000000) (at_ : Int) (wf : (Lit.int .i64 at_).wf = true) :
    Calls Try.prog 18 #[.pointer (some ⟨g, 0, none⟩), .int .i64 at_] w fun e w' => ∃ v, e = .returned (.tuple #[v, .int .i64 (d.read at_).2]) ∧ Sl w' v ((d.read at_).1.getD []) ∧ DS w0 w' B g d ∧ Below w.heap.size w w' := by
  have hd := h
  obtain ⟨m, vc, vk, h1, h2, h3, h4, h5⟩ := h
  refine (read_any w B g m vc vk d h1 h2 (by omega) at_ wf).mono ?_
  rintro e w1 ⟨v, rfl, h6, h7⟩
  exact ⟨v, rfl, h6, hd.below h7, h7⟩
theorem crash_keep (d : DevMath.Dev) (keep : List Int) (torn : Int) : (d.crash keep torn).keep = d.keep := by
  unfold DevMath.Dev.crash; split <;> rfl
theorem ds_crash {w0 w : World} {B g : Nat} {d : DevMath.Dev} (h : DS w0 w B g d) (hcl : d.cache.length ≤ 1000000) {kv : Value} {keep : List Int} (torn : Int) (hk : ∀ W, TK w W → Below B w0 W → IntR W kv keep) (hkl : keep.length ≤ 1000000) :
    Calls Try.prog 19 #[.pointer (some ⟨g, 0, none⟩), kv, .int .i64 torn] w fun e w' => e = .returned (.tuple #[]) ∧ DS w0 w' B g (d.crash keep torn) ∧ TK w w' := by
  obtain ⟨m, vc, vk, h1, h2, h3, h4, h5⟩ := h
  refine (crash_any w B g m vc vk d h1 h2 (by omega) kv keep torn (fun W hc => hk W (TK.of_chg h1 hc) (Chg.below h4 hc h5 (fun k hk => (h1.lt k hk).2))) (by omega)).mono ?_
  rintro e w1 ⟨rfl, h6, h7⟩
  exact ⟨rfl, DS.chg h1 h4 h5 h7 h6 (h2.crash keep torn) (by rw [crash_keep]; exact h3), TK.of_chg h1 h7⟩
theorem ds_on {w0 w : World} {B g : Nat} {d : DevMath.Dev} (h : DS w0 w B g d) :
    Calls Try.prog 20 #[.pointer (some ⟨g, 0, none⟩)] w fun e w' => e = .returned (.tuple #[]) ∧ DS w0 w' B g { d with off := false } ∧ TK w w' := by
  obtain ⟨m, vc, vk, h1, h2, h3, h4, h5⟩ := h
  refine (on_any w B g m vc vk d h1).mono ?_
  rintro e w1 ⟨rfl, h6, h7⟩
  exact ⟨rfl, DS.chg h1 h4 h5 h7 h6 ⟨h2.n1, h2.sf, h2.cf, h2.f0, h2.f1, h2.t0⟩ h3, TK.of_chg h1 h7⟩
theorem ds_fuse {w0 w : World} {B g : Nat} {d : DevMath.Dev} (h : DS w0 w B g d) (calls torn : Int) (wf : (Lit.int .i64 calls).wf = true) (wt : (Lit.int .i64 torn).wf = true) {kv : Value} {keep : List Int} (hk : IntR w kv keep) (hkl : keep.length ≤ 1000000) :
    Calls Try.prog 22 #[.pointer (some ⟨g, 0, none⟩), .int .i64 calls, kv, .int .i64 torn] w fun e w' => e = .returned (.tuple #[]) ∧ DS w0 w' B g (d.fused calls keep torn) ∧ TK w w' := by
  obtain ⟨m, vc, vk, h1, h2, h3, h4, h5⟩ := h
  refine (fuse_any w B g m vc vk d h1 calls torn kv keep hk (by omega)).mono ?_
  rintro e w1 ⟨rfl, vk', h6, h7⟩
  have h8 : Chg (Own g m vc) w w1 := h7.imp fun k hk => .inl hk
  refine ⟨rfl, DS.chg h1 h4 h5 h8 h6 (h2.fused calls keep torn wf wt) ?_, TK.of_chg h1 h8⟩
  unfold DevMath.Dev.fused
  split
  · exact h3
  · exact hkl
theorem ds_off {w0 w : World} {B g : Nat} {d : DevMath.Dev} (h : DS w0 w B g d) : Calls Try.prog 23 #[.pointer (some ⟨g, 0, none⟩)] w fun e w' => e = .returned (.bool d.off) ∧ w' = w := by
  obtain ⟨m, vc, vk, h1, _⟩ := h
  exact off_any w B g m vc vk d h1
theorem ds_unsafe {w0 w : World} {B g : Nat} {d : DevMath.Dev} (h : DS w0 w B g d) : Calls Try.prog 21 #[.pointer (some ⟨g, 0, none⟩)] w fun e w' => e = .returned (.int .i64 d.cache.length) ∧ w' = w := by
  obtain ⟨m, vc, vk, h1, _⟩ := h
  exact unsafe_any w B g m vc vk d h1
theorem ds_sectors {w0 w : World} {B g : Nat} {d : DevMath.Dev} (h : DS w0 w B g d) : Calls Try.prog 24 #[.pointer (some ⟨g, 0, none⟩)] w fun e w' => e = .returned (.int .i64 d.sectors) ∧ w' = w := by
  obtain ⟨m, vc, vk, h1, _⟩ := h
  exact sectors_any w B g m vc vk d h1
end Go.Proofs.Ytbpecfbliglboaa
namespace DevMath
def sec (c : UInt8) : List UInt8 := List.replicate 512 c
theorem sec_len (c : UInt8) : (sec c).length = 512 := List.length_replicate
theorem lastOf_snoc (k a : Int) (rs : List (Int × List UInt8)) (l : List UInt8) : lastOf k (rs ++ [(a, l)]) = if a = k then some l else lastOf k rs := by
  induction rs with
  | nil => simp [lastOf]
  | cons r rs ih =>
    rw [List.cons_append, lastOf, ih, lastOf]
    by_cases e : a = k
    · rw [if_pos e, if_pos e]
    · rw [if_neg e, if_neg e]
theorem flushed_last (k : Int) (rs : List (Int × List UInt8)) (f : Int → Option (List UInt8)) : flushed f rs k = (match lastOf k rs with | some l => some l | none => f k) := by
  induction rs generalizing f with
  | nil => rfl
  | cons r rs ih =>
    rw [flushed, ih, lastOf]
    cases lastOf k rs with
    | some l => rfl
    | none =>
      by_cases e : r.1 = k
      · simp only [e, if_true]
        show (if k = k then some r.2 else f k) = some r.2
        rw [if_pos rfl]
      · simp only [e, if_false]
        show (if k = r.1 then some r.2 else f k) = f k
        rw [if_neg (fun h => e h.symm)]
/-- what is read of a sector -/
def Dev.val (d : Dev) (k : Int) : List UInt8 := (lastOf k d.cache).getD (d.sector k)
theorem read_val (d : Dev) (k : Int) (h : d.off = false) (hh : d.has k = true) : d.read k = (some (d.val k), 0) := by
  unfold Dev.read
  rw [if_neg (by rw [h]; decide), if_neg (by rw [hh]; decide)]
  rfl
theorem burn_plain (d : Dev) (h : d.fuse = 0) : d.burn = d := by
  unfold Dev.burn
  rw [if_neg (by omega)]
theorem write_plain (d : Dev) (a : Int) (l : List UInt8) (h : d.off = false) (hf : d.fuse = 0) (hh : d.has a = true) (hl : l.length = 512) : d.write a l = ({ d with cache := d.cache ++ [(a, l)] }, 0) := by
  unfold Dev.write
  rw [if_neg (by rw [h]; decide), if_neg (by rw [hh, hl]; decide), burn_plain d hf, if_neg (by rw [h]; decide)]
theorem flush_plain (d : Dev) (h : d.off = false) (hf : d.fuse = 0) : d.flush = ({ d with safe := flushed d.safe d.cache, cache := [] }, 0) := by
  unfold Dev.flush
  rw [burn_plain d hf, if_neg (by rw [h]; decide)]
theorem val_write (d : Dev) (a k : Int) (l : List UInt8) : ({ d with cache := d.cache ++ [(a, l)] } : Dev).val k = if a = k then l else d.val k := by
  unfold Dev.val
  show (lastOf k (d.cache ++ [(a, l)])).getD (d.sector k) = _
  rw [lastOf_snoc]
  split
  · rfl
  · rfl
theorem val_flush (d : Dev) (k : Int) : ({ d with safe := flushed d.safe d.cache, cache := [] } : Dev).val k = d.val k := by
  unfold Dev.val Dev.sector
  show (flushed d.safe d.cache k).getD zeros = _
  rw [flushed_last]
  cases lastOf k d.cache <;> rfl
theorem val_len (d : Dev) (hs : ∀ k l, d.safe k = some l → l.length = 512) (hc : ∀ r ∈ d.cache, r.2.length = 512) (k : Int) : (d.val k).length = 512 := by
  have h1 : ∀ rs : List (Int × List UInt8), (∀ r ∈ rs, r.2.length = 512) → ∀ l, lastOf k rs = some l → l.length = 512 := by
    intro rs
    induction rs with
    | nil => intro _ l h; cases h
    | cons r rs ih =>
      intro hr l h
      rw [lastOf] at h
      cases e : lastOf k rs with
      | some l' =>
        rw [e] at h
        injection h with h
        subst h
        exact ih (fun r hr' => hr r (List.mem_cons_of_mem _ hr')) _ e
      | none =>
        rw [e] at h
        by_cases e2 : r.1 = k
        · simp [e2] at h
          subst h
          exact hr r (List.mem_cons_self ..)
        · simp [e2] at h
  unfold Dev.val Dev.sector
  cases e : lastOf k d.cache with
  | some l => exact h1 _ hc _ e
  | none =>
    cases e2 : d.safe k with
    | some l => exact hs k l e2
    | none => exact List.length_replicate
end DevMath
