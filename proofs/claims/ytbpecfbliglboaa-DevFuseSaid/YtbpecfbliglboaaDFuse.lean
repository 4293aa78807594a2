/- The law DevFuse: the plain part, and the region of two writes. -/
import Derived.Test.YtbpecfbliglboaaDD
namespace DevMath
/-- a has a fuse, b falls where it blows -/
structure Tw (a b : Dev) (keep : List Int) (torn r : Int) (k : Nat) : Prop where
  sa : a.sectors = 8
  sb : b.sectors = 8
  safe : a.safe = b.safe
  cache : a.cache = b.cache
  ca : a.cache.length ≤ k
  fb : b.fuse = 0
  st : (0 < r ∧ a.off = false ∧ b.off = false ∧ a.fuse = r ∧ a.keep = keep ∧ a.torn = torn) ∨ (r ≤ 0 ∧ a.off = true ∧ b.off = true)
def fallen (b : Dev) (keep : List Int) (torn r : Int) : Dev := if r = 1 then b.crash keep torn else b
theorem crash_on (a : Dev) (keep : List Int) (torn : Int) (h : a.off = false) : a.crash keep torn = { a with safe := crashed keep torn 0 a.safe a.cache, cache := [], off := true, fuse := 0 } := by
  unfold Dev.crash
  rw [if_neg (by rw [h]; decide)]
theorem burn_off (a : Dev) (h : a.off = true) : a.burn = a := by
  unfold Dev.burn
  rw [if_neg (by rw [h]; simp)]
theorem write_off (a : Dev) (j : Int) (l : List UInt8) (h : a.off = true) : a.write j l = (a, 7) := by
  unfold Dev.write
  rw [if_pos h]
theorem flush_off (a : Dev) (h : a.off = true) : a.flush = (a, 7) := by
  unfold Dev.flush
  rw [burn_off a h, if_pos h]
theorem has8 {a : Dev} (h : a.sectors = 8) (j : Nat) (hj : j < 8) : a.has j = true := by
  simp [Dev.has, h]; omega
theorem Tw.write {a b : Dev} {keep : List Int} {torn r : Int} {k : Nat} (h : Tw a b keep torn r k) (j : Nat) (hj : j < 8) (c : UInt8) :
    ∃ a1 b1, a.write j (sec c) = (a1, if r ≤ 1 then 7 else 0) ∧ (fallen b keep torn r).write j (sec c) = (b1, if r ≤ 1 then 7 else 0) ∧ Tw a1 b1 keep torn (r - 1) (k + 1) ∧ a1.off = decide (r ≤ 1) ∧ b1.off = decide (r ≤ 1) := by
  obtain ⟨h1, h2, h3, h4, h5, h6, h7⟩ := h
  rcases h7 with ⟨r0, oa, ob, fa, ka, ta⟩ | ⟨r0, oa, ob⟩
  · by_cases hr : r = 1
    · rw [if_pos (by omega), fallen, if_pos hr, crash_on b keep torn ob]
      have hb : a.burn = { a with safe := crashed keep torn 0 a.safe a.cache, cache := [], off := true, fuse := 0 } := by
        unfold Dev.burn
        rw [if_pos ⟨by omega, oa⟩, if_pos (by omega), crash_on _ _ _ (by exact oa), ka, ta]
      have hw : a.write j (sec c) = (a.burn, 7) := by
        unfold Dev.write
        rw [if_neg (by rw [oa]; decide), if_neg (by rw [has8 h1 j hj, sec_len]; decide), if_pos (by rw [hb])]
      refine ⟨_, _, hw, rfl, ?_, by rw [hb]; simp; omega, by simp; omega⟩
      rw [hb]
      exact ⟨h1, h2, by show crashed keep torn 0 a.safe a.cache = crashed keep torn 0 b.safe b.cache; rw [h3, h4], rfl, Nat.zero_le _, rfl, .inr ⟨by omega, rfl, rfl⟩⟩
    · rw [if_neg (by omega), fallen, if_neg hr]
      have hb : a.burn = { a with fuse := a.fuse - 1 } := by
        unfold Dev.burn
        rw [if_pos ⟨by omega, oa⟩, if_neg (by omega)]
      have hw : a.write j (sec c) = ({ a.burn with cache := a.burn.cache ++ [((j : Int), sec c)] }, 0) := by
        unfold Dev.write
        rw [if_neg (by rw [oa]; decide), if_neg (by rw [has8 h1 j hj, sec_len]; decide), if_neg (by rw [hb]; show ¬ a.off = true; rw [oa]; decide)]
      refine ⟨_, _, hw, write_plain b j _ ob h6 (has8 h2 j hj) (sec_len c), ?_, ?_, ?_⟩
      · rw [hb]
        refine ⟨h1, h2, h3, by show a.cache ++ _ = b.cache ++ _; rw [h4], ?_, h6, .inl ⟨by omega, oa, ob, by show a.fuse - 1 = _; omega, ka, ta⟩⟩
        show (a.cache ++ [((j : Int), sec c)]).length ≤ k + 1
        rw [List.length_append]; simp only [List.length_cons, List.length_nil]; omega
      · rw [hb]; show a.off = _; rw [oa]; simp; omega
      · show b.off = _; rw [ob]; simp; omega
  · rw [if_pos (by omega), fallen, if_neg (by omega)]
    refine ⟨_, _, write_off a _ _ oa, write_off b _ _ ob, ⟨h1, h2, h3, h4, by omega, h6, .inr ⟨by omega, oa, ob⟩⟩, by rw [oa]; simp; omega, by rw [ob]; simp; omega⟩
theorem Tw.flush {a b : Dev} {keep : List Int} {torn r : Int} {k : Nat} (h : Tw a b keep torn r k) :
    ∃ a1 b1, a.flush = (a1, if r ≤ 1 then 7 else 0) ∧ (fallen b keep torn r).flush = (b1, if r ≤ 1 then 7 else 0) ∧ Tw a1 b1 keep torn (r - 1) (k + 1) ∧ a1.off = decide (r ≤ 1) ∧ b1.off = decide (r ≤ 1) := by
  obtain ⟨h1, h2, h3, h4, h5, h6, h7⟩ := h
  rcases h7 with ⟨r0, oa, ob, fa, ka, ta⟩ | ⟨r0, oa, ob⟩
  · by_cases hr : r = 1
    · rw [if_pos (by omega), fallen, if_pos hr, crash_on b keep torn ob]
      have hb : a.burn = { a with safe := crashed keep torn 0 a.safe a.cache, cache := [], off := true, fuse := 0 } := by
        unfold Dev.burn
        rw [if_pos ⟨by omega, oa⟩, if_pos (by omega), crash_on _ _ _ (by exact oa), ka, ta]
      have hw : a.flush = (a.burn, 7) := by
        unfold Dev.flush
        rw [if_pos (by rw [hb])]
      refine ⟨_, _, hw, flush_off _ rfl, ?_, by rw [hb]; simp; omega, by simp; omega⟩
      rw [hb]
      exact ⟨h1, h2, by show crashed keep torn 0 a.safe a.cache = crashed keep torn 0 b.safe b.cache; rw [h3, h4], rfl, Nat.zero_le _, rfl, .inr ⟨by omega, rfl, rfl⟩⟩
    · rw [if_neg (by omega), fallen, if_neg hr]
      have hb : a.burn = { a with fuse := a.fuse - 1 } := by
        unfold Dev.burn
        rw [if_pos ⟨by omega, oa⟩, if_neg (by omega)]
      have hw : a.flush = ({ a.burn with safe := flushed a.burn.safe a.burn.cache, cache := [] }, 0) := by
        unfold Dev.flush
        rw [if_neg (by rw [hb]; show ¬ a.off = true; rw [oa]; decide)]
      refine ⟨_, _, hw, flush_plain b ob h6, ?_, ?_, ?_⟩
      · rw [hb]
        exact ⟨h1, h2, by show flushed a.safe a.cache = flushed b.safe b.cache; rw [h3, h4], rfl, Nat.zero_le _, h6, .inl ⟨by omega, oa, ob, by show a.fuse - 1 = _; omega, ka, ta⟩⟩
      · rw [hb]; show a.off = _; rw [oa]; simp; omega
      · show b.off = _; rw [ob]; simp; omega
  · rw [if_pos (by omega), fallen, if_neg (by omega)]
    exact ⟨_, _, flush_off a oa, flush_off b ob, ⟨h1, h2, h3, h4, by omega, h6, .inr ⟨by omega, oa, ob⟩⟩, by rw [oa]; simp; omega, by rw [ob]; simp; omega⟩
theorem fallen_cache (b : Dev) (keep : List Int) (torn r : Int) : (fallen b keep torn r).cache.length ≤ b.cache.length := by
  unfold fallen Dev.crash
  repeat (first | split | exact Nat.le_refl _ | exact Nat.zero_le _)
/-- both on again: they read alike -/
theorem Tw.val {a b : Dev} {keep : List Int} {torn r : Int} {k : Nat} (h : Tw a b keep torn r k) (j : Int) : ({ a with off := false } : Dev).val j = ({ b with off := false } : Dev).val j := by
  show (lastOf j a.cache).getD ((a.safe j).getD zeros) = (lastOf j b.cache).getD ((b.safe j).getD zeros)
  rw [h.safe, h.cache]
end DevMath
namespace Go.Proofs.Ytbpecfbliglboaa
open Go.RowKit Go.Maps
set_option linter.unusedVariables false
set_option linter.unusedSimpArgs false
/-- what stays while devices turn -/
def TB (B : Nat) (W W' : World) : Prop := TK W W' ∧ Below B W W'
theorem TB.refl (B : Nat) (W : World) : TB B W W := ⟨TK.refl W, Below.refl _ _⟩
theorem TB.trans {B : Nat} (a b c : World) (h : TB B a b) (k : TB B b c) : TB B a c := ⟨h.1.trans k.1, h.2.trans k.2⟩
theorem TB.of_below {B : Nat} {W W' : World} (h : Below W.heap.size W W') (hB : B ≤ W.heap.size) : TB B W W' := ⟨TK.of_below h, h.mono hB⟩
def slS (B n : Nat) (l : List UInt8) : Stg.SpS (TB B) := .rel (fun v => ∃ A c, v = .slice A n c ∧ n ≤ c) (fun v W => Sl W v l) ⟨_, none, _, rfl, Nat.le_refl _⟩ (fun _ _ _ h hg => hg.1.sl h)
def fuJ (w1 : World) (B ga gb : Nat) (a0 b0 a1 b1 : DevMath.Dev) : Nat → World → Prop
  | 0 => fun W => DD w1 W B ga gb a0 b0
  | 1 => fun W => DD w1 W B ga gb a0 b0
  | 2 => fun W => DD w1 W B ga gb a1 b0
  | 3 => fun W => DD w1 W B ga gb a1 b0
  | _ => fun W => DD w1 W B ga gb a1 b1
def fuTbl (B : Nat) (c : UInt8) (e : Int) : Nat → Option (Stg.SpS (TB B))
  | 12 => some (slS B 512 (DevMath.sec c))
  | 13 => some (.val (.int .i64 e))
  | 26 => some (slS B 512 (DevMath.sec c))
  | 27 => some (.val (.int .i64 e))
  | _ => none
theorem fuTbl_ks (B : Nat) (c : UInt8) (e : Int) : ∀ i, (fuTbl B c e i).isSome = [12, 13, 26, 27].contains i := by
  intro i
  unfold fuTbl
  split
  · rfl
  · rfl
  · rfl
  · rfl
  · rename_i h1 h2 h3 h4
    simp only [List.contains_eq_mem, List.mem_cons, List.not_mem_nil, or_false]
    symm
    show decide (i = 12 ∨ i = 13 ∨ i = 26 ∨ i = 27) = false
    rw [decide_eq_false_iff_not]
    rintro (h | h | h | h)
    · exact h1 h
    · exact h2 h
    · exact h3 h
    · exact h4 h
theorem sect_dd {w1 W : World} {B ga gb : Nat} {da db : DevMath.Dev} (h : DD w1 W B ga gb da db) (c : UInt8) :
    Calls Try.prog 16 #[.int .u8 (c.toNat : Int)] W fun e w' => ∃ v, e = .returned v ∧ TB B W w' ∧ ((∃ A c, v = .slice A 512 c ∧ 512 ≤ c) ∧ Sl w' v (DevMath.sec c)) ∧ DD w1 w' B ga gb da db := by
  refine (sect_num W _ c rfl).mono ?_
  rintro e w1 ⟨A, k, rfl, hk, hs, hb⟩
  exact ⟨_, rfl, TB.of_below hb h.sz, ⟨⟨A, k, rfl, hk⟩, hs⟩, h.below hb⟩
theorem write_dd {w1 W : World} {B ga gb : Nat} {da db d1 : DevMath.Dev} {e : Int} (h : DD w1 W B ga gb da db) (hcl : da.cache.length ≤ 1000000) (q : Int) {c : UInt8} {A : Option Addr} {k : Nat} (hs : Sl W (.slice A 512 k) (DevMath.sec c)) (hw : da.write q (DevMath.sec c) = (d1, e)) :
    Calls Try.prog 15 #[.pointer (some ⟨ga, 0, none⟩), .int .i64 q, .slice A 512 k] W fun e1 w' => ∃ v, e1 = .returned v ∧ TB B W w' ∧ v = .int .i64 e ∧ DD w1 w' B ga gb d1 db := by
  have hl : ∀ w', DD w1 w' B ga gb d1 db → Below B w1 w' := fun w' h => h.bel
  obtain ⟨m, vc, vk, h1, h2, h3, h4, h5⟩ := h.step
  refine (write_any W B ga m vc vk da h1 h2 hcl h3 h.sz q _ _ hs (by rw [DevMath.sec_len]; decide)).mono ?_
  rintro e1 w2 ⟨rfl, vc', hf, h6, h7⟩
  rw [hw] at h6
  refine ⟨_, rfl, ⟨(h4 _ h7).1, (Below.refl B W).trans ⟨h7.os, h7.tape, h7.output, h7.size, fun k hk => h7.block k (Nat.lt_of_lt_of_le hk h.sz) (fun hs => absurd (h1.lt k hs).2 (by omega))⟩⟩, by rw [hw], ?_⟩
  have hi := h2.write q (DevMath.sec c)
  have hk := write_keep da q (DevMath.sec c)
  rw [hw] at hi hk
  exact h5 _ _ _ _ h7 h6 hf hi (by rw [hk]; exact h3)
theorem dd_read8 {w0 w : World} {B ga gb : Nat} {da db : DevMath.Dev} (h : DD w0 w B ga gb da db) (hC : da.off = false ∧ da.sectors = 8 ∧ da.cache.length ≤ 1000000) (p : Nat) (hp : p < 8) :
    Calls Try.prog 18 #[.pointer (some ⟨ga, 0, none⟩), .int .i64 p] w fun e w' => ∃ A c, e = .returned (.tuple #[.slice A 512 c, .int .i64 0]) ∧ Sl w' (.slice A 512 c) (da.val p) ∧ 512 ≤ c ∧ DD w0 w' B ga gb da db ∧ Below w.heap.size w w' := by
  have hcon := ds_read h.fst hC.2.2 p (by simp [Lit.wf, IntKind.min, IntKind.max, IntKind.signed, IntKind.bits]; omega)
  rw [DevMath.read_val _ _ hC.1 (DevMath.has8 hC.2.1 p hp)] at hcon
  refine hcon.mono ?_
  rintro e w1 ⟨v, rfl, h1, h2, h3⟩
  have h1' : Sl w1 v (da.val p) := h1
  obtain ⟨A, c, rfl, h4, h5⟩ := h1'.rd
  rw [h.fst.vlen] at h1' h4
  exact ⟨A, c, by rw [h.fst.vlen], h1', h4, h.below h3, h3⟩
end Go.Proofs.Ytbpecfbliglboaa
