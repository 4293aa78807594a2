/- Bytes that are appended to a row of the call's own; numbers. -/
import Derived.Test.YtgaccogekmaijaaKvPut
import Derived.Test.YtgaccogekmaijaaRelApp
import Derived.Test.YtgaccogekmaijaaKvCommit
import Derived.Lib.AppendStr
import Derived.Lib.AppendZeros
namespace KvMath
def numB (n size : Nat) : List UInt8 := (List.range size).map fun j => UInt8.ofNat (n / 2 ^ (8 * (size - 1 - j)))
theorem numB_len (n size : Nat) : (numB n size).length = size := by simp [numB]
theorem numB_succ (n size j : Nat) (h : j < size) : (numB n size).take (j + 1) = (numB n size).take j ++ [UInt8.ofNat (n / 2 ^ (8 * (size - 1 - j)))] := by
  rw [List.take_add_one, List.getElem?_eq_getElem (by rw [numB_len]; exact h)]
  simp [numB]
end KvMath
namespace Go.Proofs.Ytgaccogekmaijaa
open Go.RowKit
set_option linter.unusedVariables false
set_option linter.unusedSimpArgs false
/-- what is below base stays, and blocks that are no rows of bytes, and rows of one byte -/
def TS (base : Nat) (w w' : World) : Prop := Below base w w' ∧ ∀ (k : Nat) cs (t : Nat) fr, (t ≠ 5 ∨ cs.size ≤ 1) → w.heap[k]? = some (.cells cs t fr) → w'.heap[k]? = some (.cells cs t fr)
theorem TS.refl (base : Nat) (w : World) : TS base w w := ⟨Below.refl _ _, fun _ _ _ _ _ h => h⟩
theorem TS.trans {base : Nat} (a b c : World) (h : TS base a b) (k : TS base b c) : TS base a c := ⟨h.1.trans k.1, fun i cs t fr h1 h3 => k.2 i cs t fr h1 (h.2 i cs t fr h1 h3)⟩
def Gs (base : Nat) (W W' : World) : Prop := Below W.heap.size W W' ∧ base ≤ W.heap.size
theorem Gs.ts {base : Nat} (W W' : World) (h : Gs base W W') : TS base W W' := ⟨h.1.mono h.2, fun k _ _ _ _ h3 => (h.1.block k (Array.getElem?_eq_some_iff.1 h3).1).trans h3⟩
theorem TS.of_grown {base g : Nat} {w w' : World} {cur : Array Value} (hg : w.grownBy w' (some g)) (hb : base ≤ g) (hB : base ≤ w.heap.size) (hh : w.heap[g]? = some (.cells cur 5)) (h2 : 2 ≤ cur.size) : TS base w w' := by
  refine ⟨⟨hg.os, hg.tape, hg.output, hg.size, fun k hk => hg.block k (Nat.lt_of_lt_of_le hk hB) (fun e => by injection e with e; omega)⟩, fun k cs t fr hc hk => (hg.block k (Array.getElem?_eq_some_iff.1 hk).1 (fun e => ?_)).trans hk⟩
  injection e with e
  subst e
  rw [hh] at hk
  injection hk with hk
  injection hk with e1 e2 e3
  subst e1
  rcases hc with h | h
  · exact h e2.symm
  · omega
theorem info_u8b : (Try.prog.info? 5).map (fun i => (i.zero, i.size, i.bytes)) = some (some (.int .u8 0), 1, 1) := by kernel_rfl
theorem spl_nil (pos : Nat) (cur : Array Value) : spl pos [] cur = cur := by
  apply Array.ext'
  simp [spl]
theorem appb_run {W : World} {base m c : Nat} {v : Value} {l news : List UInt8} {A : Option Addr} (HO : Ob W base 5 v l) (hz : l = [] → v = .slice none 0 0) (HR : Rd W A news) (hm : m = news.length) (hB : base ≤ W.heap.size) (hlen : l.length + news.length ≤ 1000000000) :
    ∃ v' W', (Builtin.append_ #[32, 32] 32 #[v, .slice A m c]).run Try.prog W = .ok v' W' ∧ Ob W' base 5 v' (l ++ news) ∧ TS base W W' := by
  subst hm
  obtain ⟨i0, hi, hzz⟩ := Option.map_eq_some_iff.1 info_u8b
  simp only [Prod.mk.injEq] at hzz
  obtain ⟨v1, W', hr, h2, h3⟩ := append_dicho (P := Try.prog) W base 32 32 5 i0 (.int .u8 0) 1 1 Try.underlying32 hi hzz.1 hzz.2.1 hzz.2.2 rfl (by decide) (by decide) v l.length (bvl l) HO A news.length c (bvl news) (by rw [bvl_length]; omega) (Src.of_rd HR) (bvl_one news) (by omega) hB
  refine ⟨v1, W', hr, by unfold Ob; rw [bvl_append, List.length_append]; exact h2, ?_⟩
  rcases h3 with ⟨g, cur, q1, q2, q3, q4, q5, q6⟩ | ⟨q1, _⟩
  · have hb : base ≤ g := (HO.lt g q1).1
    rw [bvl_length] at q4
    by_cases hs : 2 ≤ cur.size
    · exact TS.of_grown q6 hb hB q3 hs
    · have hl1 : l ≠ [] := fun e => by rw [hz e] at q1; cases q1
      have hl : 1 ≤ l.length := by
        cases l with
        | nil => exact absurd rfl hl1
        | cons x l => simp
      have hn : news = [] := List.eq_nil_of_length_eq_zero (by omega)
      subst hn
      have hsame : W'.heap[g]? = W.heap[g]? := by
        rw [q5, q3]
        show some (Obj.cells (spl _ [] cur) _ _) = _
        rw [spl_nil]
      refine ⟨⟨q6.os, q6.tape, q6.output, q6.size, fun k hk => q6.block k (Nat.lt_of_lt_of_le hk hB) (fun e => by injection e with e; omega)⟩, fun k cs t fr _ hk => ?_⟩
      by_cases e : k = g
      · subst e
        rw [hsame]; exact hk
      · exact (q6.block k (Array.getElem?_eq_some_iff.1 hk).1 (fun e' => e (by injection e'))).trans hk
  · exact Gs.ts _ _ ⟨q1, hB⟩
theorem strCells_bvl (s : ByteArray) : Lib.strCells s = bvl s.data.toList := by
  simp [Lib.strCells, bvl]
theorem apps_run {W : World} {base : Nat} {v : Value} {l : List UInt8} {s : ByteArray} (HO : Ob W base 5 v l) (hl : 1 ≤ l.length) (hB : base ≤ W.heap.size) (hlen : l.length + s.size ≤ 1000000000) :
    ∃ v' W', (Builtin.append_ #[32, 9] 32 #[v, .string s]).run Try.prog W = .ok v' W' ∧ Ob W' base 5 v' (l ++ s.data.toList) ∧ TS base W W' := by
  obtain ⟨i0, hi, hzz⟩ := Option.map_eq_some_iff.1 info_u8b
  simp only [Prod.mk.injEq] at hzz
  have hsz : s.data.toList.length = s.size := by rw [Array.length_toList]; rfl
  have hob : ∀ (W' : World) (v' : Value), W'.ownsRow base 5 1 v' (l.length + s.size) (bvl l ++ Lib.strCells s) → Ob W' base 5 v' (l ++ s.data.toList) := fun W' v' h => by
    unfold Ob
    rw [bvl_append, List.length_append, hsz, ← strCells_bvl]
    exact h
  rcases HO.2 with ⟨rfl, h0⟩ | ⟨g, cap, cur, rfl, hb, hh, hc, hm, hs, htk⟩
  · omega
  · obtain ⟨v1, W', hr, h2, h3, _⟩ := Lib.run_append_own_string (P := Try.prog) (w := W) base 32 9 32 5 i0 Try.underlying32 Try.underlying9 hi hzz.1 hzz.2.1 hzz.2.2 _ l.length (bvl l) HO s (by simp only [maxLen]; omega) (by omega) hB
    have h3 : W.grownBy W' (some g) := h3
    by_cases h2s : 2 ≤ cur.size
    · exact ⟨v1, W', hr, hob _ _ h2, TS.of_grown h3 hb hB hh h2s⟩
    · have hcap : cap = 1 := by omega
      have hl1 : l.length = 1 := by omega
      by_cases hs0 : s.size = 0
      · have hroom := Lib.run_append_room_string (P := Try.prog) (w := W) 32 9 32 5 i0 Try.underlying32 Try.underlying9 hi hzz.2.1 g l.length cap cur hh s (by omega) (by omega)
        have hsc : Lib.strCells s = [] := List.eq_nil_of_length_eq_zero (by rw [Lib.strCells_length]; exact hs0)
        have hcur : (cur.toList.take l.length ++ Lib.strCells s ++ cur.toList.drop (l.length + s.size)).toArray = cur := by
          rw [hsc, hs0]
          apply Array.ext'
          simp
        rw [hcur] at hroom
        have hw : (W.setRow g cur).heap[g]? = some (.cells cur 5) := setRow_heap W g cur _ 5 _ hh
        rw [hr] at hroom
        injection hroom with e1 e2
        subst e2
        refine ⟨v1, _, hr, hob _ _ h2, ⟨h3.os, h3.tape, h3.output, h3.size, fun k hk => h3.block k (Nat.lt_of_lt_of_le hk hB) (fun e => by injection e with e; omega)⟩, fun k cs t fr _ hk => ?_⟩
        by_cases e : k = g
        · subst e
          rw [hw]
          rw [hh] at hk
          exact hk
        · exact (h3.block k (Array.getElem?_eq_some_iff.1 hk).1 (fun e' => e (by injection e'))).trans hk
      · have holds : ∀ (j : Nat) (u : Value), (bvl l)[j]? = some u → W.cell? ((⟨g, 0, none⟩ : Addr).add j) = some u := World.ownsRow.cells (g := g) HO rfl
        have hgrow := Lib.run_append_grow_string (P := Try.prog) (w := W) 32 9 32 5 i0 (.int .u8 0) Try.underlying32 Try.underlying9 hi hzz.1 ⟨g, 0, none⟩ l.length cap (bvl l) (by rw [hzz.2.1, bvl_length]; omega) holds s (by omega) (by omega) (by rw [hzz.2.2]; exact growslice_fits (by omega) (by omega))
        rw [hr] at hgrow
        injection hgrow with e1 e2
        subst e2
        exact ⟨v1, _, hr, hob _ _ h2, Gs.ts _ _ ⟨(Below.drew (Below.refl _ W)).alloc (Nat.le_refl _) _, hB⟩⟩
end Go.Proofs.Ytgaccogekmaijaa
namespace Go.Proofs.Ytgaccogekmaijaa
open Go.RowKit
set_option linter.unusedVariables false
set_option linter.unusedSimpArgs false
set_option maxRecDepth 20000 in
set_option maxHeartbeats 2000000 in
theorem kv_number (w : World) (base : Nat) (v : Value) (b : List UInt8) (n size : Nat) (HO : Ob w base 5 v b) (hb : 1 ≤ b.length) (hB : base ≤ w.heap.size) (hn : n ≤ 1000000) (hs : size ≤ 4) (hlen : b.length ≤ 900000000) :
    Calls Try.prog 33 #[v, .int .i64 n, .int .i64 size] w fun e w' => ∃ v', e = .returned v' ∧ Ob w' base 5 v' (b ++ KvMath.numB n size) ∧ TS base w w' := by
  obtain ⟨A, c, rfl, hc, _⟩ := HO.rd
  obtain ⟨bl, hbl⟩ : ∃ bl, bl = b.length := ⟨_, rfl⟩
  rw [← hbl] at HO hc ⊢
  have HOh := Lib.hid HO; have HBL := Lib.hid hbl
  have hw1 : IntKind.i64.wrap ((size : Int) - 1) = (size : Int) - 1 := by rw [IntKind.wrap_i64]; omega
  clear HO hbl
  go_enter Try.func33, Try.ntmps33
  go_wp2
  go_loopw [0, 7] (fun vb i wr => ∃ j : Nat, j ≤ size ∧ i = .int .i64 ((size : Int) - 1 - j) ∧ Ob wr base 5 vb (b ++ (KvMath.numB n size).take j) ∧ TS base w wr) (fun _ i _ => (intOf i + 1).toNat)
  case atStart => exact ⟨0, by omega, by simp, by simpa using HOh.out, TS.refl _ _⟩
  case round =>
    obtain ⟨j, hj, rfl, ho, hts⟩ := hrel
    obtain ⟨iv, hiv⟩ : ∃ iv : Int, iv = (size : Int) - 1 - j := ⟨_, rfl⟩
    rw [← hiv]
    have HIV := Lib.hid hiv
    by_cases hlt : j < size
    · have hi0 : 0 ≤ iv := by omega
      have hi4 : iv ≤ 3 := by omega
      have hw8 : IntKind.i64.wrap (8 * iv) = 8 * iv := by rw [IntKind.wrap_i64]; omega
      have hwi : IntKind.i64.wrap (iv - 1) = iv - 1 := by rw [IntKind.wrap_i64]; omega
      have hs0 : 0 ≤ 8 * iv := by omega
      have hs1 : 8 * iv ≤ 64 := by omega
      obtain ⟨sh, hsh⟩ : ∃ sh : Nat, (8 * iv).toNat = sh := ⟨_, rfl⟩
      have hsk : sh = 8 * (size - 1 - j) := by omega
      obtain ⟨byte, hby⟩ : ∃ byte, byte = UInt8.ofNat (n / 2 ^ (8 * (size - 1 - j))) := ⟨_, rfl⟩
      have hcv : IntKind.u8.wrap ((n : Int) / 2 ^ sh) = (byte.toNat : Int) := by
        rw [hby, hsk]
        have e : (UInt8.ofNat (n / 2 ^ (8 * (size - 1 - j)))).toNat = (n / 2 ^ (8 * (size - 1 - j))) % 256 := rfl
        rw [e, IntKind.wrap_u8]
        push_cast
        rfl
      have hsucc := KvMath.numB_succ n size j hlt
      rw [← hby] at hsucc
      obtain ⟨W1, hW1⟩ : ∃ W1, W1 = wr.alloc (.cells #[.int .u8 (byte.toNat : Int)] 5) := ⟨_, rfl⟩
      have hb1 : Below wr.heap.size wr W1 := by rw [hW1]; exact (Below.refl _ wr).alloc (Nat.le_refl _) _
      have hBr : base ≤ wr.heap.size := Nat.le_trans hB hts.1.size
      have hrd : Rd W1 (some ⟨wr.heap.size, 0, none⟩) [byte] := Rd.of_block (t := 5) (fr := (0, 0)) (by rw [hW1]; exact heap_new wr _ _ rfl) (by simp)
      have hlj : (b ++ (KvMath.numB n size).take j).length = b.length + j := by rw [List.length_append, List.length_take, KvMath.numB_len, Nat.min_eq_left (by omega)]
      obtain ⟨A1, c1, hv1, _⟩ := ho.rd
      rw [hlj] at hv1
      obtain ⟨v2, w2, hrun, ho2, hts2⟩ := appb_run (m := 1) (c := 1) (ho.below hb1) (fun e => by rw [e] at hlj; simp at hlj; omega) hrd rfl (Nat.le_trans hBr hb1.size) (by rw [hlj]; simp; omega)
      subst hv1
      have HO2 := Lib.hid ho2; have HTS := Lib.hid (hts.trans _ _ _ ((Gs.ts _ _ ⟨hb1, hBr⟩).trans _ _ _ hts2)); have HW1 := Lib.hid hW1; have HSC := Lib.hid hsucc
      obtain ⟨A2, c2, hv2, _⟩ := ho2.rd
      have hl2 : (b ++ (KvMath.numB n size).take j ++ [byte]).length = b.length + j + 1 := by rw [List.length_append, hlj]; rfl
      rw [hl2] at hv2
      subst hv2
      have hrun := Lib.hid hrun
      obtain ⟨q, hq⟩ : ∃ q, q = b.length + j := ⟨_, rfl⟩
      rw [← hq] at hrun HO2 ⊢
      clear ho hts hiv hsk hby hsucc hW1 hb1 hrd hlj ho2 hts2 hl2 hq
      go_wp2_with (at_builtin; (rw [← HW1.out]); refine Lib.wpList_append_run _ rfl _ _ _ _ rfl _ _ rfl rfl _ _ hrun.out ?_)
      go_roundw
      case rel =>
        refine ⟨j + 1, by omega, ?_, ?_, HTS.out⟩
        · congr 1; have := HIV.out; omega
        · rw [HSC.out, ← List.append_assoc]; exact HO2.out
      case measure => simp [intOf]; omega
    · have hi0 : ¬ 0 ≤ iv := by omega
      have hjs : j = size := by omega
      have hfull : (KvMath.numB n size).take j = KvMath.numB n size := by rw [hjs]; exact List.take_of_length_le (by rw [KvMath.numB_len]; exact Nat.le_refl _)
      rw [hfull] at ho
      obtain ⟨A1, c1, rfl, _⟩ := ho.rd
      generalize (b ++ KvMath.numB n size).length = nn at *
      have HO2 := Lib.hid ho; have HTS := Lib.hid hts
      clear ho hts hiv hfull
      go_wp2
      go_ret
      exact ⟨_, rfl, HO2.out, HTS.out⟩
end Go.Proofs.Ytgaccogekmaijaa
