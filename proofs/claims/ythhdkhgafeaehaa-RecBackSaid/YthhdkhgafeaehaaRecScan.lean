/- rec.Scan. -/
import Derived.Test.YthhdkhgafeaehaaRecGet
import Derived.Deep.CutRange
namespace Go.Proofs.Ythhdkhgafeaehaa
open Go.RowKit
set_option linter.unusedVariables false
set_option linter.unusedSimpArgs false
/-- the cells of a row of records -/
def RecCells (w : World) : List Value → List (Int × List UInt8) → Prop
  | xs, [] => xs = []
  | xs, r :: rs => ∃ vb t, xs = .int .i64 r.1 :: vb :: t ∧ Sl w vb r.2 ∧ RecCells w t rs
theorem RecCells.snoc {w : World} {xs : List Value} {rs : List (Int × List UInt8)} (h : RecCells w xs rs) {num : Int} {vb : Value} {l : List UInt8} (hb : Sl w vb l) : RecCells w (xs ++ [.int .i64 num, vb]) (rs ++ [(num, l)]) := by
  induction rs generalizing xs with
  | nil => cases h; exact ⟨vb, [], rfl, hb, rfl⟩
  | cons r rs ih =>
    obtain ⟨v, t, rfl, h1, h2⟩ := h
    exact ⟨v, t ++ [.int .i64 num, vb], rfl, h1, ih h2⟩
theorem RecCells.imp {w w1 : World} {xs : List Value} {rs : List (Int × List UInt8)} (h : RecCells w xs rs) (hi : ∀ v l, Sl w v l → Sl w1 v l) : RecCells w1 xs rs := by
  induction rs generalizing xs with
  | nil => exact h
  | cons r rs ih =>
    obtain ⟨v, t, rfl, h1, h2⟩ := h
    exact ⟨v, t, rfl, hi _ _ h1, ih h2⟩
theorem RecCells.at_ {w : World} {xs : List Value} {rs : List (Int × List UInt8)} (h : RecCells w xs rs) : xs.length = 2 * rs.length ∧ ∀ i, (hi : i < rs.length) → ∃ vb, xs[2 * i]? = some (.int .i64 rs[i].1) ∧ xs[2 * i + 1]? = some vb ∧ Sl w vb rs[i].2 := by
  induction rs generalizing xs with
  | nil => cases h; exact ⟨rfl, fun i hi => absurd hi (by simp)⟩
  | cons r rs ih =>
    obtain ⟨v, t, rfl, h1, h2⟩ := h
    obtain ⟨h3, h4⟩ := ih h2
    refine ⟨by simp [h3]; omega, fun i hi => ?_⟩
    cases i with
    | zero => exact ⟨v, rfl, rfl, h1⟩
    | succ i =>
      obtain ⟨vb, h5, h6, h7⟩ := h4 i (by simpa using hi)
      exact ⟨vb, by rw [show 2 * (i + 1) = 2 * i + 1 + 1 by omega]; simpa using h5, by rw [show 2 * (i + 1) + 1 = 2 * i + 1 + 1 + 1 by omega]; simpa using h6, by simpa using h7⟩
/-- a slice of records of the call's own -/
def Recs (w : World) (base e : Nat) (v : Value) (rs : List (Int × List UInt8)) : Prop := ∃ xs, w.ownsRow base e 2 v rs.length xs ∧ RecCells w xs rs
theorem Recs.nil (w : World) (base e : Nat) : Recs w base e (.slice none 0 0) [] := ⟨[], ⟨rfl, .inl ⟨rfl, rfl⟩⟩, rfl⟩
theorem Recs.below {w w1 : World} {base e : Nat} {v : Value} {rs : List (Int × List UInt8)} (h : Recs w base e v rs) (hb : Below w.heap.size w w1) : Recs w1 base e v rs := by
  obtain ⟨xs, h1, h2⟩ := h
  exact ⟨xs, World.ownsRow.kept h1 ⟨hb.os, hb.tape, hb.output, hb.size, fun k hk _ => hb.block k hk⟩ (row := none) (by cases v.ownBlock <;> simp), h2.imp fun _ _ h => h.below hb⟩
theorem Sl.wrote {w w1 : World} {base e size n : Nat} {xs : List Value} {v vb : Value} {l : List UInt8} (h : Sl w vb l) (ho : w.ownsRow base e size v n xs) (he : e ≠ 5) (hg : w.grownBy w1 v.ownBlock) : Sl w1 vb l := by
  rcases ho.2 with ⟨rfl, _⟩ | ⟨g, cap, cur, rfl, hb, hh, _⟩
  · exact h.below ⟨hg.os, hg.tape, hg.output, hg.size, fun k hk => hg.block k hk (by simp [Value.ownBlock])⟩
  · refine h.keep (g := g) ?_ (fun k hk hne => hg.block k hk (by simp [Value.ownBlock]; exact hne))
    intro cs fr h2
    rw [hh] at h2
    injection h2 with h2
    injection h2 with _ h3
    exact he h3
/-- append(v, r), r in a block just made. -/
theorem Recs.app {P : Program} {ops : Array Oper} {rest : List Oper} {o : Oper} {a : Act} {Q : Exit → Act → World → Prop} {w : World} (base : Nat) (hgd : o.guard = none) (s x : Operand) (t e : TypeId) (i0 : Value)
    (ho : o.op = .call { callee := .builtin .append, args := #[s, x], argTypes := #[t, t] })
    (ht : P.underlying t = some (.slice e)) (hinfo : (P.info? e).map (fun i => (i.zero, i.size, i.bytes)) = some (some i0, 2, 32)) (hz : i0.cells.size = 2) (he : e ≠ 5)
    (v : Value) (rs : List (Int × List UInt8)) (num : Int) (A : Option Addr) (n c : Nat) (l : List UInt8) (gg : Nat) (hgg : gg = w.heap.size) (hs : a.eval s = v) (hx : a.eval x = .slice (some ⟨gg, 0, none⟩) 1 1)
    (HO : Recs w base e v rs) (hb : Sl w (.slice A n c) l) (hbase : base ≤ w.heap.size) (hlen : rs.length ≤ 1000000000)
    (h : ∀ v1 w1, Recs w1 base e v1 (rs ++ [(num, l)]) → Below base w w1 → wpList P ops Q rest (a.put o.dst v1) w1) : wpList P ops Q (o :: rest) a (w.alloc (.cells #[.int .i64 num, .slice A n c] e)) := by
  subst hgg
  obtain ⟨xs, hO, hC⟩ := HO
  have hba := (Below.refl w.heap.size w).alloc (Nat.le_refl _) (.cells #[.int .i64 num, .slice A n c] e)
  have hO1 : (w.alloc (.cells #[.int .i64 num, .slice A n c] e)).ownsRow base e 2 v rs.length xs :=
    World.ownsRow.kept hO ⟨hba.os, hba.tape, hba.output, hba.size, fun k hk _ => hba.block k hk⟩ (row := none) (by cases v.ownBlock <;> simp)
  have hh : (w.alloc (.cells #[.int .i64 num, .slice A n c] e)).heap[w.heap.size]? = some (.cells #[.int .i64 num, .slice A n c] e) := heap_new w _ _ rfl
  refine wpList_app (w0 := w) base hgd s x t e i0 2 32 ho ht hinfo hz (by decide) (by decide) v rs.length xs [.int .i64 num, .slice A n c] (some ⟨w.heap.size, 0, none⟩) 1 1 hs hx hO1 rfl ?_ ?_ (hba.mono hbase) (Nat.le_trans hbase hba.size) (by omega) ?_
  · intro _
    refine ⟨_, rfl, fun j u hu => ?_⟩
    have ha : (⟨w.heap.size, 0, none⟩ : Addr).add j = ⟨w.heap.size, j, none⟩ := by unfold Addr.add; split <;> simp_all
    rw [ha, cell_of_row _ w.heap.size j _ _ _ hh]
    simpa using hu
  · intro u hu
    simp at hu
    rcases hu with rfl | rfl <;> rfl
  · intro v1 w1 h1 h2 h3 _
    refine h v1 w1 ⟨xs ++ [.int .i64 num, .slice A n c], by simpa using h1, ?_⟩ h2
    exact (hC.imp fun _ _ h => (h.below hba).wrote hO1 he h3).snoc ((hb.below hba).wrote hO1 he h3)

theorem slice_from {w : World} {A : Option Addr} {l : List UInt8} (hr : Rd w A l) (c k : Nat) (hc : l.length ≤ c) (hk : k ≤ l.length) : ∃ A', (if c = k then A else A.map (·.add k)) = A' ∧ Rd w A' (l.drop k) := by
  refine ⟨_, rfl, ?_⟩
  by_cases h : c = k
  · rw [if_pos h]
    have he : l.drop k = [] := List.eq_nil_of_length_eq_zero (by rw [List.length_drop]; omega)
    rw [he]; exact Rd.nil _ _
  · rw [if_neg h]; exact hr.drop k
set_option maxHeartbeats 2000000 in
theorem scan_any (w : World) (A : Option Addr) (c : Nat) (l : List UInt8) (first : Int) (hr : Rd w A l) (hc : l.length ≤ c) (hl : l.length ≤ 1000000000) (wf : (Lit.int .i64 first).wf = true) :
    Calls Try.prog 20 #[.slice A l.length c, .int .i64 first] w fun e w' => ∃ v, e = .returned (.tuple #[v, .int .i64 (RecMath.scanAll l first).2]) ∧ Recs w' w.heap.size 32 v (RecMath.scanAll l first).1 ∧ Below w.heap.size w w' := by
  have h63 := bounds_i64 wf
  have hti := Try.underlying43
  have hinf : (Try.prog.info? 32).map (fun i => (i.zero, i.size, i.bytes)) = some (some (.agg #[.int .i64 0, .slice none 0 0]), 2, 32) := by rfl
  obtain ⟨n, hnn⟩ : ∃ n, n = l.length := ⟨_, rfl⟩
  rw [← hnn] at hl hc ⊢
  have hw1 : IntKind.i64.wrap first = first := by rw [IntKind.wrap_i64]; omega
  obtain ⟨tot, htot⟩ : ∃ tot, tot = RecMath.scanAll l first := ⟨_, rfl⟩
  rw [← htot]
  have HT : Hid (RecMath.scan n (l.drop 0) first = tot) := by rw [htot]; exact Lib.hid (by simp [RecMath.scanAll, hnn])
  have HN := Lib.hid hnn; clear hnn htot
  go_enter Try.func20, Try.ntmps20
  go_wp2
  go_loopw [1, 4, 5, 6, 7, 8, 9] (fun f v k _ _ _ _ wr => ∃ (acc : List (Int × List UInt8)) (q : Nat) (fi : Int), q ≤ n ∧ k = .int .i64 q ∧ f = .int .i64 (IntKind.i64.wrap fi) ∧ -9223372036854775808 ≤ fi ∧ fi ≤ 9223372036854775808 ∧ acc.length ≤ q ∧ Recs wr w.heap.size 32 v acc ∧ Below w.heap.size w wr ∧ acc ++ (RecMath.scan n (l.drop q) fi).1 = tot.1 ∧ q + (RecMath.scan n (l.drop q) fi).2 = tot.2) (fun _ _ k _ _ _ _ _ => n - (intOf k).toNat)
  case atStart => exact ⟨[], 0, first, Nat.zero_le _, rfl, by rw [hw1], by omega, by omega, Nat.le_refl _, Recs.nil _ _ _, Below.refl _ _, by rw [HT.out]; rfl, by rw [HT.out]; simp⟩
  case round =>
    obtain ⟨acc, q, fi, hq, rfl, rfl, hf1, hf2, hal, hR, hB, ht1, ht2⟩ := hrel
    obtain ⟨A', hA, hrd⟩ := slice_from (hr.below hB) c q (by rw [← HN.out]; exact hc) (by rw [← HN.out]; exact hq)
    have hA2 : (if c = q then A else Option.map (fun x => x.add q) A) = A' := hA
    clear hA
    have hld : (l.drop q).length = n - q := by rw [List.length_drop, ← HN.out]
    have hget := get_any wr A' (c - q) (l.drop q) hrd (by rw [hld]; omega) (by rw [hld]; omega)
    rw [hld] at hget
    have hok := RecMath.get_ok (l.drop q)
    rw [hld] at hok
    have hgo := RecMath.scan_go n (l.drop q) fi
    have hst := RecMath.scan_stop n (l.drop q) fi
    obtain ⟨g, hg⟩ : ∃ g, g = RecMath.get (l.drop q) := ⟨_, rfl⟩
    rw [← hg] at hget hok hgo hst
    have HG := Lib.hid hget; have HOK := Lib.hid hok; have HGO := Lib.hid hgo; have HST := Lib.hid hst; have HLD := Lib.hid hld
    have HR := Lib.hid hR; have HB := Lib.hid hB; have HT1 := Lib.hid ht1; have HT2 := Lib.hid ht2
    have hsz := hB.size
    clear hget hok hgo hst hg hld hR hB ht1 ht2 hrd
    have hqn : (q : Int) ≤ n := by omega
    have hqc : q ≤ c := by omega
    go_wp2_with fail
    refine HG.out.mono ?_
    rintro e w1 ⟨vb, rfl, hsl, hb⟩
    obtain ⟨A9, c9, rfl, hle9, hrd9⟩ := hsl.rd
    obtain ⟨gn, gb, gk, ge⟩ := g
    dsimp only at *
    obtain ⟨bl, hbl⟩ : ∃ bl, bl = gb.length := ⟨_, rfl⟩
    rw [← hbl] at hle9 hsl ⊢
    have HSL := Lib.hid hsl; have HBL := Lib.hid hbl
    have HB1 := Lib.hid (below_then HB.out hsz hb)
    have HR1 := Lib.hid (HR.out.below hb)
    have hsz1 : w.heap.size ≤ w1.heap.size := HB1.out.size
    clear hsl hb hrd9 hbl HR HB
    by_cases he : ge = 0
    · subst he
      obtain ⟨k1, k2, k3, k4, k5⟩ := HOK.out rfl
      have hwr : IntKind.i64.wrap fi = gn ↔ fi = gn := by rw [IntKind.wrap_i64]; omega
      have hg1 : gn ≤ 9223372036854775807 := by omega
      by_cases hnum : gn = fi
      · subst hnum
        have hw2 : IntKind.i64.wrap gn = gn := by rw [IntKind.wrap_i64]; omega
        have hs := HGO.out (by intro h; rcases h with h | h; exact h rfl; exact h rfl) (by rw [HLD.out]; omega)
        have HS := Lib.hid hs
        have HK5 := Lib.hid k5
        clear hs hwr k5
        rw [hw2]
        have hbne : (gn != gn) = false := by simp
        have hbb : Below w1.heap.size w1 (w1.alloc (.cells #[.int .i64 gn, .slice A9 bl c9] 32)) := (Below.refl _ _).alloc (Nat.le_refl _) _
        have HRb := Lib.hid (HR1.out.below hbb)
        have HSLb := Lib.hid (HSL.out.below hbb)
        have hszb : w.heap.size ≤ (w1.alloc (.cells #[.int .i64 gn, .slice A9 bl c9] 32)).heap.size := Nat.le_trans hsz1 hbb.size
        have HBb := Lib.hid (below_then HB1.out hsz1 hbb)
        clear hbb
        go_wp2_with (at_builtin; go_loud (refine Recs.app w.heap.size rfl (.tmp 27) (.tmp 29) 43 32 _ rfl hti hinf rfl (by decide) u4 acc _ A9 bl c9 gb _ (by simp) rfl rfl HRb.out HSLb.out hszb (by omega) ?_))
        intro v1 w2 hr2 hb2
        have HR2 := Lib.hid hr2
        have HB2 := Lib.hid (HBb.out.trans hb2)
        clear hr2 hb2 HRb HSLb HR1
        have hqk : IntKind.i64.wrap ((q : Int) + gk) = ((q + gk : Nat) : Int) := by rw [IntKind.wrap_i64]; omega
        go_wp2
        go_roundw
        case rel =>
          have e1 : (l.drop q).drop gk = l.drop (q + gk) := by rw [List.drop_drop]
          have hs := HS.out
          rw [e1] at hs
          refine ⟨acc ++ [(gn, gb)], q + gk, gn + 1, by omega, by simp, val_int (by rw [IntKind.wrap_i64]; unfold wrap64; omega), by omega, by omega, by simp; omega, HR2.out, HB2.out, ?_, ?_⟩
          · have := HT1.out
            rw [hs] at this
            rw [← this]; simp
          · have := HT2.out
            rw [hs] at this
            rw [← this]
            dsimp only
            omega
        case measure => simp [intOf]; omega
      · have hne : IntKind.i64.wrap fi ≠ gn := fun h => hnum (hwr.1 h).symm
        have hs := HST.out (.inr hnum)
        have HS := Lib.hid hs
        clear hs hwr
        obtain ⟨fw, hfw⟩ : ∃ fw, fw = IntKind.i64.wrap fi := ⟨_, rfl⟩
        rw [← hfw] at hne ⊢
        clear hfw
        have hbne : (gn != fw) = true := by simp; exact fun h => hne h.symm
        clear hnum k1 k2 k3 k4 k5 hf1 hf2
        go_wp2
        go_ret2
        have h1 := HT1.out
        have h2 := HT2.out
        rw [HS.out] at h1 h2
        have h1' : acc = tot.1 := by simpa using h1
        have h2' : q = tot.2 := by simpa using h2
        rw [← h1', ← h2']
        have hbb : Below w1.heap.size w1 (w1.alloc (.cells #[.int .i64 gn, .slice A9 bl c9] 32)) := (Below.refl _ _).alloc (Nat.le_refl _) _
        exact ⟨_, rfl, HR1.out.below hbb, below_then HB1.out hsz1 hbb⟩
    · have hs := HST.out (.inl he)
      have HS := Lib.hid hs
      clear hs
      have hbne : ((ge : Int) != 0) = true := by simp; exact he
      go_wp2
      go_ret2
      have h1 := HT1.out
      have h2 := HT2.out
      rw [HS.out] at h1 h2
      have h1' : acc = tot.1 := by simpa using h1
      have h2' : q = tot.2 := by simpa using h2
      rw [← h1', ← h2']
      have hbb : Below w1.heap.size w1 (w1.alloc (.cells #[.int .i64 gn, .slice A9 bl c9] 32)) := (Below.refl _ _).alloc (Nat.le_refl _) _
      exact ⟨_, rfl, HR1.out.below hbb, below_then HB1.out hsz1 hbb⟩
end Go.Proofs.Ythhdkhgafeaehaa
