/- rec.Scan. -/
import Derived.Test.YtbpecfbliglboaaWGet
import Derived.Test.YtbpecfbliglboaaRecs
import Derived.Deep.CutRange
namespace Go.Proofs.Ytbpecfbliglboaa
open Go.RowKit
set_option linter.unusedVariables false
set_option linter.unusedSimpArgs false
theorem slice_from {w : World} {A : Option Addr} {l : List UInt8} (hr : Rd w A l) (c k : Nat) (hc : l.length ≤ c) (hk : k ≤ l.length) : ∃ A', (if c = k then A else A.map (·.add k)) = A' ∧ Rd w A' (l.drop k) := by
  refine ⟨_, rfl, ?_⟩
  by_cases h : c = k
  · rw [if_pos h]
    have he : l.drop k = [] := List.eq_nil_of_length_eq_zero (by rw [List.length_drop]; omega)
    rw [he]; exact Rd.nil _ _
  · rw [if_neg h]; exact hr.drop k
set_option maxHeartbeats 2000000 in
theorem scan_any (w : World) (A : Option Addr) (c : Nat) (l : List UInt8) (first : Int) (hr : Rd w A l) (hc : l.length ≤ c) (hl : l.length ≤ 1000000000) (wf : (Lit.int .i64 first).wf = true) :
    Calls Try.prog 65 #[.slice A l.length c, .int .i64 first] w fun e w' => ∃ v, e = .returned (.tuple #[v, .int .i64 (RecMath.scanAll l first).2]) ∧ Recs w' w.heap.size 91 v (RecMath.scanAll l first).1 ∧ Below w.heap.size w w' := by
  have h63 := bounds_i64 wf
  have hti := Try.underlying104
  have hinf : (Try.prog.info? 91).map (fun i => (i.zero, i.size, i.bytes)) = some (some (.agg #[.int .i64 0, .slice none 0 0]), 2, 32) := by kernel_rfl
  obtain ⟨n, hnn⟩ : ∃ n, n = l.length := ⟨_, rfl⟩
  rw [← hnn] at hl hc ⊢
  have hw1 : IntKind.i64.wrap first = first := by rw [IntKind.wrap_i64]; omega
  obtain ⟨tot, htot⟩ : ∃ tot, tot = RecMath.scanAll l first := ⟨_, rfl⟩
  rw [← htot]
  have HT : Hid (RecMath.scan n (l.drop 0) first = tot) := by rw [htot]; exact Lib.hid (by simp [RecMath.scanAll, hnn])
  have HN := Lib.hid hnn; clear hnn htot
  go_enter Try.func65, Try.ntmps65
  go_wp2
  go_loopw [1, 4, 5, 6, 7, 8, 9] (fun f v k _ _ _ _ wr => ∃ (acc : List (Int × List UInt8)) (q : Nat) (fi : Int), q ≤ n ∧ k = .int .i64 q ∧ f = .int .i64 (IntKind.i64.wrap fi) ∧ -9223372036854775808 ≤ fi ∧ fi ≤ 9223372036854775808 ∧ acc.length ≤ q ∧ Recs wr w.heap.size 91 v acc ∧ Below w.heap.size w wr ∧ acc ++ (RecMath.scan n (l.drop q) fi).1 = tot.1 ∧ q + (RecMath.scan n (l.drop q) fi).2 = tot.2) (fun _ _ k _ _ _ _ _ => n - (intOf k).toNat)
  case atStart => exact ⟨[], 0, first, Nat.zero_le _, rfl, by rw [hw1], by omega, by omega, Nat.le_refl _, Recs.nil _ _ _, Below.refl _ _, by rw [HT.out]; rfl, by rw [HT.out]; simp⟩
  case round =>
    obtain ⟨acc, q, fi, hq, rfl, rfl, hf1, hf2, hal, hR, hB, ht1, ht2⟩ := hrel
    obtain ⟨A', hA, hrd⟩ := slice_from (hr.below hB) c q (by rw [← HN.out]; exact hc) (by rw [← HN.out]; exact hq)
    have hA2 : (if c = q then A else Option.map (fun x => x.add q) A) = A' := hA
    clear hA
    have hld : (l.drop q).length = n - q := by rw [List.length_drop, ← HN.out]
    have hget := get_any wr A' (c - q) (l.drop q) hrd (by rw [hld]; omega) (by rw [hld]; omega)
    rw [hld] at hget
    have hok := RecMath.get_ok (l.drop q)
    rw [hld] at hok
    have hgo := RecMath.scan_go n (l.drop q) fi
    have hst := RecMath.scan_stop n (l.drop q) fi
    obtain ⟨g, hg⟩ : ∃ g, g = RecMath.get (l.drop q) := ⟨_, rfl⟩
    rw [← hg] at hget hok hgo hst
    have HG := Lib.hid hget; have HOK := Lib.hid hok; have HGO := Lib.hid hgo; have HST := Lib.hid hst; have HLD := Lib.hid hld
    have HR := Lib.hid hR; have HB := Lib.hid hB; have HT1 := Lib.hid ht1; have HT2 := Lib.hid ht2
    have hsz := hB.size
    clear hget hok hgo hst hg hld hR hB ht1 ht2 hrd
    have hqn : (q : Int) ≤ n := by omega
    have hqc : q ≤ c := by omega
    go_wp2_with fail
    refine HG.out.mono ?_
    rintro e w1 ⟨vb, rfl, hsl, hb⟩
    obtain ⟨A9, c9, rfl, hle9, hrd9⟩ := hsl.rd
    obtain ⟨gn, gb, gk, ge⟩ := g
    dsimp only at *
    obtain ⟨bl, hbl⟩ : ∃ bl, bl = gb.length := ⟨_, rfl⟩
    rw [← hbl] at hle9 hsl ⊢
    have HSL := Lib.hid hsl; have HBL := Lib.hid hbl
    have HB1 := Lib.hid (below_then HB.out hsz hb)
    have HR1 := Lib.hid (HR.out.below hb)
    have hsz1 : w.heap.size ≤ w1.heap.size := HB1.out.size
    clear hsl hb hrd9 hbl HR HB
    by_cases he : ge = 0
    · subst he
      obtain ⟨k1, k2, k3, k4, k5⟩ := HOK.out rfl
      have hwr : IntKind.i64.wrap fi = gn ↔ fi = gn := by rw [IntKind.wrap_i64]; omega
      have hg1 : gn ≤ 9223372036854775807 := by omega
      by_cases hnum : gn = fi
      · subst hnum
        have hw2 : IntKind.i64.wrap gn = gn := by rw [IntKind.wrap_i64]; omega
        have hs := HGO.out (by intro h; rcases h with h | h; exact h rfl; exact h rfl) (by rw [HLD.out]; omega)
        have HS := Lib.hid hs
        have HK5 := Lib.hid k5
        clear hs hwr k5
        rw [hw2]
        have hbne : (gn != gn) = false := by simp
        have hbb : Below w1.heap.size w1 (w1.alloc (.cells #[.int .i64 gn, .slice A9 bl c9] 91)) := (Below.refl _ _).alloc (Nat.le_refl _) _
        have HRb := Lib.hid (HR1.out.below hbb)
        have HSLb := Lib.hid (HSL.out.below hbb)
        have hszb : w.heap.size ≤ (w1.alloc (.cells #[.int .i64 gn, .slice A9 bl c9] 91)).heap.size := Nat.le_trans hsz1 hbb.size
        have HBb := Lib.hid (below_then HB1.out hsz1 hbb)
        clear hbb
        go_wp2_with (at_builtin; go_loud (refine Recs.app w.heap.size rfl (.tmp 27) (.tmp 29) 104 91 _ rfl hti hinf rfl (by decide) u4 acc _ A9 bl c9 gb _ (by simp) rfl rfl HRb.out HSLb.out hszb (by omega) ?_))
        intro v1 w2 hr2 hb2
        have HR2 := Lib.hid hr2
        have HB2 := Lib.hid (HBb.out.trans hb2)
        clear hr2 hb2 HRb HSLb HR1
        have hqk : IntKind.i64.wrap ((q : Int) + gk) = ((q + gk : Nat) : Int) := by rw [IntKind.wrap_i64]; omega
        go_wp2
        go_roundw
        case rel =>
          have e1 : (l.drop q).drop gk = l.drop (q + gk) := by rw [List.drop_drop]
          have hs := HS.out
          rw [e1] at hs
          refine ⟨acc ++ [(gn, gb)], q + gk, gn + 1, by omega, by simp, val_int (by rw [IntKind.wrap_i64]; unfold wrap64; omega), by omega, by omega, by simp; omega, HR2.out, HB2.out, ?_, ?_⟩
          · have := HT1.out
            rw [hs] at this
            rw [← this]; simp
          · have := HT2.out
            rw [hs] at this
            rw [← this]
            dsimp only
            omega
        case measure => simp [intOf]; omega
      · have hne : IntKind.i64.wrap fi ≠ gn := fun h => hnum (hwr.1 h).symm
        have hs := HST.out (.inr hnum)
        have HS := Lib.hid hs
        clear hs hwr
        obtain ⟨fw, hfw⟩ : ∃ fw, fw = IntKind.i64.wrap fi := ⟨_, rfl⟩
        rw [← hfw] at hne ⊢
        clear hfw
        have hbne : (gn != fw) = true := by simp; exact fun h => hne h.symm
        clear hnum k1 k2 k3 k4 k5 hf1 hf2
        go_wp2
        go_ret2
        have h1 := HT1.out
        have h2 := HT2.out
        rw [HS.out] at h1 h2
        have h1' : acc = tot.1 := by simpa using h1
        have h2' : q = tot.2 := by simpa using h2
        rw [← h1', ← h2']
        have hbb : Below w1.heap.size w1 (w1.alloc (.cells #[.int .i64 gn, .slice A9 bl c9] 91)) := (Below.refl _ _).alloc (Nat.le_refl _) _
        exact ⟨_, rfl, HR1.out.below hbb, below_then HB1.out hsz1 hbb⟩
    · have hs := HST.out (.inl he)
      have HS := Lib.hid hs
      clear hs
      have hbne : ((ge : Int) != 0) = true := by simp; exact he
      go_wp2
      go_ret2
      have h1 := HT1.out
      have h2 := HT2.out
      rw [HS.out] at h1 h2
      have h1' : acc = tot.1 := by simpa using h1
      have h2' : q = tot.2 := by simpa using h2
      rw [← h1', ← h2']
      have hbb : Below w1.heap.size w1 (w1.alloc (.cells #[.int .i64 gn, .slice A9 bl c9] 91)) := (Below.refl _ _).alloc (Nat.le_refl _) _
      exact ⟨_, rfl, HR1.out.below hbb, below_then HB1.out hsz1 hbb⟩
end Go.Proofs.Ytbpecfbliglboaa
