/- wal: number. -/
import Derived.Test.YtbpecfbliglboaaWNum
namespace Go.Proofs.Ytbpecfbliglboaa
open Go.RowKit
set_option linter.unusedVariables false
set_option linter.unusedSimpArgs false
theorem Ob.hne {W : World} {base g e n c : Nat} {l : List UInt8} (h : Ob W base e (.slice (some ⟨g, 0, none⟩) n c) l) : base ≤ g := own_base h g rfl
/-- bytes that may be appended to: a row of the call's own, or bytes without room -/
def Ab (w : World) (base : Nat) (v : Value) (l : List UInt8) : Prop := Ob w base 5 v l ∨ ∃ a, v = .slice (some a) l.length l.length ∧ Rd w (some a) l
theorem Ab.below {w w1 : World} {base : Nat} {v : Value} {l : List UInt8} (h : Ab w base v l) (hb : Below w.heap.size w w1) : Ab w1 base v l := by
  rcases h with h | ⟨a, e, h⟩
  · exact .inl (h.below hb)
  · exact .inr ⟨a, e, h.below hb⟩
theorem Ab.shp {w : World} {base : Nat} {v : Value} {l : List UInt8} (h : Ab w base v l) : ∃ A c, v = .slice A l.length c ∧ l.length ≤ c := by
  rcases h with h | ⟨a, e, h⟩
  · obtain ⟨A, c, h1, h2, _⟩ := h.rd
    exact ⟨A, c, h1, h2⟩
  · exact ⟨_, _, e, Nat.le_refl _⟩
set_option maxRecDepth 20000 in
theorem appab_run {W : World} {base m c : Nat} {v : Value} {l news : List UInt8} {A : Option Addr} (HO : Ab W base v l) (h1 : 1 ≤ l.length) (hn1 : 1 ≤ news.length) (HR : Rd W A news) (hm : m = news.length) (hB : base ≤ W.heap.size) (hlen : l.length + news.length ≤ 1000000000) :
    ∃ v' W', (Builtin.append_ #[33, 33] 33 #[v, .slice A m c]).run Try.prog W = .ok v' W' ∧ Ob W' base 5 v' (l ++ news) ∧ TS base W W' := by
  rcases HO with HO | ⟨a, rfl, hr⟩
  · exact appb_run HO (fun e => by rw [e] at h1; simp at h1) HR hm hB hlen
  · subst hm
    obtain ⟨i, hi, hzz⟩ := Option.map_eq_some_iff.1 info_u8b
    simp only [Prod.mk.injEq] at hzz
    obtain ⟨hz, hsize, hby⟩ := hzz
    have hcells : ∀ {A : Option Addr} {l : List UInt8} {a : Addr}, A = some a → Rd W A l → ∀ j v, (bvl l)[j]? = some v → W.cell? (a.add j) = some v := by
      rintro A l a rfl h j v hv
      have hj : j < l.length := by
        have := (List.getElem?_eq_some_iff.1 hv).1
        rwa [bvl_length] at this
      obtain ⟨a', e, hc⟩ := h.at_ j hj
      injection e with e
      subst e
      rw [bvl_at l j hj] at hv
      injection hv with hv
      rw [← hv]; exact hc
    obtain ⟨b, rfl, _⟩ := HR.at_ 0 (by omega)
    have hr := run_append_grow (P := Try.prog) (w := W) 33 33 5 i (.int .u8 0) Try.underlying33 hi hz a l.length l.length (bvl l) (by rw [bvl_length, hsize]; omega) (hcells rfl hr) b news.length c (bvl news) (by rw [bvl_length, hsize]; omega) (hcells rfl HR) (by omega) (by omega) (by rw [hby]; exact growslice_fits (by omega) (by omega))
    have hge := grownCap_ge W (l.length + news.length) l.length 5
    have hcm2 : grownCap W (l.length + news.length) l.length 5 ≤ maxLen := grownCap_le_maxLen W (l.length + news.length) l.length 5 (by simp only [maxLen]; omega)
    have hz1 : (Value.int IntKind.u8 0).cells.size = 1 := rfl
    refine ⟨_, _, hr, ⟨?_, .inr ⟨W.heap.size, _, _, ?_, hB, heap_alloc_new W.drew _, ?_, hcm2, ?_, ?_⟩⟩, Gs.ts _ _ ⟨(Below.drew (Below.refl _ W)).alloc (Nat.le_refl _) _, hB⟩⟩
    · rw [bvl_length]; simp
    · rw [List.length_append]
    · rw [List.length_append]; exact hge
    · simp only [Array.size_append, List.size_toArray, bvl_length, size_zeroCells, hz1]
      omega
    · rw [bvl_append, List.length_append, Nat.mul_one]
      simp only [Array.toList_append]
      exact List.take_left' (by rw [List.length_append, bvl_length, bvl_length])
set_option maxRecDepth 20000 in
theorem wnumber_any (base : Nat) (w : World) (v : Value) (l : List UInt8) (x m c : Nat) (A : Option Addr) (hv : v = .slice A m c) (hm : m = l.length) (hx : x ≤ 4294967295) (ho : Ab w base v l) (h1 : 1 ≤ m) (hb : base ≤ w.heap.size) (hl : l.length ≤ 1000000) :
    Calls Try.prog 73 #[v, .int .i64 x] w fun e w' => ∃ v', e = .returned v' ∧ Ob w' base 5 v' (l ++ RecMath.be 4 x) ∧ TS base w w' := by
  have hbe : RecMath.be 4 x = [UInt8.ofNat (x / 16777216), UInt8.ofNat (x / 65536), UInt8.ofNat (x / 256), UInt8.ofNat x] := by
    simp [RecMath.be, RecMath.bePart, List.range, List.range.loop]
  generalize h3 : UInt8.ofNat (x / 16777216) = b3 at *
  generalize h2 : UInt8.ofNat (x / 65536) = b2 at *
  generalize h1' : UInt8.ofNat (x / 256) = b1 at *
  generalize h0 : UInt8.ofNat x = b0 at *
  have e3 : IntKind.u8.wrap ((x : Int) / (16777216 : Int)) = (b3.toNat : Int) := by rw [← h3, IntKind.wrap_u8]; simp
  have e2 : IntKind.u8.wrap ((x : Int) / (65536 : Int)) = (b2.toNat : Int) := by rw [← h2, IntKind.wrap_u8]; simp
  have e1 : IntKind.u8.wrap ((x : Int) / (256 : Int)) = (b1.toNat : Int) := by rw [← h1', IntKind.wrap_u8]; simp
  have e0 : IntKind.u8.wrap (x : Int) = (b0.toNat : Int) := by rw [← h0, IntKind.wrap_u8]; simp
  obtain ⟨W1, hW1⟩ : ∃ W1, W1 = w.alloc (.cells #[.int .u8 (b3.toNat : Int), .int .u8 (b2.toNat : Int), .int .u8 (b1.toNat : Int), .int .u8 (b0.toNat : Int)] 5) := ⟨_, rfl⟩
  have hb1 : Below w.heap.size w W1 := by rw [hW1]; exact (Below.refl _ w).alloc (Nat.le_refl _) _
  have hrd : Rd W1 (some ⟨w.heap.size, 0, none⟩) [b3, b2, b1, b0] := Rd.of_block (t := 5) (fr := (0, 0)) (by rw [hW1]; exact heap_new w _ _ rfl) (by simp)
  obtain ⟨v2, w2, hrun, ho2, hts2⟩ := appab_run (m := 4) (c := 4) (ho.below hb1) (by omega) (by simp) hrd rfl (Nat.le_trans hb hb1.size) (by simp; omega)
  subst hv
  rw [← hbe] at ho2
  have HO2 := Lib.hid ho2; have HTS := Lib.hid ((Gs.ts _ _ ⟨hb1, hb⟩).trans _ _ _ hts2); have HW1 := Lib.hid hW1; have hrun := Lib.hid hrun
  obtain ⟨A2, c2, hv2, _⟩ := ho2.rd
  subst hv2
  generalize (l ++ RecMath.be 4 x).length = n2 at *
  clear hm ho hbe h3 h2 h1' h0 hW1 hb1 hrd ho2 hts2
  go_enter Try.func73, Try.ntmps73
  go_wp2_with (at_builtin; (rw [← HW1.out]); refine Lib.wpList_append_run _ rfl _ _ _ _ rfl _ _ rfl rfl _ _ hrun.out ?_)
  go_ret
  exact ⟨_, rfl, HO2.out, HTS.out⟩
end Go.Proofs.Ytbpecfbliglboaa
