/- CrcParts: the walk of the law. -/
import Derived.Test.YthhdkhgafeaehaaCrcSays
import Derived.Test.YthhdkhgafeaehaaRel
import Derived.Deep.Slices
import Derived.OpenShut
namespace Go.Proofs.Ythhdkhgafeaehaa
set_option linter.unusedVariables false
set_option linter.unusedSimpArgs false
open Go.RowKit

theorem Rd.take {w : World} {A : Option Addr} {l : List UInt8} (h : Rd w A l) (k : Nat) : Rd w A (l.take k) :=
  ⟨by have := h.1; rw [List.length_take]; omega, fun hp => by
    rw [List.length_take] at hp
    obtain ⟨a, e, hc⟩ := h.2 (by omega)
    refine ⟨a, e, fun j hj => ?_⟩
    rw [List.length_take] at hj
    rw [List.getElem_take]
    exact hc j (by omega)⟩
theorem add_add' (a : Addr) (i j : Nat) : (a.add i).add j = a.add (i + j) := Go.Deep.add_add a i j
theorem Rd.drop {w : World} {A : Option Addr} {l : List UInt8} (h : Rd w A l) (k : Nat) : Rd w (A.map (·.add k)) (l.drop k) :=
  ⟨by have := h.1; rw [List.length_drop]; omega, fun hp => by
    rw [List.length_drop] at hp
    obtain ⟨a, e, hc⟩ := h.2 (by omega)
    subst e
    refine ⟨a.add k, rfl, fun j hj => ?_⟩
    rw [List.length_drop] at hj
    rw [List.getElem_drop, add_add']
    exact hc _ (by omega)⟩

theorem crcof_rel {B : Nat} (W : World) (g n : Nat) {t : TypeId} {fr : Nat × Nat} (vs : List Value) (ls : List (List UInt8)) (hB : B ≤ W.heap.size) (hg : W.heap[g]? = some (.cells vs.toArray t fr)) (hl : Cellsl W vs ls) (hn : ls.length = n) (hm : n < 100) (x : CrcMath.W) (hx : Hid (x = CrcMath.of ls)) :
    Calls Try.prog 13 #[.slice (some ⟨g, 0, none⟩) n n] W fun e w' => ∃ v, e = .returned v ∧ Gr B W w' ∧ v = .int .u32 x.toNat := by
  rw [hx.out, ← hn]
  refine (crcof_any W _ _ ls (Rdl.of_block hg (by omega) hl)).mono ?_
  rintro e w1 ⟨rfl, h1⟩
  exact ⟨_, rfl, Gr.of_below h1 hB, rfl⟩
theorem crcadd_rel {B : Nat} (W : World) (s : CrcMath.W) (A : Option Addr) (n c : Nat) (l : List UInt8) (hB : B ≤ W.heap.size) (hl : l.length = n) (hr : Rd W A l) (x : CrcMath.W) (hx : Hid (x = CrcMath.add s l)) :
    Calls Try.prog 14 #[.int .u32 s.toNat, .slice A n c] W fun e w' => ∃ v, e = .returned v ∧ Gr B W w' ∧ v = .int .u32 x.toNat := by
  rw [hx.out, ← hl]
  refine (crcadd_any s W A c l hr).mono ?_
  rintro e w1 ⟨rfl, h1⟩
  exact ⟨_, rfl, Gr.of_below h1 hB, rfl⟩
/-- What each literal and each call of the last statement leaves. -/
def partsTbl (X Y : Int) : Nat → Option Sp
  | 6 | 9 | 16 | 23 | 29 | 32 => some (.lit 22)
  | 7 | 10 | 21 | 24 | 30 | 33 => some (.val (.int .u32 X))
  | 17 => some (.val (.int .u32 Y))
  | _ => none

set_option maxHeartbeats 1000000 in
theorem CrcParts_walk (A0 : Option Addr) (c0 : Nat) (l0 : List UInt8) (at_ : Int) (w : World) (r0 : Rd w A0 l0) (lc0 : l0.length ≤ c0) (lm0 : l0.length ≤ 140737488351232) (wf : (Lit.int .i64 at_).wf = true) :
    Calls Try.prog 6 #[.slice A0 l0.length c0, .int .i64 at_] w fun e w' => e = .returned (.bool true) ∧ Below w.heap.size w w' := by
  by_cases hg : 300 < (l0.length : Int) ∨ at_ < 0 ∨ (l0.length : Int) < at_
  · have h63 := bounds_i64 wf
    obtain ⟨n, hn⟩ : ∃ n, n = l0.length := ⟨_, rfl⟩
    rw [← hn] at hg lc0 lm0 ⊢
    clear hn
    by_cases h1 : 300 < (n : Int)
    · go_enter Try.func6, Try.ntmps6
      go_wp2_with fail
      refine (awake_any _).mono ?_
      rintro e w1 ⟨rfl, hb1⟩
      go_wp2_with fail
      go_ret
      exact ⟨rfl, hb1⟩
    · by_cases h2 : at_ < 0
      · go_enter Try.func6, Try.ntmps6
        go_wp2_with fail
        refine (awake_any _).mono ?_
        rintro e w1 ⟨rfl, hb1⟩
        go_wp2_with fail
        go_ret
        exact ⟨rfl, hb1⟩
      · have h3 : (n : Int) < at_ := by omega
        go_enter Try.func6, Try.ntmps6
        go_wp2_with fail
        refine (awake_any _).mono ?_
        rintro e w1 ⟨rfl, hb1⟩
        go_wp2_with fail
        go_ret
        exact ⟨rfl, hb1⟩
  · obtain ⟨k, rfl⟩ := Int.eq_ofNat_of_zero_le (show 0 ≤ at_ by omega)
    have hk : k ≤ l0.length := by omega
    have hn3 : l0.length ≤ 300 := by omega
    obtain ⟨n, hn⟩ : ∃ n, n = l0.length := ⟨_, rfl⟩
    rw [← hn] at hk hn3 lc0 lm0 ⊢
    clear hg wf
    obtain ⟨X, hX⟩ : ∃ X, X = CrcMath.add 0 l0 := ⟨_, rfl⟩
    obtain ⟨Y, hY⟩ : ∃ X, X = CrcMath.add 0 (l0.take k) := ⟨_, rfl⟩
    have h1 : X = CrcMath.of [l0.take k, l0.drop k] := by rw [CrcMath.of_eq, hX]; simp
    have h2 : X = CrcMath.of [l0] := by rw [CrcMath.of_eq, hX]; simp
    have h3 : Y = CrcMath.of [l0.take k] := by rw [CrcMath.of_eq, hY]; simp
    have h4 : X = CrcMath.add Y (l0.drop k) := by rw [hX, hY, CrcMath.add_append, List.take_append_drop]
    have h5 : X = CrcMath.of [[], l0, []] := by rw [CrcMath.of_eq, hX]; simp
    have H1 := Lib.hid h1; have H2 := Lib.hid h2; have H3 := Lib.hid h3; have H4 := Lib.hid h4; have H5 := Lib.hid h5; have HN := Lib.hid hn
    clear h1 h2 h3 h4 h5 hX hY hn
    have lt : (l0.take k).length = k := by rw [List.length_take, ← HN.out]; omega
    have ld : (l0.drop k).length = n - k := by rw [List.length_drop, ← HN.out]
    have Ht := Lib.hid lt; have Hd := Lib.hid ld
    clear lt ld
    go_enter Try.func6, Try.ntmps6
    go_wp2_with fail
    refine (awake_any _).mono ?_
    rintro e w1 ⟨rfl, hb1⟩
    go_wp2_with fail
    have hs1 := hb1.size
    have hkc : k ≤ c0 := by omega
    have w0W : ∀ W, Gr w.heap.size w1.drew W → Below w.heap.size w W := fun W h => (Below.drew hb1).trans h.1
    have hA : ∃ A', (if c0 = k then A0 else A0.map (·.add k)) = A' ∧ Rd w A' (l0.drop k) := by
      refine ⟨_, rfl, ?_⟩
      by_cases hck : c0 = k
      · rw [if_pos hck]
        have he : l0.drop k = [] := List.eq_nil_of_length_eq_zero (by rw [Hd.out]; omega)
        rw [he]; exact Rd.nil _ _
      · rw [if_neg hck]; exact r0.drop k
    obtain ⟨A', hA', rd⟩ := hA
    have hA2 : (if c0 = k then A0 else Option.map (fun x => x.add k) A0) = A' := hA'
    clear hA'
    have hsW : ∀ W, Gr w.heap.size w1.drew W → w.heap.size ≤ W.heap.size := fun W h => Nat.le_trans hs1 h.size
    refine wp_region_tbl _ (partsTbl X.toNat Y.toNat) w.heap.size (by kernel_rfl) (by kernel_rfl) (by kernel_rfl) ?_
    repeat (first
      | (refine wpR_plain ?_ (by rfl) (fun K hK => ?_); (focus (first | (simp only [Region.wanted]; done) | (go_simp; done))); apply Exists.intro; refine ⟨fun W hW => ?_, ?_⟩; (go_simp; (try simp only [plainUpon_value, true_and]); rfl); go_simp; refine hK _ ?_; clear hK K)
      | (refine wpR_skip ?_ (fun K hK => ?_); (focus (first | (simp only [Region.wanted]; done) | (go_simp; done))); go_simp; refine hK _ ?_; clear hK K)
      | (refine wpR_lit (by rfl) ?_ hs1 ?_; (focus (first | (simp only [Region.wanted]; done) | (go_simp; done))); apply Exists.intro; apply Exists.intro; refine ⟨fun W => ?_, ?_, ?_, fun K g hK => ?_⟩; (go_simp; exact ⟨rfl, rfl⟩); rfl; (simp only [Oper.argv, Op.operands]; go_simp); go_simp; refine hK _ ?_; clear hK K)
      | (refine wpR_val (by rfl) ?_ (fun W hW hF => ?_) (fun K hK => ?_); (focus (first | (simp only [Region.wanted]; done) | (go_simp; done))); (go_simp; simp only [relUpon_enter]; obtain ⟨fr, hb⟩ := hF 6 rfl; exact crcof_rel W _ 2 [.slice A0 k c0, .slice A' (n - k) (c0 - k)] [l0.take k, l0.drop k] (hsW W hW) hb ⟨⟨_, _, by rw [Ht.out], by rw [Ht.out]; exact hkc, (r0.take k).below (w0W W hW)⟩, ⟨_, _, by rw [Hd.out], by rw [Hd.out]; omega, rd.below (w0W W hW)⟩, trivial⟩ rfl (by decide) X H1); go_simp; refine hK _ ?_; clear hK K)
      | (refine wpR_val (by rfl) ?_ (fun W hW hF => ?_) (fun K hK => ?_); (focus (first | (simp only [Region.wanted]; done) | (go_simp; done))); (go_simp; simp only [relUpon_enter]; obtain ⟨fr, hb⟩ := hF 9 rfl; exact crcof_rel W _ 1 [.slice A0 n c0] [l0] (hsW W hW) hb ⟨⟨_, _, by rw [← HN.out], by rw [← HN.out]; exact lc0, r0.below (w0W W hW)⟩, trivial⟩ rfl (by decide) X H2); go_simp; refine hK _ ?_; clear hK K)
      | (refine wpR_val (by rfl) ?_ (fun W hW hF => ?_) (fun K hK => ?_); (focus (first | (simp only [Region.wanted]; done) | (go_simp; done))); (go_simp; simp only [relUpon_enter]; obtain ⟨fr, hb⟩ := hF 23 rfl; exact crcof_rel W _ 1 [.slice A0 n c0] [l0] (hsW W hW) hb ⟨⟨_, _, by rw [← HN.out], by rw [← HN.out]; exact lc0, r0.below (w0W W hW)⟩, trivial⟩ rfl (by decide) X H2); go_simp; refine hK _ ?_; clear hK K)
      | (refine wpR_val (by rfl) ?_ (fun W hW hF => ?_) (fun K hK => ?_); (focus (first | (simp only [Region.wanted]; done) | (go_simp; done))); (go_simp; simp only [relUpon_enter]; obtain ⟨fr, hb⟩ := hF 32 rfl; exact crcof_rel W _ 1 [.slice A0 n c0] [l0] (hsW W hW) hb ⟨⟨_, _, by rw [← HN.out], by rw [← HN.out]; exact lc0, r0.below (w0W W hW)⟩, trivial⟩ rfl (by decide) X H2); go_simp; refine hK _ ?_; clear hK K)
      | (refine wpR_val (by rfl) ?_ (fun W hW hF => ?_) (fun K hK => ?_); (focus (first | (simp only [Region.wanted]; done) | (go_simp; done))); (go_simp; simp only [relUpon_enter]; obtain ⟨fr, hb⟩ := hF 16 rfl; exact crcof_rel W _ 1 [.slice A0 k c0] [l0.take k] (hsW W hW) hb ⟨⟨_, _, by rw [Ht.out], by rw [Ht.out]; exact hkc, (r0.take k).below (w0W W hW)⟩, trivial⟩ rfl (by decide) Y H3); go_simp; refine hK _ ?_; clear hK K)
      | (refine wpR_val (by rfl) ?_ (fun W hW hF => ?_) (fun K hK => ?_); (focus (first | (simp only [Region.wanted]; done) | (go_simp; done))); (go_simp; simp only [relUpon_enter]; obtain ⟨fr, hb⟩ := hF 29 rfl; exact crcof_rel W _ 3 [.slice none 0 0, .slice A0 n c0, .slice none 0 0] [[], l0, []] (hsW W hW) hb ⟨⟨none, 0, rfl, by simp, Rd.nil _ _⟩, ⟨_, _, by rw [← HN.out], by rw [← HN.out]; exact lc0, r0.below (w0W W hW)⟩, ⟨none, 0, rfl, by simp, Rd.nil _ _⟩, trivial⟩ rfl (by decide) X H5); go_simp; refine hK _ ?_; clear hK K)
      | (refine wpR_val (by rfl) ?_ (fun W hW hF => ?_) (fun K hK => ?_); (focus (first | (simp only [Region.wanted]; done) | (go_simp; done))); (go_simp; simp only [relUpon_enter]; exact crcadd_rel W Y A' (n - k) (c0 - k) (l0.drop k) (hsW W hW) Hd.out (rd.below (w0W W hW)) X H4); go_simp; refine hK _ ?_; clear hK K))
    (refine wpR_nil (fun W hW hF => ?_); clear hF)
    have hb := w0W W hW
    go_wp2
    go_ret
    exact ⟨rfl, hb⟩
end Go.Proofs.Ythhdkhgafeaehaa
