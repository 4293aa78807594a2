/- Are lines short? -/
import Derived.Test.YtgaccogekmaijaaDoorCoLw
namespace Go.Proofs.YtgaccogekmaijaaDoor
open Go.RowKit Go.Maps
set_option linter.unusedVariables false
set_option linter.unusedSimpArgs false
set_option maxRecDepth 20000 in
set_option maxHeartbeats 4000000 in
theorem short_any (w : World) (A : Option Addr) (c : Nat) (b : List UInt8) (hr : Rd w A b) (hc : b.length ≤ c) (hl : b.length ≤ 1000000) (hs : ∀ l ∈ CodeMath.ln [] b, CodeMath.shortL l = true) :
    Calls Tryd.prog 12 #[.slice A b.length c] w fun e w' => e = .returned (.bool true) ∧ Below w.heap.size w w' := by
  have hli := lines_any w A c b hr hc hl
  generalize b.length = m at *
  generalize CodeMath.ln [] b = ls at *
  have HLI := Lib.hid hli; have HS := Lib.hid hs
  clear hli hs hr
  go_enter Tryd.func12, Tryd.ntmps12
  go_wp2_with fail
  refine HLI.out.mono ?_
  rintro e w1 ⟨v, vs, rfl, hrow, hcl, hb⟩
  obtain ⟨AL, cL, rfl, hcL, hrl⟩ := rowl_rd hrow (hcl.below hb)
  have hll := hrl.1
  obtain ⟨nl, hnl⟩ : ∃ nl, nl = ls.length := ⟨_, rfl⟩
  rw [← hnl] at hcL hll ⊢
  have HNL := Lib.hid hnl; have HRL := Lib.hid hrl; have HB := Lib.hid hb
  clear hnl hrl hb hrow hcl HLI
  go_wp2_with fail
  go_loopw [4, 5] (fun vi _ wr => ∃ k : Nat, k ≤ nl ∧ vi = .int .i64 k ∧ wr = w1) (fun vi _ _ => nl - (intOf vi).toNat)
  case atStart => exact ⟨0, Nat.zero_le _, rfl, rfl⟩
  case round =>
    obtain ⟨k, hk, rfl, hw⟩ := hrel
    subst hw
    by_cases hlt : k < nl
    · have hlti : (k : Int) < nl := by omega
      have hwk : IntKind.i64.wrap ((k : Int) + 1) = ((k + 1 : Nat) : Int) := by rw [IntKind.wrap_i64]; omega
      obtain ⟨a, A', c', rfl, hcell, hle, hrd⟩ := HRL.out.at_ k (by rw [← HNL.out]; exact hlt)
      have hsh := HS.out _ (List.getElem_mem (l := ls) (n := k) (by rw [← HNL.out]; exact hlt))
      generalize ls[k]'(by rw [← HNL.out]; exact hlt) = l at *
      obtain ⟨n, hn⟩ : ∃ n, n = l.length := ⟨_, rfl⟩
      have hn9 : n ≤ 9223372036854775807 := by rw [hn]; exact hrd.1
      unfold CodeMath.shortL at hsh
      rw [decide_eq_true_eq] at hsh
      by_cases h2 : 2 ≤ n
      · obtain ⟨q, rfl⟩ : ∃ q, n = q + 1 := ⟨n - 1, by omega⟩
        have hq1 : 1 ≤ q := by omega
        have h2i : (2 : Int) ≤ (q : Int) + 1 := by omega
        have h2i2 : (2 : Int) ≤ ((q + 1 : Nat) : Int) := by omega
        obtain ⟨a', rfl, x0⟩ := hrd.at_ q (by omega)
        have hlast : l.getLast? = some (l[q]'(by omega)) := by
          rw [List.getLast?_eq_getElem?, show l.length - 1 = q by omega, List.getElem?_eq_getElem]
        rw [hlast] at hsh
        generalize l[q]'(by omega) = x at *
        rw [← hn] at hsh hcell hle
        have hx8 := x.toNat_lt
        have hw1 : IntKind.i64.wrap ((q : Int) + 1 - 1) = (q : Int) := by rw [IntKind.wrap_i64]; omega
        have hw2 : IntKind.i64.wrap ((q : Int) + 1 - 2) = (q : Int) - 1 := by rw [IntKind.wrap_i64]; omega
        by_cases hx : x = 10
        · have hxb : ((x.toNat : Int) == 10) = true := by rw [hx]; rfl
          rw [if_pos ⟨h2, by rw [hx]⟩] at hsh
          have hsi : ¬ (76 : Int) < (q : Int) - 1 := by omega
          have hsi2 : ¬ (76 : Int) < (q : Int) + 1 - 2 := by omega
          clear hx hsh hlast hrd hn
          go_wp2
          go_roundw
          case rel => exact ⟨k + 1, by omega, by go_num, by trivial⟩
          case measure => simp [intOf]; omega
        · have hxb : ((x.toNat : Int) == 10) = false := by
            rw [beq_eq_false_iff_ne]
            intro h
            exact hx (UInt8.toNat_inj.1 (by have : (10 : UInt8).toNat = 10 := rfl; omega))
          rw [if_neg (by rintro ⟨_, h⟩; injection h with h; exact hx h)] at hsh
          have hsi : ¬ (76 : Int) < (q : Int) + 1 := by omega
          clear hx hsh hlast hrd hn
          go_wp2
          go_roundw
          case rel => exact ⟨k + 1, by omega, by go_num, by trivial⟩
          case measure => simp [intOf]; omega
      · rw [if_neg (by rw [← hn]; rintro ⟨h, _⟩; exact h2 h)] at hsh
        have h2i : ¬ (2 : Int) ≤ n := by omega
        rw [← hn] at hsh hcell hle
        have hsi : ¬ (76 : Int) < n := by omega
        clear hsh hrd hn
        go_wp2
        go_roundw
        case rel => exact ⟨k + 1, by omega, by go_num, by trivial⟩
        case measure => simp [intOf]; omega
    · have hlti : ¬ (k : Int) < nl := by omega
      go_wp2
      go_ret
      exact ⟨rfl, HB.out⟩
end Go.Proofs.YtgaccogekmaijaaDoor
