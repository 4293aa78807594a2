/- Ready. -/
import Derived.Test.YthecekkophbceaaQMove
namespace Go.Proofs.Ythecekkophbceaa
open Go.RowKit Go.Conc
set_option linter.unusedVariables false
set_option linter.unusedSimpArgs false
theorem results_tmp3 {fn : Func} {p u x : Tmp} (h : fn.results = #[.tmp p, .tmp u, .tmp x]) (tmps : Array Value) (P : Program) (w : World) :
    (results fn tmps).run P w = .ok (.tuple #[tmps.getD p undef, tmps.getD u undef, tmps.getD x undef]) w := by
  simp [results, h]
/-- pointers to queues, read from A on -/
def Rdp (w : World) (A : Option Addr) (ps : List (Option Nat)) : Prop := 0 < ps.length → ∃ a, A = some a ∧ ∀ j, (h : j < ps.length) → w.cell? (a.add j) = some (.pointer (ps[j].map fun g => ⟨g, 0, none⟩))
def Emp (w : World) (p : Option Nat) : Prop := ∀ g, p = some g → ∃ ch cap closed, Qu w g ch cap [] closed
theorem take_emp (w : World) (p : Option Nat) (h : Emp w p) : Calls Try.prog 11 #[.pointer (p.map fun g => ⟨g, 0, none⟩)] w fun e w' => e = .returned (.tuple #[.slice none 0 0, .bool false]) ∧ w' = w := by
  cases p with
  | none => exact take_nil w
  | some g =>
    obtain ⟨ch, cap, closed, hq⟩ := h g rfl
    exact take_none w g ch cap closed hq
theorem ready_none (w : World) (A : Option Addr) (c : Nat) (ps : List (Option Nat)) (hr : Rdp w A ps) (hc : ps.length ≤ c) (hn : ps.length < 1000000) (he : ∀ i, (hi : i < ps.length) → Emp w ps[i]) :
    Calls Try.prog 16 #[.slice A ps.length c] w fun e w' => e = .returned (.tuple #[.int .i64 0, .slice none 0 0, .bool false]) ∧ w' = w := by
  obtain ⟨n, hnn⟩ : ∃ n, n = ps.length := ⟨_, rfl⟩
  rw [← hnn] at hc hn ⊢
  have HN := Lib.hid hnn
  clear hnn
  go_enter Try.func16, Try.ntmps16
  go_wp2_with fail
  go_loopw [11] (fun i wr => ∃ j : Nat, j ≤ n ∧ i = .int .i64 j ∧ wr = w) (fun i _ => n - (intOf i).toNat)
  case atStart => exact ⟨0, by omega, rfl, rfl⟩
  case round =>
    obtain ⟨j, hj, rfl, rfl⟩ := hrel
    by_cases hlt : j < n
    · obtain ⟨a, rfl, hcell⟩ := hr (by rw [← HN.out]; omega)
      have hcj := hcell j (by rw [← HN.out]; exact hlt)
      have hte := take_emp _ _ (he j (by rw [← HN.out]; exact hlt))
      generalize ps[j]'(by rw [← HN.out]; exact hlt) = p at hcj hte
      generalize Option.map (fun g => (⟨g, 0, none⟩ : Addr)) p = pv at hcj hte
      clear hcell
      go_wp2_with fail
      refine hte.mono ?_
      rintro e w3 ⟨rfl, rfl⟩
      clear hcj hte
      go_wp2
      go_roundw
      case rel => exact ⟨j + 1, by omega, by go_num, trivial⟩
      case measure => simp [intOf]; omega
    · obtain rfl : j = n := by omega
      clear hr he
      go_wp2
      refine bodyPost_ret (results_tmp3 rfl _ _ _) rfl ?_
      exact ⟨rfl, rfl⟩
theorem ready_hit (w : World) (A : Option Addr) (c : Nat) (ps : List (Option Nat)) (k g ch cap : Nat) (l : List UInt8) (ls : List (List UInt8)) (closed : Bool) (hr : Rdp w A ps) (hc : ps.length ≤ c) (hn : ps.length < 1000000) (hk : k < ps.length) (hpk : ps[k] = some g)
    (hq : Qu w g ch cap (l :: ls) closed) (he : ∀ i, (hi : i < k) → Emp w (ps[i]'(by omega))) :
    Calls Try.prog 16 #[.slice A ps.length c] w fun e w' => ∃ v, e = .returned (.tuple #[.int .i64 k, v, .bool true]) ∧ Sl w' v l ∧ Qu w' g ch cap ls closed ∧ Chg (· = ch) w w' := by
  obtain ⟨a, rfl, hcell⟩ := hr (by omega)
  have hck := hcell k hk
  rw [hpk] at hck
  have HTake := Lib.hid (take_any w g ch cap l ls closed hq)
  obtain ⟨n, hnn⟩ : ∃ n, n = ps.length := ⟨_, rfl⟩
  have hk2 : k < n := by omega
  rw [← hnn] at hc hn ⊢
  have HN := Lib.hid hnn
  have HCk := Lib.hid hck
  clear hnn hr hck hpk hq
  go_enter Try.func16, Try.ntmps16
  go_wp2_with fail
  go_loopw [11] (fun i wr => ∃ j : Nat, j ≤ k ∧ i = .int .i64 j ∧ wr = w) (fun i _ => n - (intOf i).toNat)
  case atStart => exact ⟨0, by omega, rfl, rfl⟩
  case round =>
    obtain ⟨j, hj, rfl, rfl⟩ := hrel
    by_cases hlt : j < k
    · have hjn : j < n := by omega
      have hcj := hcell j (by rw [← HN.out]; exact hjn)
      have hte := take_emp _ _ (he j hlt)
      generalize ps[j]'(by rw [← HN.out]; exact hjn) = p at hcj hte
      generalize Option.map (fun g => (⟨g, 0, none⟩ : Addr)) p = pv at hcj hte
      clear hcell he
      go_wp2_with fail
      refine hte.mono ?_
      rintro e w3 ⟨rfl, rfl⟩
      clear hcj hte
      go_wp2
      go_roundw
      case rel => exact ⟨j + 1, by omega, by go_num, trivial⟩
      case measure => simp [intOf]; omega
    · obtain rfl : j = k := by omega
      have hcj := HCk.out
      simp only [Option.map_some] at hcj
      clear hcell he
      go_wp2_with fail
      refine HTake.out.mono ?_
      rintro e w3 ⟨v, rfl, hs, hq, hch⟩
      have HR := Lib.hid (And.intro hs (And.intro hq hch))
      clear hs hq hch hcj
      go_wp2
      refine bodyPost_ret (results_tmp3 rfl _ _ _) rfl ?_
      exact ⟨_, rfl, HR.out⟩
end Go.Proofs.Ythecekkophbceaa
