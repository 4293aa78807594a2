/- The law DevSafe, walked: any arguments. -/
import Derived.Test.YtbpecfbliglboaaDSafe2
namespace Go.Proofs.Ytbpecfbliglboaa
open Go.RowKit Go.Maps
set_option linter.unusedVariables false
set_option linter.unusedSimpArgs false
set_option maxRecDepth 20000 in
theorem DevSafe_walk (A1 : Option Addr) (c1 : Nat) (xs : List ActD) (A2 : Option Addr) (c2 : Nat) (ys : List ActD) (Ak : Option Addr) (ck : Nat) (keep : List Int) (torn : Int) (w : World) (hr1 : Row KAct 5 w A1 xs) (hc1 : xs.length ≤ c1) (hl1 : xs.length * 56 ≤ 140737488351232) (hr2 : Row KAct 5 w A2 ys) (hc2 : ys.length ≤ c2) (hl2 : ys.length * 56 ≤ 140737488351232) (hr3 : Row (KInt .i64) 1 w Ak keep) (hc3 : keep.length ≤ ck) (hl3 : keep.length * 8 ≤ 140737488351232) (wt : (Lit.int .i64 torn).wf = true) :
    Calls Try.prog 4 #[.slice A1 xs.length c1, .slice A2 ys.length c2, .slice Ak keep.length ck, .int .i64 torn] w fun e w' => e = .returned (.bool true) ∧ Below w.heap.size w w' := by
  by_cases h : xs.length ≤ 20 ∧ ys.length ≤ 20 ∧ keep.length ≤ 20
  · exact DevSafe_ok A1 A2 Ak c1 c2 ck xs ys keep torn w hr1 hr2 (IntR.of_row hr3 hc3) h.1 h.2.1 h.2.2
  · clear hr1 hr2 hr3
    generalize xs.length = n1 at *
    generalize ys.length = n2 at *
    generalize keep.length = n3 at *
    by_cases h1 : n1 ≤ 20
    · by_cases h2 : n2 ≤ 20
      · have h3 : 20 < n3 := by omega
        clear h
        go_enter Try.func4, Try.ntmps4
        go_wp2_with fail
        refine (awake4_any _).mono ?_
        rintro e w1 ⟨rfl, hb1⟩
        have HB1 := Lib.hid hb1
        clear hb1
        go_wp2_with fail
        go_ret
        exact ⟨rfl, HB1.out⟩
      · have h3 : 20 < n2 := by omega
        clear h
        go_enter Try.func4, Try.ntmps4
        go_wp2_with fail
        refine (awake4_any _).mono ?_
        rintro e w1 ⟨rfl, hb1⟩
        have HB1 := Lib.hid hb1
        clear hb1
        go_wp2_with fail
        go_ret
        exact ⟨rfl, HB1.out⟩
    · have h3 : 20 < n1 := by omega
      clear h
      go_enter Try.func4, Try.ntmps4
      go_wp2_with fail
      refine (awake4_any _).mono ?_
      rintro e w1 ⟨rfl, hb1⟩
      have HB1 := Lib.hid hb1
      clear hb1
      go_wp2_with fail
      go_ret
      exact ⟨rfl, HB1.out⟩
end Go.Proofs.Ytbpecfbliglboaa
