/- The law DevFuse, walked: any arguments. -/
import Derived.Test.YtbpecfbliglboaaDFuse2
namespace Go.Proofs.Ytbpecfbliglboaa
open Go.RowKit Go.Maps
set_option linter.unusedVariables false
set_option linter.unusedSimpArgs false
set_option maxRecDepth 20000 in
theorem DevFuse_walk (A1 : Option Addr) (c1 : Nat) (xs : List ActD) (calls : Int) (Ak : Option Addr) (ck : Nat) (keep : List Int) (torn : Int) (w : World) (hr1 : Row KAct 5 w A1 xs) (hc1 : xs.length ≤ c1) (hl1 : xs.length * 56 ≤ 140737488351232) (wc : (Lit.int .i64 calls).wf = true) (hr3 : Row (KInt .i64) 1 w Ak keep) (hc3 : keep.length ≤ ck) (hl3 : keep.length * 8 ≤ 140737488351232) (wt : (Lit.int .i64 torn).wf = true) :
    Calls Try.prog 5 #[.slice A1 xs.length c1, .int .i64 calls, .slice Ak keep.length ck, .int .i64 torn] w fun e w' => e = .returned (.bool true) ∧ Below w.heap.size w w' := by
  by_cases h : xs.length ≤ 25 ∧ 1 ≤ calls ∧ calls ≤ 30 ∧ keep.length ≤ 25
  · exact DevFuse_ok A1 Ak c1 ck xs calls keep torn w hr1 (IntR.of_row hr3 hc3) wt h.1 h.2.1 h.2.2.1 h.2.2.2
  · clear hr1 hr3 wc wt
    generalize xs.length = n1 at *
    generalize keep.length = n3 at *
    by_cases h1 : n1 ≤ 25
    · by_cases h2 : 1 ≤ calls
      · by_cases h2b : calls ≤ 30
        · have h3 : 25 < n3 := by omega
          clear h
          go_enter Try.func5, Try.ntmps5
          go_wp2_with fail
          refine (awake4_any _).mono ?_
          rintro e w1 ⟨rfl, hb1⟩
          have HB1 := Lib.hid hb1
          clear hb1
          go_wp2_with fail
          go_ret
          exact ⟨rfl, HB1.out⟩
        · have h3 : 30 < calls := by omega
          clear h
          go_enter Try.func5, Try.ntmps5
          go_wp2_with fail
          refine (awake4_any _).mono ?_
          rintro e w1 ⟨rfl, hb1⟩
          have HB1 := Lib.hid hb1
          clear hb1
          go_wp2_with fail
          go_ret
          exact ⟨rfl, HB1.out⟩
      · have h3 : calls < 1 := by omega
        clear h
        go_enter Try.func5, Try.ntmps5
        go_wp2_with fail
        refine (awake4_any _).mono ?_
        rintro e w1 ⟨rfl, hb1⟩
        have HB1 := Lib.hid hb1
        clear hb1
        go_wp2_with fail
        go_ret
        exact ⟨rfl, HB1.out⟩
    · have h3 : 25 < n1 := by omega
      clear h
      go_enter Try.func5, Try.ntmps5
      go_wp2_with fail
      refine (awake4_any _).mono ?_
      rintro e w1 ⟨rfl, hb1⟩
      have HB1 := Lib.hid hb1
      clear hb1
      go_wp2_with fail
      go_ret
      exact ⟨rfl, HB1.out⟩
end Go.Proofs.Ytbpecfbliglboaa
