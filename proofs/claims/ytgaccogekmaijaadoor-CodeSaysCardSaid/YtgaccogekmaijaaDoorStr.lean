/- Bytes as strings. -/
import Derived.Test.YtgaccogekmaijaaDoorProg
import Derived.Test.YtgaccogekmaijaaDoorRelTail
import Derived.Laws.IdiomStrings
import Derived.Lib.BufferRead
namespace Go.Proofs.YtgaccogekmaijaaDoor
open Go.RowKit
set_option linter.unusedVariables false
set_option linter.unusedSimpArgs false
theorem Rd.str {w : World} {A : Option Addr} {l : List UInt8} (h : Rd w A l) (n c : Nat) (hn : l.length = n) : (convert 22 9 (.slice A n c)).run Tryd.prog w = .ok (.string ⟨l.toArray⟩) w := by
  subst hn
  cases A with
  | none =>
    have he : l = [] := by
      rcases l with _ | ⟨x, l⟩
      · rfl
      · obtain ⟨a, h, _⟩ := h.2 (by simp)
        cases h
    subst he
    exact Lib.run_convert_nil_bytes w _ _ 5 c Tryd.underlying22 Tryd.underlying5 Tryd.underlying9
  | some a =>
    refine run_convert_bytes_back w _ _ 5 a c l Tryd.underlying22 Tryd.underlying5 Tryd.underlying9 (fun j hj => ?_)
    obtain ⟨a', e, hc⟩ := h.2 (by omega)
    cases e
    exact hc j hj
end Go.Proofs.YtgaccogekmaijaaDoor
