/- Bytes as strings. -/
import Derived.Test.YtbpecfbliglboaaProg
import Derived.Test.YtbpecfbliglboaaRelTail
import Derived.Laws.IdiomStrings
import Derived.Lib.BufferRead
namespace Go.Proofs.Ytbpecfbliglboaa
open Go.RowKit
set_option linter.unusedVariables false
set_option linter.unusedSimpArgs false
theorem Rd.str {w : World} {A : Option Addr} {l : List UInt8} (h : Rd w A l) (n c : Nat) (hn : l.length = n) : (convert 33 9 (.slice A n c)).run Try.prog w = .ok (.string ⟨l.toArray⟩) w := by
  subst hn
  cases A with
  | none =>
    have he : l = [] := by
      rcases l with _ | ⟨x, l⟩
      · rfl
      · obtain ⟨a, h, _⟩ := h.2 (by simp)
        cases h
    subst he
    exact Lib.run_convert_nil_bytes w _ _ 5 c Try.underlying33 Try.underlying5 Try.underlying9
  | some a =>
    refine run_convert_bytes_back w _ _ 5 a c l Try.underlying33 Try.underlying5 Try.underlying9 (fun j hj => ?_)
    obtain ⟨a', e, hc⟩ := h.2 (by omega)
    cases e
    exact hc j hj
end Go.Proofs.Ytbpecfbliglboaa
