/- QueuePlays: an act as an argument. -/
import Derived.Test.YthecekkophbceaaQPlays0
import Derived.Test.YthecekkophbceaaOpen
namespace Go.Proofs.Ythecekkophbceaa
open Go.RowKit Go.Maps
theorem opn_actq : Opn Try.prog 45 KAct := by
  refine Opn.imp (Opn.struct (n := 4) Try.underlying45 (by kernel_rfl) (OpnF.cons (sz := 1) (by kernel_rfl) (Opn.int Try.underlying3) (OpnF.cons (sz := 1) (by kernel_rfl) (Opn.int Try.underlying3) (OpnF.cons (sz := 1) (by kernel_rfl) (Opn.int Try.underlying3) (OpnF.cons (sz := 1) (by kernel_rfl) (Opn.str Try.underlying9) OpnF.nil))))) ?_
  intro w y cs h
  exact ⟨y, h⟩
end Go.Proofs.Ythecekkophbceaa
