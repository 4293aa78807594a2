/- The device and the reference's device side by side. -/
import Derived.Test.YtbpecfbliglboaaRdFuse
namespace Go.Proofs.Ytbpecfbliglboaa
open Go.RowKit Go.Maps
set_option linter.unusedVariables false
set_option linter.unusedSimpArgs false
def RS (W : World) (B r : Nat) (vs : Value) (d : DevMath.Dev) : Prop := ∃ rf vl vk ss ws, RdM W B r rf vs vl vk d ss ws
theorem RS.tk {w w1 : World} {B r : Nat} {vs : Value} {d : DevMath.Dev} (h : RS w B r vs d) (ht : TK w w1) : RS w1 B r vs d := by
  obtain ⟨rf, vl, vk, ss, ws, h⟩ := h
  exact ⟨rf, vl, vk, ss, ws, h.tr (TR.of_tk ht)⟩
theorem RS.below {w w1 : World} {B r : Nat} {vs : Value} {d : DevMath.Dev} (h : RS w B r vs d) (hb : Below w.heap.size w w1) : RS w1 B r vs d := by
  obtain ⟨rf, vl, vk, ss, ws, h⟩ := h
  exact ⟨rf, vl, vk, ss, ws, h.tr (TR.of_below hb)⟩
/-- the reference's calls leave the device -/
theorem DS.ref {w0 w w1 : World} {B g r : Nat} {vs : Value} {d d2 : DevMath.Dev} (h : DS w0 w B g d) (hr : RS w B r vs d2) (hc : Chg (OwnR r vs) w w1) : DS w0 w1 B g d := by
  obtain ⟨m, vc, vk, q1, q2, q3, q4, q5⟩ := h
  obtain ⟨rf, vl, vk2, ss, ws, hr⟩ := hr
  refine ⟨m, vc, vk, q1.apart hc (fun k hk hown => ?_) (hr.not (by decide) (by decide)) (hr.not (by decide) (by decide)), q2, q3, Chg.below q4 hc q5 (fun k hk => hr.low k hk), Nat.le_trans q5 hc.size⟩
  obtain ⟨cs, t, e, ht⟩ := hr.typ k hk
  exact q1.not8 (t := t) (by rcases ht with rfl | rfl <;> decide) (by rcases ht with rfl | rfl <;> decide) k hown cs _ e
end Go.Proofs.Ytbpecfbliglboaa
