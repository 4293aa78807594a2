/- The law KvPlays, walked; its arguments as the row gives them. -/
import Derived.Test.YtgaccogekmaijaaKvPl
namespace Go.Proofs.Ytgaccogekmaijaa
open Go.RowKit
theorem PutLs.of_row {w : World} {A : Option Addr} {xss : List (List PutD)} (h : Row (KSlice KPut 3 48) 1 w A xss) : PutLs w A xss := fun hp => by
  obtain ⟨a, e, hr⟩ := h hp
  refine ⟨a, e, fun i hi => ?_⟩
  obtain ⟨cs, h1, ⟨Ai, ci, h2, h3, _, _, h4⟩, h5⟩ := hr i hi
  subst h2
  have h6 := h5 0 (by simp)
  rw [Nat.mul_one, Nat.add_zero] at h6
  exact ⟨Ai, ci, h6, h3, h4⟩
theorem KvPlays_walk (A : Option Addr) (c : Nat) (xss : List (List PutD)) (fr to : ByteArray) (most : Int) (Ab : Option Addr) (cb : Nat) (bs : List UInt8) (w : World) (hr : Row (KSlice KPut 3 48) 1 w A xss) (hc : xss.length ≤ c) (hl : xss.length * 24 ≤ 140737488351232) (w1 : fr.size ≤ 140737488351232) (w2 : to.size ≤ 140737488351232) (w3 : (Lit.int .i64 most).wf = true) (hrb : Rd w Ab bs) (hcb : bs.length ≤ cb) (hlb : bs.length ≤ 140737488351232) :
    Calls Try.prog 6 #[.slice A xss.length c, .string fr, .string to, .int .i64 most, .slice Ab bs.length cb] w fun e w' => e = .returned (.bool true) ∧ Below w.heap.size w w' :=
  KvPlays_any A c xss fr to most Ab cb bs w (PutLs.of_row hr) hc hrb hcb
end Go.Proofs.Ytgaccogekmaijaa
