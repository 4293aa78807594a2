/- The reference reads bytes as they were written. -/
import Derived.Test.YtgaccogekmaijaaDoorCoRh
import Derived.Test.YtgaccogekmaijaaDoorCoRf
import Derived.Test.YtgaccogekmaijaaDoorCoRg
import Derived.Test.YtgaccogekmaijaaDoorCoRq
namespace Go.Proofs.YtgaccogekmaijaaDoor
open Go.RowKit Go.Maps
set_option linter.unusedVariables false
set_option linter.unusedSimpArgs false
set_option maxRecDepth 20000 in
set_option maxHeartbeats 4000000 in
theorem rdecode_any (w : World) (how : ByteArray) (A : Option Addr) (n c : Nat) (b : List UInt8) (hh : how.size ≤ 140737488351232) (hr : Rd w A b) (hn : b.length = n) (hc : n ≤ c) (hcap : c ≤ 9223372036854775807) (hl : n ≤ 1000000) :
    Calls Tryd.prog 18 #[.string how, .slice A n c] w fun e w' => ∃ v, e = .returned v ∧ Rv w' v (CodeMath.decodeS how.data.toList b) ∧ Below w.heap.size w w' := by
  have HSM := Lib.hid (fold_any w how hh)
  have hdef : CodeMath.decodeS how.data.toList b = if how.data.toList.map CodeMath.foldB = [98, 97, 115, 101, 54, 52] then (match CodeMath.dec b with | some x => x | none => b)
      else if how.data.toList.map CodeMath.foldB = [113, 117, 111, 116, 101, 100, 45, 112, 114, 105, 110, 116, 97, 98, 108, 101] then CodeMath.fqS b else b := rfl
  generalize CodeMath.decodeS how.data.toList b = res at *
  generalize how.data.toList.map CodeMath.foldB = fl at *
  obtain ⟨S, hS⟩ : ∃ S : ByteArray, S = ⟨fl.toArray⟩ := ⟨_, rfl⟩
  have hSl : S.toList = fl := by rw [Lib.toList_data, hS]
  rw [← hS] at HSM
  have HR := Lib.hid hr; have HN := Lib.hid hn
  clear hr hn hS hh
  by_cases h1 : fl = [98, 97, 115, 101, 54, 52]
  · have hb1 : (S.toList == [98, 97, 115, 101, 54, 52]) = true := by rw [hSl, h1]; rfl
    rw [if_pos h1] at hdef
    have HD := Lib.hid hdef
    clear hdef hSl h1
    go_enter Tryd.func18, Tryd.ntmps18
    go_wp2_with fail
    refine HSM.out.mono ?_
    rintro e w1 ⟨rfl, hb⟩
    have HB1 := Lib.hid hb
    have HDN := Lib.hid (rdec_any w1 A n c b (HR.out.below hb) HN.out hc hl)
    clear hb HSM
    go_wp2_with fail
    refine HDN.out.mono ?_
    clear HDN
    rintro e w2 ⟨hb2, ⟨l, v, hd, rfl, ho⟩ | ⟨hd, rfl⟩⟩
    · have HRES : Hid (res = l) := Lib.hid (by rw [HD.out, hd])
      have HB2 := Lib.hid (below_then HB1.out HB1.out.size hb2)
      have HO := Lib.hid ho.rv
      clear hb2 hd ho
      go_wp2
      go_ret
      exact ⟨_, rfl, by rw [HRES.out]; exact HO.out, HB2.out⟩
    · have HRES : Hid (res = b) := Lib.hid (by rw [HD.out, hd])
      have HB2 := Lib.hid (below_then HB1.out HB1.out.size hb2)
      clear hb2 hd
      go_wp2
      go_ret
      exact ⟨_, rfl, by rw [HRES.out]; exact Rv.of (HR.out.below HB2.out) HN.out hc, HB2.out⟩
  · have hb1 : (S.toList == [98, 97, 115, 101, 54, 52]) = false := by rw [hSl, beq_eq_false_iff_ne]; exact h1
    rw [if_neg h1] at hdef
    by_cases h2 : fl = [113, 117, 111, 116, 101, 100, 45, 112, 114, 105, 110, 116, 97, 98, 108, 101]
    · have hb2 : (S.toList == [113, 117, 111, 116, 101, 100, 45, 112, 114, 105, 110, 116, 97, 98, 108, 101]) = true := by rw [hSl, h2]; rfl
      rw [if_pos h2] at hdef
      have HD := Lib.hid hdef
      clear hdef hSl h1 h2
      go_enter Tryd.func18, Tryd.ntmps18
      go_wp2_with fail
      refine HSM.out.mono ?_
      rintro e w1 ⟨rfl, hb⟩
      have HB1 := Lib.hid hb
      have HDN := Lib.hid (rfq_any w1 A n c b (HR.out.below hb) HN.out hc hl)
      clear hb HSM
      go_wp2_with fail
      refine HDN.out.mono ?_
      clear HDN
      rintro e w2 ⟨v, rfl, ho, hb2'⟩
      have HB2 := Lib.hid (below_then HB1.out HB1.out.size hb2')
      have HO := Lib.hid ho.rv
      clear hb2' ho
      go_wp2
      go_ret
      exact ⟨_, rfl, by rw [HD.out]; exact HO.out, HB2.out⟩
    · have hb2 : (S.toList == [113, 117, 111, 116, 101, 100, 45, 112, 114, 105, 110, 116, 97, 98, 108, 101]) = false := by rw [hSl, beq_eq_false_iff_ne]; exact h2
      rw [if_neg h2] at hdef
      have HD := Lib.hid hdef
      clear hdef hSl h1 h2
      go_enter Tryd.func18, Tryd.ntmps18
      go_wp2_with fail
      refine HSM.out.mono ?_
      rintro e w1 ⟨rfl, hb⟩
      have HB1 := Lib.hid hb
      clear hb HSM
      go_wp2
      go_ret
      exact ⟨_, rfl, by rw [HD.out]; exact Rv.of (HR.out.below HB1.out) HN.out hc, HB1.out⟩
end Go.Proofs.YtgaccogekmaijaaDoor
