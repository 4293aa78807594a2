/- The law's sector: 512 times a byte. -/
import Derived.Test.YtbpecfbliglboaaDev2
namespace Go.Proofs.Ytbpecfbliglboaa
open Go.RowKit
set_option linter.unusedVariables false
set_option linter.unusedSimpArgs false
set_option maxRecDepth 20000 in
theorem sect_any (w : World) (c : UInt8) : Calls Try.prog 16 #[.int .u8 (c.toNat : Int)] w fun e w' => ∃ v, e = .returned v ∧ Sl w' v (List.replicate 512 c) ∧ Below w.heap.size w w' := by
  obtain ⟨mc, hmc⟩ : ∃ mc, mc = madeCells #[.int .u8 0] 512 := ⟨_, rfl⟩
  have hmk : ∀ W : World, (Instr.makeSlice 33 (.int .i64 512) (.int .i64 512)).run Try.prog W = .ok (.slice (some ⟨W.heap.size, 0, none⟩) 512 512) (W.alloc (.cells mc 5)) := by
    intro W
    rw [hmc]
    exact make_bytes (P := Try.prog) 33 5 Try.underlying33 info_u8 512 (by decide) W
  have hM := Mb.made w 5 512 (by decide)
  rw [← hmc] at hM
  have hb : Below w.heap.size w (w.alloc (.cells mc 5)) := (Below.refl _ w).alloc (Nat.le_refl _) _
  have HM := Lib.hid hM; have HB := Lib.hid hb
  clear hmc hM hb
  go_enter Try.func16, Try.ntmps16
  go_wp2
  go_loopw [4] (fun i wr => ∃ k : Nat, k ≤ 512 ∧ i = .int .i64 k ∧ Below w.heap.size w wr ∧ Mb wr w.heap.size 5 (List.replicate k c ++ List.replicate (512 - k) 0)) (fun i _ => 512 - (intOf i).toNat)
  case atStart => exact ⟨0, by omega, rfl, HB.out, by simpa using HM.out⟩
  case round =>
    obtain ⟨k, hk, rfl, hb, hm⟩ := hrel
    by_cases hlt : k < 512
    · obtain ⟨hc, hf⟩ := hm.cell k (by simp; omega)
      have hset := hm.set k c
      have e : (List.replicate k c ++ List.replicate (512 - k) 0).set k c = List.replicate (k + 1) c ++ List.replicate (512 - (k + 1)) 0 := by
        rw [List.set_append_right _ _ (by simp), List.length_replicate, Nat.sub_self, show 512 - k = (512 - (k + 1)) + 1 by omega, List.replicate_succ, List.set_cons_zero, List.replicate_succ', List.append_assoc]
        rfl
      rw [e] at hset
      have HS := Lib.hid hset; have HB := Lib.hid hb
      generalize (List.replicate k c ++ List.replicate (512 - k) 0)[k]'(by simp; omega) = old at hc
      clear hset hb hm e
      go_wp2
      go_roundw
      case rel => exact ⟨k + 1, by omega, by go_num, HB.out.setCell (p := ⟨w.heap.size, k, none⟩) (Nat.le_refl _) _, HS.out⟩
      case measure => simp [intOf]; omega
    · obtain rfl : k = 512 := by omega
      have HM := Lib.hid hm; have HB := Lib.hid hb
      clear hm hb
      go_wp2
      go_ret
      have hm := HM.out
      simp only [Nat.sub_self, List.replicate_zero, List.append_nil] at hm
      have hlen : (List.replicate 512 c).length = 512 := List.length_replicate
      refine ⟨.slice (some ⟨w.heap.size, 0, none⟩) 512 512, rfl, ⟨_, 512, by rw [hlen], by rw [hlen]; exact Nat.le_refl _, hm.rd, fun a e => ?_⟩, HB.out⟩
      injection e with e
      subst e
      obtain ⟨_, cur, hh, _⟩ := hm
      exact ⟨_, _, hh⟩
end Go.Proofs.Ytbpecfbliglboaa
