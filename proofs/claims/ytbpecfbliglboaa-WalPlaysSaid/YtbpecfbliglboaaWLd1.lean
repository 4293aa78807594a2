/- wal: load. -/
import Derived.Test.YtbpecfbliglboaaWRead
import Derived.Test.YtbpecfbliglboaaWHead
import Derived.Test.YtbpecfbliglboaaStr
namespace Go.Proofs.Ytbpecfbliglboaa
open Go.RowKit
set_option linter.unusedVariables false
set_option linter.unusedSimpArgs false
attribute [local irreducible] wpR relOp
theorem conv_rel {B : Nat} {n : Nat} {W : World} {l : List UInt8} {z : ByteArray} {A : Option Addr} {c : Nat} {o : Oper} {a : Act} {x : Operand} (ho : o.op = .convert 33 9 x) (hx : a.eval x = .slice A n c) (hs : Rd W A l) (hn : l.length = n) (hz : z = ⟨l.toArray⟩) :
    relUpon Try.prog (Gr B) W (fun v _ => v = .string z) ((execOp a.eval o).run Try.prog W) := by
  have hr := hs.str n c hn
  unfold execOp
  simp only [ho, Sem.run_bind, Sem.run_pure, Result.andThen_ok, hx, hr]
  exact ⟨Gr.refl _ _, by rw [hz]⟩
theorem wread_rel {B : Nat} (W : World) (A : Option Addr) (n c : Nat) (l : List UInt8) (V : Nat) (hB : B ≤ W.heap.size) (hr : Rd W A l) (hn : l.length = n) (h4 : 4 ≤ n) (hl : n ≤ 1000000) (hV : Hid (RecMath.rd (l.take 4) = V)) :
    Calls Try.prog 62 #[.slice A n c] W fun e w' => ∃ v, e = .returned v ∧ Gr B W w' ∧ v = .int .i64 V := by
  refine (wread_any W A n c l hr hn.symm h4 hl).mono ?_
  rintro e w1 ⟨rfl, hb⟩
  exact ⟨_, rfl, Gr.of_below hb hB, by rw [hV.out]⟩
def magicS : ByteArray := ⟨#[70, 82, 75, 49]⟩
def ldTbl (z : ByteArray) (V X : Nat) : Nat → Option Sp
  | 2 => some (.val (.string z))
  | 7 => some (.val (.int .i64 V))
  | 10 => some (.lit 33)
  | 11 => some (.val (.int .u32 X))
  | _ => none
set_option maxRecDepth 20000 in
set_option maxHeartbeats 8000000 in
theorem wload_no1 (w : World) (vl : Value) (A : Option Addr) (c : Nat) (l : List UInt8) (hr : Rd w A l) (hl : l.length = 512) (hc : 512 ≤ c) (hbad : l.take 4 ≠ WalMath.magic) :
    Calls Try.prog 52 #[vl, .slice A 512 c] w fun e w' => e = .returned (.bool false) ∧ Below w.heap.size w w' := by
  obtain ⟨z, hz⟩ : ∃ z : ByteArray, z = ⟨(l.take 4).toArray⟩ := ⟨_, rfl⟩
  have hne : (z.toList == [70, 82, 75, 49]) = false := by
    rw [beq_eq_false_iff_ne, Lib.toList_data, hz]
    exact hbad
  have hz4 : (l.take 4).length = 4 := by rw [List.length_take]; omega
  have HZ := Lib.hid hz; have HZ4 := Lib.hid hz4; have HR := Lib.hid (hr.take 4)
  have b1 : (4 : Int) ≤ c := by omega
  clear hz hz4 hbad hr hl
  go_enter Try.func52, Try.ntmps52
  go_wp2_with fail
  refine wp_region_tbl _ (ldTbl z 0 0) (w.heap.size) (by kernel_rfl) (by kernel_rfl) (by kernel_rfl) ?_
  have hrW : ∀ W, Gr w.heap.size w.drew W → Rd W A (l.take 4) := fun W h => HR.out.below (Below.trans (Below.drew (Below.refl _ w)) h.1)
  have HRW := Lib.hid hrW; clear hrW
  (refine wpR_plain ?_ (by rfl) (fun K hK => ?_); (focus (first | (simp only [Region.wanted]; done) | (go_simp; done))); apply Exists.intro; refine ⟨fun W hW => ?_, ?_⟩; (go_simp; (try simp only [plainUpon_value, true_and]); rfl); go_simp; refine hK _ ?_; clear hK K)
  (refine wpR_plain ?_ (by rfl) (fun K hK => ?_); (focus (first | (simp only [Region.wanted]; done) | (go_simp; done))); apply Exists.intro; refine ⟨fun W hW => ?_, ?_⟩; (go_simp; (try simp only [plainUpon_value, true_and]); rfl); go_simp; refine hK _ ?_; clear hK K)
  (refine wpR_val (by rfl) ?_ (fun W hW hF => ?_) (fun K hK => ?_); (focus (first | (simp only [Region.wanted]; done) | (go_simp; done))); (exact conv_rel rfl rfl (HRW.out W hW) HZ4.out HZ.out); go_simp; refine hK _ ?_; clear hK K)
  (refine wpR_plain ?_ (by rfl) (fun K hK => ?_); (focus (first | (simp only [Region.wanted]; done) | (go_simp; done))); apply Exists.intro; refine ⟨fun W hW => ?_, ?_⟩; (go_simp; (try simp only [plainUpon_value, true_and]); rfl); go_simp; refine hK _ ?_; clear hK K)
  (refine wpR_plain ?_ (by rfl) (fun K hK => ?_); (focus (first | (simp only [Region.wanted]; done) | (go_simp; done))); apply Exists.intro; refine ⟨fun W hW => ?_, ?_⟩; (go_simp; (try simp only [plainUpon_value, true_and]); rfl); go_simp; refine hK _ ?_; clear hK K)
  repeat (first
    | (refine wpR_skip ?_ (fun K hK => ?_); (focus (first | (simp only [Region.wanted]; done) | (go_simp; done))); go_simp; refine hK _ ?_; clear hK K)
    | (refine wpR_plain ?_ (by rfl) (fun K hK => ?_); (focus (first | (simp only [Region.wanted]; done) | (go_simp; done))); apply Exists.intro; refine ⟨fun W hW => ?_, ?_⟩; (go_simp; (try simp only [plainUpon_value, true_and]); rfl); go_simp; refine hK _ ?_; clear hK K))
  refine wpR_nil (fun W hW hF => ?_)
  clear hF
  have HB := Lib.hid (Below.trans (Below.drew (Below.refl _ w)) hW.1)
  clear hW
  go_wp2
  go_ret
  exact ⟨rfl, HB.out⟩
theorem conv_magic : (⟨WalMath.magic.toArray⟩ : ByteArray) = ⟨#[70, 82, 75, 49]⟩ := rfl
set_option maxRecDepth 20000 in
set_option maxHeartbeats 8000000 in
theorem wload_no2 (w : World) (vl : Value) (A : Option Addr) (c : Nat) (l : List UInt8) (hr : Rd w A l) (hl : l.length = 512) (hc : 512 ≤ c) (hm : l.take 4 = WalMath.magic) (hbad : WalMath.rd4 l 24 ≠ WalMath.crc (l.take 24)) :
    Calls Try.prog 52 #[vl, .slice A 512 c] w fun e w' => e = .returned (.bool false) ∧ Below w.heap.size w w' := by
  obtain ⟨z, hz⟩ : ∃ z : ByteArray, z = ⟨(l.take 4).toArray⟩ := ⟨_, rfl⟩
  have hne : (z.toList == [70, 82, 75, 49]) = true := by
    rw [beq_iff_eq, Lib.toList_data, hz]
    exact hm
  obtain ⟨V, hV⟩ : ∃ V, WalMath.rd4 l 24 = V := ⟨_, rfl⟩
  obtain ⟨X, hX⟩ : ∃ X, X = CrcMath.of [l.take 24] := ⟨_, rfl⟩
  have hXc : X.toNat = WalMath.crc (l.take 24) := by rw [hX, CrcMath.of_eq]; simp [WalMath.crc]
  rw [hV, ← hXc] at hbad
  have hX2 := X.isLt
  have hVX : ((V : Int) != (X.toNat : Int)) = true := by simp; omega
  have hwX : IntKind.i64.wrap (X.toNat : Int) = X.toNat := by rw [IntKind.wrap_i64]; omega
  have HZ := Lib.hid hz; have HZ4 : Hid ((l.take 4).length = 4) := Lib.hid (by rw [List.length_take]; omega)
  have HR := Lib.hid hr; have HV := Lib.hid hV; have HX := Lib.hid hX
  have HL24 : Hid ((l.drop 24).length = 488) := Lib.hid (by rw [List.length_drop]; omega)
  have HT24 : Hid ((l.take 24).length = 24) := Lib.hid (by rw [List.length_take]; omega)
  obtain ⟨a, rfl⟩ := hr.some (by omega)
  have b1 : (4 : Int) ≤ c := by omega
  have b2 : (24 : Int) ≤ c := by omega
  have b3 : ¬ c = 24 := by omega
  have b4 : (512 : Int) ≤ c := by omega
  clear hz hm hr hl hbad hXc hV hX
  go_enter Try.func52, Try.ntmps52
  go_wp2_with fail
  refine wp_region_tbl _ (ldTbl z V X.toNat) (w.heap.size) (by kernel_rfl) (by kernel_rfl) (by kernel_rfl) ?_
  have hrW : ∀ W, Gr w.heap.size w.drew W → Rd W (some a) l := fun W h => HR.out.below (Below.trans (Below.drew (Below.refl _ w)) h.1)
  have hsW : ∀ W, Gr w.heap.size w.drew W → w.heap.size ≤ W.heap.size := fun W h => h.size
  have HRW := Lib.hid hrW; have HSW := Lib.hid hsW; clear hrW hsW
  (refine wpR_plain ?_ (by rfl) (fun K hK => ?_); (focus (first | (simp only [Region.wanted]; done) | (go_simp; done))); apply Exists.intro; refine ⟨fun W hW => ?_, ?_⟩; (go_simp; (try simp only [plainUpon_value, true_and]); rfl); go_simp; refine hK _ ?_; clear hK K)
  (refine wpR_plain ?_ (by rfl) (fun K hK => ?_); (focus (first | (simp only [Region.wanted]; done) | (go_simp; done))); apply Exists.intro; refine ⟨fun W hW => ?_, ?_⟩; (go_simp; (try simp only [plainUpon_value, true_and]); rfl); go_simp; refine hK _ ?_; clear hK K)
  (refine wpR_val (by rfl) ?_ (fun W hW hF => ?_) (fun K hK => ?_); (focus (first | (simp only [Region.wanted]; done) | (go_simp; done))); (exact conv_rel rfl rfl ((HRW.out W hW).take 4) HZ4.out HZ.out); go_simp; refine hK _ ?_; clear hK K)
  (refine wpR_plain ?_ (by rfl) (fun K hK => ?_); (focus (first | (simp only [Region.wanted]; done) | (go_simp; done))); apply Exists.intro; refine ⟨fun W hW => ?_, ?_⟩; (go_simp; (try simp only [plainUpon_value, true_and]); rfl); go_simp; refine hK _ ?_; clear hK K)
  (refine wpR_plain ?_ (by rfl) (fun K hK => ?_); (focus (first | (simp only [Region.wanted]; done) | (go_simp; done))); apply Exists.intro; refine ⟨fun W hW => ?_, ?_⟩; (go_simp; (try simp only [plainUpon_value, true_and]); rfl); go_simp; refine hK _ ?_; clear hK K)
  (refine wpR_plain ?_ (by rfl) (fun K hK => ?_); (focus (first | (simp only [Region.wanted]; done) | (go_simp; done))); apply Exists.intro; refine ⟨fun W hW => ?_, ?_⟩; (go_simp; (try simp only [plainUpon_value, true_and]); rfl); go_simp; refine hK _ ?_; clear hK K)
  (refine wpR_plain ?_ (by rfl) (fun K hK => ?_); (focus (first | (simp only [Region.wanted]; done) | (go_simp; done))); apply Exists.intro; refine ⟨fun W hW => ?_, ?_⟩; (go_simp; (try simp only [plainUpon_value, true_and]); rfl); go_simp; refine hK _ ?_; clear hK K)
  (refine wpR_val (by rfl) ?_ (fun W hW hF => ?_) (fun K hK => ?_); (focus (first | (simp only [Region.wanted]; done) | (go_simp; done))); (go_simp; simp only [relUpon_enter]; exact wread_rel W (some (a.add 24)) 488 (c - 24) (l.drop 24) V (HSW.out W hW) ((HRW.out W hW).drop 24) HL24.out (by decide) (by decide) HV); go_simp; refine hK _ ?_; clear hK K)
  (refine wpR_plain ?_ (by rfl) (fun K hK => ?_); (focus (first | (simp only [Region.wanted]; done) | (go_simp; done))); apply Exists.intro; refine ⟨fun W hW => ?_, ?_⟩; (go_simp; (try simp only [plainUpon_value, true_and]); rfl); go_simp; refine hK _ ?_; clear hK K)
  (refine wpR_plain ?_ (by rfl) (fun K hK => ?_); (focus (first | (simp only [Region.wanted]; done) | (go_simp; done))); apply Exists.intro; refine ⟨fun W hW => ?_, ?_⟩; (go_simp; (try simp only [plainUpon_value, true_and]); rfl); go_simp; refine hK _ ?_; clear hK K)
  (refine wpR_lit (by rfl) ?_ (Nat.le_refl _) ?_; (focus (first | (simp only [Region.wanted]; done) | (go_simp; done))); apply Exists.intro; apply Exists.intro; refine ⟨fun W => ?_, ?_, ?_, fun K g hK => ?_⟩; (go_simp; exact ⟨rfl, rfl⟩); rfl; (simp only [Oper.argv, Op.operands]; go_simp); go_simp; refine hK _ ?_; clear hK K)
  (refine wpR_val (by rfl) ?_ (fun W hW hF => ?_) (fun K hK => ?_); (focus (first | (simp only [Region.wanted]; done) | (go_simp; done))); (go_simp; simp only [relUpon_enter]; obtain ⟨fr, hb⟩ := hF 10 rfl; exact crcof_rel W _ 1 [.slice (some a) 24 c] [l.take 24] (HSW.out W hW) hb ⟨⟨_, _, by rw [HT24.out], by rw [HT24.out]; omega, (HRW.out W hW).take 24⟩, trivial⟩ rfl (by decide) X HX); go_simp; refine hK _ ?_; clear hK K)
  repeat (first
    | (refine wpR_plain ?_ (by rfl) (fun K hK => ?_); (focus (first | (simp only [Region.wanted]; done) | (go_simp; done))); apply Exists.intro; refine ⟨fun W hW => ?_, ?_⟩; (go_simp; (try simp only [plainUpon_value, true_and]); rfl); go_simp; refine hK _ ?_; clear hK K)
    | (refine wpR_skip ?_ (fun K hK => ?_); (focus (first | (simp only [Region.wanted]; done) | (go_simp; done))); go_simp; refine hK _ ?_; clear hK K))
  refine wpR_nil (fun W hW hF => ?_)
  clear hF
  have HB := Lib.hid (Below.trans (Below.drew (Below.refl _ w)) hW.1)
  clear hW
  go_wp2
  go_ret
  exact ⟨rfl, HB.out⟩
end Go.Proofs.Ytbpecfbliglboaa
