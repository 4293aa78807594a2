/- wal: load, the header's numbers. -/
import Derived.Test.YtbpecfbliglboaaWLd1
import Derived.Test.YtbpecfbliglboaaRelTail
import Derived.Test.YtbpecfbliglboaaStg
namespace Go.Proofs.Ytbpecfbliglboaa
open Go.RowKit
set_option linter.unusedVariables false
set_option linter.unusedSimpArgs false
attribute [local irreducible] wpR relOp Stg.wpR Stg.relOp
def ldTbl3 (S : Nat) (R B E C : Nat) : Nat → Option (Stg.SpS (Gr S))
  | 2 => some (.val (.int .i64 R))
  | 5 => some (.val (.int .i64 B))
  | 8 => some (.val (.int .i64 E))
  | 11 => some (.val (.int .i64 C))
  | _ => none
theorem wread_stg {B : Nat} (W : World) (A : Option Addr) (n c : Nat) (l : List UInt8) (V : Nat) (hB : B ≤ W.heap.size) (hr : Rd W A l) (hn : l.length = n) (h4 : 4 ≤ n) (hl : n ≤ 1000000) (hV : Hid (RecMath.rd (l.take 4) = V)) :
    Calls Try.prog 62 #[.slice A n c] W fun e w' => ∃ v, e = .returned v ∧ Gr B W w' ∧ v = .int .i64 V ∧ True :=
  (wread_rel W A n c l V hB hr hn h4 hl hV).mono fun e w1 h => by
    obtain ⟨v, h1, h2, h3⟩ := h
    exact ⟨v, h1, h2, h3, trivial⟩
theorem ldTbl3_ks (S : Nat) (R B E C : Nat) : ∀ i, (ldTbl3 S R B E C i).isSome = [2, 5, 8, 11].contains i := by
  intro i
  match i with
  | 0 | 1 | 2 | 3 | 4 | 5 | 6 | 7 | 8 | 9 | 10 | 11 => rfl
  | n + 12 =>
    simp [ldTbl3]
set_option maxRecDepth 20000 in
set_option maxHeartbeats 8000000 in
theorem wload_no3 {w0 w : World} {BB gd : Nat} {d : DevMath.Dev} (hd : DS w0 w BB gd d) (h1 : 1 ≤ d.sectors) (h2 : d.sectors ≤ 8192) (gl : Nat) (hlg : w.cell? ⟨gl, 0, none⟩ = some (.pointer (some ⟨gd, 0, none⟩)))
    (A : Option Addr) (c : Nat) (l : List UInt8) (hr : Rd w A l) (hl : l.length = 512) (hc : 512 ≤ c) (hm : l.take 4 = WalMath.magic) (hgood : WalMath.rd4 l 24 = WalMath.crc (l.take 24))
    (hbad : 2 ≤ WalMath.rd4 l 4 ∨ WalMath.rd4 l 12 < WalMath.rd4 l 8 ∨ WalMath.room d.sectors < WalMath.rd4 l 12) :
    Calls Try.prog 52 #[.pointer (some ⟨gl, 0, none⟩), .slice A 512 c] w fun e w' => e = .returned (.bool false) ∧ Below w.heap.size w w' := by
  obtain ⟨z, hz⟩ : ∃ z : ByteArray, z = ⟨(l.take 4).toArray⟩ := ⟨_, rfl⟩
  have hne : (z.toList == [70, 82, 75, 49]) = true := by
    rw [beq_iff_eq, Lib.toList_data, hz]
    exact hm
  obtain ⟨X, hX⟩ : ∃ X, X = CrcMath.of [l.take 24] := ⟨_, rfl⟩
  have hXc : X.toNat = WalMath.crc (l.take 24) := by rw [hX, CrcMath.of_eq]; simp [WalMath.crc]
  rw [← hXc] at hgood
  have hX2 := X.isLt
  have hVX : ((X.toNat : Int) != (X.toNat : Int)) = false := by simp
  have hwX : IntKind.i64.wrap (X.toNat : Int) = X.toNat := by rw [IntKind.wrap_i64]; omega
  have HZ := Lib.hid hz; have HZ4 : Hid ((l.take 4).length = 4) := Lib.hid (by rw [List.length_take]; omega)
  have HR := Lib.hid hr; have HV := Lib.hid hgood; have HX := Lib.hid hX
  have HL24 : Hid ((l.drop 24).length = 488) := Lib.hid (by rw [List.length_drop]; omega)
  have HT24 : Hid ((l.take 24).length = 24) := Lib.hid (by rw [List.length_take]; omega)
  have HL4 : Hid ((l.drop 4).length = 508) := Lib.hid (by rw [List.length_drop]; omega)
  have HL8 : Hid ((l.drop 8).length = 504) := Lib.hid (by rw [List.length_drop]; omega)
  have HL12 : Hid ((l.drop 12).length = 500) := Lib.hid (by rw [List.length_drop]; omega)
  have HL16 : Hid ((l.drop 16).length = 496) := Lib.hid (by rw [List.length_drop]; omega)
  obtain ⟨rR, hrR⟩ : ∃ V, WalMath.rd4 l 4 = V := ⟨_, rfl⟩
  obtain ⟨rB, hrB⟩ : ∃ V, WalMath.rd4 l 8 = V := ⟨_, rfl⟩
  obtain ⟨rE, hrE⟩ : ∃ V, WalMath.rd4 l 12 = V := ⟨_, rfl⟩
  obtain ⟨rC, hrC⟩ : ∃ V, WalMath.rd4 l 16 = V := ⟨_, rfl⟩
  rw [hrR, hrB, hrE] at hbad
  obtain ⟨rm, hrm⟩ : ∃ V, V = WalMath.room d.sectors := ⟨_, rfl⟩
  rw [← hrm] at hbad
  have HRR := Lib.hid hrR; have HRB := Lib.hid hrB; have HRE := Lib.hid hrE; have HRC := Lib.hid hrC; have HRM := Lib.hid hrm
  have HD := Lib.hid hd; have HLG := Lib.hid hlg
  obtain ⟨a, rfl⟩ := hr.some (by omega)
  have b1 : (4 : Int) ≤ c := by omega
  have b2 : (24 : Int) ≤ c := by omega
  have b3 : ¬ c = 24 := by omega
  have b4 : (512 : Int) ≤ c := by omega
  have b5 : ¬ c = 4 := by omega
  have b6 : ¬ c = 8 := by omega
  have b7 : ¬ c = 12 := by omega
  have b8 : ¬ c = 16 := by omega
  clear hz hm hr hl hgood hXc hX hrR hrB hrE hrC hrm hd hlg
  go_enter Try.func52, Try.ntmps52
  go_wp2_with fail
  refine wp_region_tbl _ (ldTbl z X.toNat X.toNat) (w.heap.size) (by kernel_rfl) (by kernel_rfl) (by kernel_rfl) ?_
  have hrW : ∀ W, Gr w.heap.size w.drew W → Rd W (some a) l := fun W h => HR.out.below (Below.trans (Below.drew (Below.refl _ w)) h.1)
  have hsW : ∀ W, Gr w.heap.size w.drew W → w.heap.size ≤ W.heap.size := fun W h => h.size
  have HRW := Lib.hid hrW; have HSW := Lib.hid hsW; clear hrW hsW
  (refine wpR_plain ?_ (by rfl) (fun K hK => ?_); (focus (first | (simp only [Region.wanted]; done) | (go_simp; done))); apply Exists.intro; refine ⟨fun W hW => ?_, ?_⟩; (go_simp; (try simp only [plainUpon_value, true_and]); rfl); go_simp; refine hK _ ?_; clear hK K)
  (refine wpR_plain ?_ (by rfl) (fun K hK => ?_); (focus (first | (simp only [Region.wanted]; done) | (go_simp; done))); apply Exists.intro; refine ⟨fun W hW => ?_, ?_⟩; (go_simp; (try simp only [plainUpon_value, true_and]); rfl); go_simp; refine hK _ ?_; clear hK K)
  (refine wpR_val (by rfl) ?_ (fun W hW hF => ?_) (fun K hK => ?_); (focus (first | (simp only [Region.wanted]; done) | (go_simp; done))); (exact conv_rel rfl rfl ((HRW.out W hW).take 4) HZ4.out HZ.out); go_simp; refine hK _ ?_; clear hK K)
  (refine wpR_plain ?_ (by rfl) (fun K hK => ?_); (focus (first | (simp only [Region.wanted]; done) | (go_simp; done))); apply Exists.intro; refine ⟨fun W hW => ?_, ?_⟩; (go_simp; (try simp only [plainUpon_value, true_and]); rfl); go_simp; refine hK _ ?_; clear hK K)
  (refine wpR_plain ?_ (by rfl) (fun K hK => ?_); (focus (first | (simp only [Region.wanted]; done) | (go_simp; done))); apply Exists.intro; refine ⟨fun W hW => ?_, ?_⟩; (go_simp; (try simp only [plainUpon_value, true_and]); rfl); go_simp; refine hK _ ?_; clear hK K)
  (refine wpR_plain ?_ (by rfl) (fun K hK => ?_); (focus (first | (simp only [Region.wanted]; done) | (go_simp; done))); apply Exists.intro; refine ⟨fun W hW => ?_, ?_⟩; (go_simp; (try simp only [plainUpon_value, true_and]); rfl); go_simp; refine hK _ ?_; clear hK K)
  (refine wpR_plain ?_ (by rfl) (fun K hK => ?_); (focus (first | (simp only [Region.wanted]; done) | (go_simp; done))); apply Exists.intro; refine ⟨fun W hW => ?_, ?_⟩; (go_simp; (try simp only [plainUpon_value, true_and]); rfl); go_simp; refine hK _ ?_; clear hK K)
  (refine wpR_val (by rfl) ?_ (fun W hW hF => ?_) (fun K hK => ?_); (focus (first | (simp only [Region.wanted]; done) | (go_simp; done))); (go_simp; simp only [relUpon_enter]; exact wread_rel W (some (a.add 24)) 488 (c - 24) (l.drop 24) X.toNat (HSW.out W hW) ((HRW.out W hW).drop 24) HL24.out (by decide) (by decide) HV); go_simp; refine hK _ ?_; clear hK K)
  (refine wpR_plain ?_ (by rfl) (fun K hK => ?_); (focus (first | (simp only [Region.wanted]; done) | (go_simp; done))); apply Exists.intro; refine ⟨fun W hW => ?_, ?_⟩; (go_simp; (try simp only [plainUpon_value, true_and]); rfl); go_simp; refine hK _ ?_; clear hK K)
  (refine wpR_plain ?_ (by rfl) (fun K hK => ?_); (focus (first | (simp only [Region.wanted]; done) | (go_simp; done))); apply Exists.intro; refine ⟨fun W hW => ?_, ?_⟩; (go_simp; (try simp only [plainUpon_value, true_and]); rfl); go_simp; refine hK _ ?_; clear hK K)
  (refine wpR_lit (by rfl) ?_ (Nat.le_refl _) ?_; (focus (first | (simp only [Region.wanted]; done) | (go_simp; done))); apply Exists.intro; apply Exists.intro; refine ⟨fun W => ?_, ?_, ?_, fun K g hK => ?_⟩; (go_simp; exact ⟨rfl, rfl⟩); rfl; (simp only [Oper.argv, Op.operands]; go_simp); go_simp; refine hK _ ?_; clear hK K)
  (refine wpR_val (by rfl) ?_ (fun W hW hF => ?_) (fun K hK => ?_); (focus (first | (simp only [Region.wanted]; done) | (go_simp; done))); (go_simp; simp only [relUpon_enter]; obtain ⟨fr, hb⟩ := hF 10 rfl; exact crcof_rel W _ 1 [.slice (some a) 24 c] [l.take 24] (HSW.out W hW) hb ⟨⟨_, _, by rw [HT24.out], by rw [HT24.out]; omega, (HRW.out W hW).take 24⟩, trivial⟩ rfl (by decide) X HX); go_simp; refine hK _ ?_; clear hK K)
  repeat (first
    | (refine wpR_plain ?_ (by rfl) (fun K hK => ?_); (focus (first | (simp only [Region.wanted]; done) | (go_simp; done))); apply Exists.intro; refine ⟨fun W hW => ?_, ?_⟩; (go_simp; (try simp only [plainUpon_value, true_and]); rfl); go_simp; refine hK _ ?_; clear hK K)
    | (refine wpR_skip ?_ (fun K hK => ?_); (focus (first | (simp only [Region.wanted]; done) | (go_simp; done))); go_simp; refine hK _ ?_; clear hK K))
  refine wpR_nil (fun W hW hF => ?_)
  clear hF
  have HB := Lib.hid (Below.trans (Below.drew (Below.refl _ w)) hW.1)
  clear hW HRW HSW
  go_wp2_with fail
  have hrW : ∀ W', Gr W.heap.size W.drew W' → Rd W' (some a) l := fun W' h => (HR.out.below HB.out).below (Below.trans (Below.drew (Below.refl _ W)) h.1)
  have hsW : ∀ W', Gr W.heap.size W.drew W' → W.heap.size ≤ W'.heap.size := fun W' h => h.size
  have HRW := Lib.hid hrW; have HSW := Lib.hid hsW; clear hrW hsW
  refine Stg.wp_region_stg_tail _ 12 (ldTbl3 W.heap.size rR rB rE rC) (fun _ _ => True) [2, 5, 8, 11] (Gr.refl _) (fun _ _ _ => Gr.trans) trivial (ldTbl3_ks _ _ _ _ _) (by kernel_rfl) (by kernel_rfl) (by kernel_rfl) (by kernel_rfl) (by kernel_rfl) ?_
  simp only [List.take_succ_cons, List.take_zero, List.drop_succ_cons, List.drop_zero]
  rename World => W0
  (refine Stg.wpR_plain ?_ (by rfl) (fun K hK => ?_); (focus (first | (simp only [Region.wanted]; done) | (go_simp; done))); apply Exists.intro; refine ⟨fun W hW => ?_, ?_⟩; (go_simp; (try simp only [Stg.plainUpon_value, true_and]); rfl); go_simp; refine hK _ ?_; clear hK K)
  (refine Stg.wpR_plain ?_ (by rfl) (fun K hK => ?_); (focus (first | (simp only [Region.wanted]; done) | (go_simp; done))); apply Exists.intro; refine ⟨fun W hW => ?_, ?_⟩; (go_simp; (try simp only [Stg.plainUpon_value, true_and]); rfl); go_simp; refine hK _ ?_; clear hK K)
  (refine Stg.wpR_valS (by rfl) ?_ (fun W hW hJ hF => ?_) (fun K hK => ?_); (focus (first | (simp only [Region.wanted]; done) | (go_simp; done))); (go_simp; simp only [Stg.relUpon_enter]; exact wread_rel W (some (a.add 4)) 508 (c - 4) (l.drop 4) rR (HSW.out W hW) ((HRW.out W hW).drop 4) HL4.out (by decide) (by decide) HRR); go_simp; refine hK _ ?_; clear hK K)
  (refine Stg.wpR_plain ?_ (by rfl) (fun K hK => ?_); (focus (first | (simp only [Region.wanted]; done) | (go_simp; done))); apply Exists.intro; refine ⟨fun W hW => ?_, ?_⟩; (go_simp; (try simp only [Stg.plainUpon_value, true_and]); rfl); go_simp; refine hK _ ?_; clear hK K)
  (refine Stg.wpR_plain ?_ (by rfl) (fun K hK => ?_); (focus (first | (simp only [Region.wanted]; done) | (go_simp; done))); apply Exists.intro; refine ⟨fun W hW => ?_, ?_⟩; (go_simp; (try simp only [Stg.plainUpon_value, true_and]); rfl); go_simp; refine hK _ ?_; clear hK K)
  (refine Stg.wpR_valS (by rfl) ?_ (fun W hW hJ hF => ?_) (fun K hK => ?_); (focus (first | (simp only [Region.wanted]; done) | (go_simp; done))); (go_simp; simp only [Stg.relUpon_enter]; exact wread_rel W (some (a.add 8)) 504 (c - 8) (l.drop 8) rB (HSW.out W hW) ((HRW.out W hW).drop 8) HL8.out (by decide) (by decide) HRB); go_simp; refine hK _ ?_; clear hK K)
  (refine Stg.wpR_plain ?_ (by rfl) (fun K hK => ?_); (focus (first | (simp only [Region.wanted]; done) | (go_simp; done))); apply Exists.intro; refine ⟨fun W hW => ?_, ?_⟩; (go_simp; (try simp only [Stg.plainUpon_value, true_and]); rfl); go_simp; refine hK _ ?_; clear hK K)
  (refine Stg.wpR_plain ?_ (by rfl) (fun K hK => ?_); (focus (first | (simp only [Region.wanted]; done) | (go_simp; done))); apply Exists.intro; refine ⟨fun W hW => ?_, ?_⟩; (go_simp; (try simp only [Stg.plainUpon_value, true_and]); rfl); go_simp; refine hK _ ?_; clear hK K)
  (refine Stg.wpR_valS (by rfl) ?_ (fun W hW hJ hF => ?_) (fun K hK => ?_); (focus (first | (simp only [Region.wanted]; done) | (go_simp; done))); (go_simp; simp only [Stg.relUpon_enter]; exact wread_rel W (some (a.add 12)) 500 (c - 12) (l.drop 12) rE (HSW.out W hW) ((HRW.out W hW).drop 12) HL12.out (by decide) (by decide) HRE); go_simp; refine hK _ ?_; clear hK K)
  (refine Stg.wpR_plain ?_ (by rfl) (fun K hK => ?_); (focus (first | (simp only [Region.wanted]; done) | (go_simp; done))); apply Exists.intro; refine ⟨fun W hW => ?_, ?_⟩; (go_simp; (try simp only [Stg.plainUpon_value, true_and]); rfl); go_simp; refine hK _ ?_; clear hK K)
  (refine Stg.wpR_plain ?_ (by rfl) (fun K hK => ?_); (focus (first | (simp only [Region.wanted]; done) | (go_simp; done))); apply Exists.intro; refine ⟨fun W hW => ?_, ?_⟩; (go_simp; (try simp only [Stg.plainUpon_value, true_and]); rfl); go_simp; refine hK _ ?_; clear hK K)
  (refine Stg.wpR_valS (by rfl) ?_ (fun W hW hJ hF => ?_) (fun K hK => ?_); (focus (first | (simp only [Region.wanted]; done) | (go_simp; done))); (go_simp; simp only [Stg.relUpon_enter]; exact wread_rel W (some (a.add 16)) 496 (c - 16) (l.drop 16) rC (HSW.out W hW) ((HRW.out W hW).drop 16) HL16.out (by decide) (by decide) HRC); go_simp; refine hK _ ?_; clear hK K)
  refine Stg.wpR_nil (fun W hW hJ hF => ?_)
  clear hF hJ
  have HB2 := Lib.hid (HB.out.trans ((Below.trans (Below.drew (Below.refl _ W0)) hW.1).mono HB.out.size))
  clear hW HRW HSW
  by_cases hbR : 2 ≤ rR
  · have hd1 : decide ((2 : Int) ≤ (rR : Int)) = true := decide_eq_true (by omega)
    have hd2 : (2 : Int) ≤ (rR : Int) := by omega
    go_wp2
    go_ret
    exact ⟨rfl, HB2.out⟩
  · have hd1 : decide ((2 : Int) ≤ (rR : Int)) = false := decide_eq_false (by omega)
    have hd2 : ¬ (2 : Int) ≤ (rR : Int) := by omega
    by_cases hbE : rE < rB
    · have hd3 : decide ((rE : Int) < (rB : Int)) = true := decide_eq_true (by omega)
      have hd4 : (rE : Int) < (rB : Int) := by omega
      go_wp2
      go_ret
      exact ⟨rfl, HB2.out⟩
    · have hd3 : decide ((rE : Int) < (rB : Int)) = false := decide_eq_false (by omega)
      have hd4 : ¬ (rE : Int) < (rB : Int) := by omega
      have hcell := cell_below HB2.out HLG.out
      have hroom := wroom_any (HD.out.below HB2.out) h1 h2
      rw [← HRM.out] at hroom
      have HROOM := Lib.hid hroom
      have hd5 : (rm : Int) < (rE : Int) := by omega
      clear hroom hbad hbR hbE
      go_wp2_with fail
      refine HROOM.out.mono ?_
      rintro e w9 ⟨rfl, rfl⟩
      go_wp2
      go_ret
      exact ⟨rfl, HB2.out⟩
end Go.Proofs.Ytbpecfbliglboaa
