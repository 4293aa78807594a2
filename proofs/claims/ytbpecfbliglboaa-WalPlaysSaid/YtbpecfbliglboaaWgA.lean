/- Contracts that are proved one after the other (WLd3, WLoad, WOpen, WMay). -/
import Derived.Test.YtbpecfbliglboaaWLd2
import Derived.Test.YtbpecfbliglboaaWLt
/- wal: load, the good way. -/
namespace Go.Proofs.Ytbpecfbliglboaa
open Go.RowKit
set_option linter.unusedVariables false
set_option linter.unusedSimpArgs false
attribute [local irreducible] wpR relOp Stg.wpR Stg.relOp Stu.wpR Stu.relOp
theorem secs_len {d : DevMath.Dev} (h : DvI d) (k : Nat) : (WalMath.secs d k).length = 512 := by
  unfold WalMath.secs DevMath.Dev.sector
  cases hs : d.safe (k : Int) with
  | none => exact List.length_replicate
  | some l => exact (h.sf _ _ hs).2.2
theorem scan_count (f : Nat) (b : List UInt8) (first : Int) : 16 * (RecMath.scan f b first).1.length ≤ b.length := by
  induction f generalizing b first with
  | zero => exact Nat.zero_le _
  | succ f ih =>
    rw [RecMath.scan]
    split
    · exact Nat.zero_le _
    · rename_i h
      have h1 : (RecMath.get b).err = 0 := by
        rcases Nat.decEq (RecMath.get b).err 0 with h2 | h2
        · exact absurd (.inl h2) h
        · exact h2
      obtain ⟨h2, h3, _⟩ := RecMath.get_ok b h1
      have h4 := ih (b.drop (RecMath.get b).n) (first + 1)
      rw [List.length_drop] at h4
      rw [List.length_cons]
      omega
theorem cat_take (S : Nat → List UInt8) (hS : ∀ k, (S k).length = 512) (a n m E : Nat) (hnm : n ≤ m) (hE : E ≤ n * 512) : (WalMath.cat S a m).take E = (WalMath.cat S a n).take E := by
  induction m with
  | zero =>
    obtain rfl : n = 0 := by omega
    rfl
  | succ m ih =>
    by_cases h : n = m + 1
    · rw [h]
    · have hl := WalMath.cat_len S hS a m
      have h5 : n * 512 ≤ m * 512 := Nat.mul_le_mul_right _ (by omega)
      rw [WalMath.cat, List.take_append_of_le_length (by omega)]
      exact ih (by omega)
set_option maxRecDepth 20000 in
set_option maxHeartbeats 8000000 in
theorem wload_rest {w0 w : World} {BB gd : Nat} {d : DevMath.Dev} (hd : DS w0 w BB gd d) (h1 : 1 ≤ d.sectors) (h2 : d.sectors ≤ 8192) (gl : Nat) (hlg : w.heap[gl]? = some (.cells #[.pointer (some ⟨gd, 0, none⟩), .int .i64 0, .int .i64 0, .slice none 0 0, .slice none 0 0, .bool false] 87)) (hgl : BB ≤ gl) (hon : d.off = false) (hca : d.cache = [])
    (A : Option Addr) (c : Nat) (l : List UInt8) (hr : Rd w A l) (hl : l.length = 512) (hc : 512 ≤ c) (hm : l.take 4 = WalMath.magic) (hgood : WalMath.rd4 l 24 = WalMath.crc (l.take 24))
    (hbad : WalMath.rd4 l 4 < 2 ∧ WalMath.rd4 l 8 ≤ WalMath.rd4 l 12 ∧ WalMath.rd4 l 12 ≤ WalMath.room d.sectors)
    (bf : List UInt8) (hbf : bf = (WalMath.cat (WalMath.secs d) (WalMath.frm d.sectors (WalMath.rd4 l 4)) (WalMath.size d.sectors)).take (WalMath.rd4 l 12)) (sc : List (Int × List UInt8) × Nat) (hsc : sc = RecMath.scanAll (bf.drop (WalMath.rd4 l 8)) 1) :
    Calls Try.prog 52 #[.pointer (some ⟨gl, 0, none⟩), .slice A 512 c] w fun e w' =>
      ((sc.1.length ≠ WalMath.rd4 l 16 ∨ sc.2 ≠ WalMath.rd4 l 12 - WalMath.rd4 l 8) ∧ e = .returned (.bool false) ∧ Below w.heap.size w w') ∨
      (¬ (sc.1.length ≠ WalMath.rd4 l 16 ∨ sc.2 ≠ WalMath.rd4 l 12 - WalMath.rd4 l 8) ∧ e = .returned (.bool true) ∧ LS w0 w' BB gd gl d ⟨WalMath.rd4 l 4, WalMath.rd4 l 8, bf, sc.1.map (·.2)⟩ false ∧ Chg (· = gl) w w') := by
  obtain ⟨z, hz⟩ : ∃ z : ByteArray, z = ⟨(l.take 4).toArray⟩ := ⟨_, rfl⟩
  have hne : (z.toList == [70, 82, 75, 49]) = true := by
    rw [beq_iff_eq, Lib.toList_data, hz]
    exact hm
  obtain ⟨X, hX⟩ : ∃ X, X = CrcMath.of [l.take 24] := ⟨_, rfl⟩
  have hXc : X.toNat = WalMath.crc (l.take 24) := by rw [hX, CrcMath.of_eq]; simp [WalMath.crc]
  rw [← hXc] at hgood
  have hX2 := X.isLt
  have hVX : ((X.toNat : Int) != (X.toNat : Int)) = false := by simp
  have hwX : IntKind.i64.wrap (X.toNat : Int) = X.toNat := by rw [IntKind.wrap_i64]; omega
  have HZ := Lib.hid hz; have HZ4 : Hid ((l.take 4).length = 4) := Lib.hid (by rw [List.length_take]; omega)
  have HR := Lib.hid hr; have HV := Lib.hid hgood; have HX := Lib.hid hX
  have HL24 : Hid ((l.drop 24).length = 488) := Lib.hid (by rw [List.length_drop]; omega)
  have HT24 : Hid ((l.take 24).length = 24) := Lib.hid (by rw [List.length_take]; omega)
  have HL4 : Hid ((l.drop 4).length = 508) := Lib.hid (by rw [List.length_drop]; omega)
  have HL8 : Hid ((l.drop 8).length = 504) := Lib.hid (by rw [List.length_drop]; omega)
  have HL12 : Hid ((l.drop 12).length = 500) := Lib.hid (by rw [List.length_drop]; omega)
  have HL16 : Hid ((l.drop 16).length = 496) := Lib.hid (by rw [List.length_drop]; omega)
  obtain ⟨rR, hrR⟩ : ∃ V, WalMath.rd4 l 4 = V := ⟨_, rfl⟩
  obtain ⟨rB, hrB⟩ : ∃ V, WalMath.rd4 l 8 = V := ⟨_, rfl⟩
  obtain ⟨rE, hrE⟩ : ∃ V, WalMath.rd4 l 12 = V := ⟨_, rfl⟩
  obtain ⟨rC, hrC⟩ : ∃ V, WalMath.rd4 l 16 = V := ⟨_, rfl⟩
  rw [hrR, hrB, hrE] at hbad
  rw [hrR, hrE] at hbf
  rw [hrB] at hsc
  rw [hrR, hrB, hrE, hrC]
  obtain ⟨rm, hrm⟩ : ∃ V, V = WalMath.room d.sectors := ⟨_, rfl⟩
  rw [← hrm] at hbad
  have HRR := Lib.hid hrR; have HRB := Lib.hid hrB; have HRE := Lib.hid hrE; have HRC := Lib.hid hrC; have HRM := Lib.hid hrm
  have HDI : Hid (DvI d) := by
    obtain ⟨m, vc, vk, q1, q2, _⟩ := hd
    exact Lib.hid q2
  have HD := Lib.hid hd; have HLG := Lib.hid hlg
  obtain ⟨a, rfl⟩ := hr.some (by omega)
  have b1 : (4 : Int) ≤ c := by omega
  have b2 : (24 : Int) ≤ c := by omega
  have b3 : ¬ c = 24 := by omega
  have b4 : (512 : Int) ≤ c := by omega
  have b5 : ¬ c = 4 := by omega
  have b6 : ¬ c = 8 := by omega
  have b7 : ¬ c = 12 := by omega
  have b8 : ¬ c = 16 := by omega
  have HBF := Lib.hid hbf; have HSC := Lib.hid hsc; have HON := Lib.hid hon; have HCA := Lib.hid hca
  clear hbf hsc hon hca hz hm hr hl hgood hXc hX hrR hrB hrE hrC hrm hd hlg
  go_enter Try.func52, Try.ntmps52
  go_wp2_with fail
  refine wp_region_tbl _ (ldTbl z X.toNat X.toNat) (w.heap.size) (by kernel_rfl) (by kernel_rfl) (by kernel_rfl) ?_
  have hrW : ∀ W, Gr w.heap.size w.drew W → Rd W (some a) l := fun W h => HR.out.below (Below.trans (Below.drew (Below.refl _ w)) h.1)
  have hsW : ∀ W, Gr w.heap.size w.drew W → w.heap.size ≤ W.heap.size := fun W h => h.size
  have HRW := Lib.hid hrW; have HSW := Lib.hid hsW; clear hrW hsW
  (refine wpR_plain ?_ (by rfl) (fun K hK => ?_); (focus (first | (simp only [Region.wanted]; done) | (go_simp; done))); apply Exists.intro; refine ⟨fun W hW => ?_, ?_⟩; (go_simp; (try simp only [plainUpon_value, true_and]); rfl); go_simp; refine hK _ ?_; clear hK K)
  (refine wpR_plain ?_ (by rfl) (fun K hK => ?_); (focus (first | (simp only [Region.wanted]; done) | (go_simp; done))); apply Exists.intro; refine ⟨fun W hW => ?_, ?_⟩; (go_simp; (try simp only [plainUpon_value, true_and]); rfl); go_simp; refine hK _ ?_; clear hK K)
  (refine wpR_val (by rfl) ?_ (fun W hW hF => ?_) (fun K hK => ?_); (focus (first | (simp only [Region.wanted]; done) | (go_simp; done))); (exact conv_rel rfl rfl ((HRW.out W hW).take 4) HZ4.out HZ.out); go_simp; refine hK _ ?_; clear hK K)
  (refine wpR_plain ?_ (by rfl) (fun K hK => ?_); (focus (first | (simp only [Region.wanted]; done) | (go_simp; done))); apply Exists.intro; refine ⟨fun W hW => ?_, ?_⟩; (go_simp; (try simp only [plainUpon_value, true_and]); rfl); go_simp; refine hK _ ?_; clear hK K)
  (refine wpR_plain ?_ (by rfl) (fun K hK => ?_); (focus (first | (simp only [Region.wanted]; done) | (go_simp; done))); apply Exists.intro; refine ⟨fun W hW => ?_, ?_⟩; (go_simp; (try simp only [plainUpon_value, true_and]); rfl); go_simp; refine hK _ ?_; clear hK K)
  (refine wpR_plain ?_ (by rfl) (fun K hK => ?_); (focus (first | (simp only [Region.wanted]; done) | (go_simp; done))); apply Exists.intro; refine ⟨fun W hW => ?_, ?_⟩; (go_simp; (try simp only [plainUpon_value, true_and]); rfl); go_simp; refine hK _ ?_; clear hK K)
  (refine wpR_plain ?_ (by rfl) (fun K hK => ?_); (focus (first | (simp only [Region.wanted]; done) | (go_simp; done))); apply Exists.intro; refine ⟨fun W hW => ?_, ?_⟩; (go_simp; (try simp only [plainUpon_value, true_and]); rfl); go_simp; refine hK _ ?_; clear hK K)
  (refine wpR_val (by rfl) ?_ (fun W hW hF => ?_) (fun K hK => ?_); (focus (first | (simp only [Region.wanted]; done) | (go_simp; done))); (go_simp; simp only [relUpon_enter]; exact wread_rel W (some (a.add 24)) 488 (c - 24) (l.drop 24) X.toNat (HSW.out W hW) ((HRW.out W hW).drop 24) HL24.out (by decide) (by decide) HV); go_simp; refine hK _ ?_; clear hK K)
  (refine wpR_plain ?_ (by rfl) (fun K hK => ?_); (focus (first | (simp only [Region.wanted]; done) | (go_simp; done))); apply Exists.intro; refine ⟨fun W hW => ?_, ?_⟩; (go_simp; (try simp only [plainUpon_value, true_and]); rfl); go_simp; refine hK _ ?_; clear hK K)
  (refine wpR_plain ?_ (by rfl) (fun K hK => ?_); (focus (first | (simp only [Region.wanted]; done) | (go_simp; done))); apply Exists.intro; refine ⟨fun W hW => ?_, ?_⟩; (go_simp; (try simp only [plainUpon_value, true_and]); rfl); go_simp; refine hK _ ?_; clear hK K)
  (refine wpR_lit (by rfl) ?_ (Nat.le_refl _) ?_; (focus (first | (simp only [Region.wanted]; done) | (go_simp; done))); apply Exists.intro; apply Exists.intro; refine ⟨fun W => ?_, ?_, ?_, fun K g hK => ?_⟩; (go_simp; exact ⟨rfl, rfl⟩); rfl; (simp only [Oper.argv, Op.operands]; go_simp); go_simp; refine hK _ ?_; clear hK K)
  (refine wpR_val (by rfl) ?_ (fun W hW hF => ?_) (fun K hK => ?_); (focus (first | (simp only [Region.wanted]; done) | (go_simp; done))); (go_simp; simp only [relUpon_enter]; obtain ⟨fr, hb⟩ := hF 10 rfl; exact crcof_rel W _ 1 [.slice (some a) 24 c] [l.take 24] (HSW.out W hW) hb ⟨⟨_, _, by rw [HT24.out], by rw [HT24.out]; omega, (HRW.out W hW).take 24⟩, trivial⟩ rfl (by decide) X HX); go_simp; refine hK _ ?_; clear hK K)
  repeat (first
    | (refine wpR_plain ?_ (by rfl) (fun K hK => ?_); (focus (first | (simp only [Region.wanted]; done) | (go_simp; done))); apply Exists.intro; refine ⟨fun W hW => ?_, ?_⟩; (go_simp; (try simp only [plainUpon_value, true_and]); rfl); go_simp; refine hK _ ?_; clear hK K)
    | (refine wpR_skip ?_ (fun K hK => ?_); (focus (first | (simp only [Region.wanted]; done) | (go_simp; done))); go_simp; refine hK _ ?_; clear hK K))
  refine wpR_nil (fun W hW hF => ?_)
  clear hF
  have HB := Lib.hid (Below.trans (Below.drew (Below.refl _ w)) hW.1)
  clear hW HRW HSW
  go_wp2_with fail
  have hrW : ∀ W', Gr W.heap.size W.drew W' → Rd W' (some a) l := fun W' h => (HR.out.below HB.out).below (Below.trans (Below.drew (Below.refl _ W)) h.1)
  have hsW : ∀ W', Gr W.heap.size W.drew W' → W.heap.size ≤ W'.heap.size := fun W' h => h.size
  have HRW := Lib.hid hrW; have HSW := Lib.hid hsW; clear hrW hsW
  refine Stg.wp_region_stg_tail _ 12 (ldTbl3 W.heap.size rR rB rE rC) (fun _ _ => True) [2, 5, 8, 11] (Gr.refl _) (fun _ _ _ => Gr.trans) trivial (ldTbl3_ks _ _ _ _ _) (by kernel_rfl) (by kernel_rfl) (by kernel_rfl) (by kernel_rfl) (by kernel_rfl) ?_
  simp only [List.take_succ_cons, List.take_zero, List.drop_succ_cons, List.drop_zero]
  rename World => W0
  (refine Stg.wpR_plain ?_ (by rfl) (fun K hK => ?_); (focus (first | (simp only [Region.wanted]; done) | (go_simp; done))); apply Exists.intro; refine ⟨fun W hW => ?_, ?_⟩; (go_simp; (try simp only [Stg.plainUpon_value, true_and]); rfl); go_simp; refine hK _ ?_; clear hK K)
  (refine Stg.wpR_plain ?_ (by rfl) (fun K hK => ?_); (focus (first | (simp only [Region.wanted]; done) | (go_simp; done))); apply Exists.intro; refine ⟨fun W hW => ?_, ?_⟩; (go_simp; (try simp only [Stg.plainUpon_value, true_and]); rfl); go_simp; refine hK _ ?_; clear hK K)
  (refine Stg.wpR_valS (by rfl) ?_ (fun W hW hJ hF => ?_) (fun K hK => ?_); (focus (first | (simp only [Region.wanted]; done) | (go_simp; done))); (go_simp; simp only [Stg.relUpon_enter]; exact wread_rel W (some (a.add 4)) 508 (c - 4) (l.drop 4) rR (HSW.out W hW) ((HRW.out W hW).drop 4) HL4.out (by decide) (by decide) HRR); go_simp; refine hK _ ?_; clear hK K)
  (refine Stg.wpR_plain ?_ (by rfl) (fun K hK => ?_); (focus (first | (simp only [Region.wanted]; done) | (go_simp; done))); apply Exists.intro; refine ⟨fun W hW => ?_, ?_⟩; (go_simp; (try simp only [Stg.plainUpon_value, true_and]); rfl); go_simp; refine hK _ ?_; clear hK K)
  (refine Stg.wpR_plain ?_ (by rfl) (fun K hK => ?_); (focus (first | (simp only [Region.wanted]; done) | (go_simp; done))); apply Exists.intro; refine ⟨fun W hW => ?_, ?_⟩; (go_simp; (try simp only [Stg.plainUpon_value, true_and]); rfl); go_simp; refine hK _ ?_; clear hK K)
  (refine Stg.wpR_valS (by rfl) ?_ (fun W hW hJ hF => ?_) (fun K hK => ?_); (focus (first | (simp only [Region.wanted]; done) | (go_simp; done))); (go_simp; simp only [Stg.relUpon_enter]; exact wread_rel W (some (a.add 8)) 504 (c - 8) (l.drop 8) rB (HSW.out W hW) ((HRW.out W hW).drop 8) HL8.out (by decide) (by decide) HRB); go_simp; refine hK _ ?_; clear hK K)
  (refine Stg.wpR_plain ?_ (by rfl) (fun K hK => ?_); (focus (first | (simp only [Region.wanted]; done) | (go_simp; done))); apply Exists.intro; refine ⟨fun W hW => ?_, ?_⟩; (go_simp; (try simp only [Stg.plainUpon_value, true_and]); rfl); go_simp; refine hK _ ?_; clear hK K)
  (refine Stg.wpR_plain ?_ (by rfl) (fun K hK => ?_); (focus (first | (simp only [Region.wanted]; done) | (go_simp; done))); apply Exists.intro; refine ⟨fun W hW => ?_, ?_⟩; (go_simp; (try simp only [Stg.plainUpon_value, true_and]); rfl); go_simp; refine hK _ ?_; clear hK K)
  (refine Stg.wpR_valS (by rfl) ?_ (fun W hW hJ hF => ?_) (fun K hK => ?_); (focus (first | (simp only [Region.wanted]; done) | (go_simp; done))); (go_simp; simp only [Stg.relUpon_enter]; exact wread_rel W (some (a.add 12)) 500 (c - 12) (l.drop 12) rE (HSW.out W hW) ((HRW.out W hW).drop 12) HL12.out (by decide) (by decide) HRE); go_simp; refine hK _ ?_; clear hK K)
  (refine Stg.wpR_plain ?_ (by rfl) (fun K hK => ?_); (focus (first | (simp only [Region.wanted]; done) | (go_simp; done))); apply Exists.intro; refine ⟨fun W hW => ?_, ?_⟩; (go_simp; (try simp only [Stg.plainUpon_value, true_and]); rfl); go_simp; refine hK _ ?_; clear hK K)
  (refine Stg.wpR_plain ?_ (by rfl) (fun K hK => ?_); (focus (first | (simp only [Region.wanted]; done) | (go_simp; done))); apply Exists.intro; refine ⟨fun W hW => ?_, ?_⟩; (go_simp; (try simp only [Stg.plainUpon_value, true_and]); rfl); go_simp; refine hK _ ?_; clear hK K)
  (refine Stg.wpR_valS (by rfl) ?_ (fun W hW hJ hF => ?_) (fun K hK => ?_); (focus (first | (simp only [Region.wanted]; done) | (go_simp; done))); (go_simp; simp only [Stg.relUpon_enter]; exact wread_rel W (some (a.add 16)) 496 (c - 16) (l.drop 16) rC (HSW.out W hW) ((HRW.out W hW).drop 16) HL16.out (by decide) (by decide) HRC); go_simp; refine hK _ ?_; clear hK K)
  refine Stg.wpR_nil (fun W hW hJ hF => ?_)
  clear hF hJ
  have HB2 := Lib.hid (HB.out.trans ((Below.trans (Below.drew (Below.refl _ W0)) hW.1).mono HB.out.size))
  clear hW HRW HSW
  obtain ⟨hbR, hbE, hbM⟩ := hbad
  have HLW : Hid (∀ W', Below w.heap.size w W' → W'.heap[gl]? = some (.cells #[.pointer (some ⟨gd, 0, none⟩), .int .i64 0, .int .i64 0, .slice none 0 0, .slice none 0 0, .bool false] 87)) := Lib.hid (fun W' h => (h.block _ (Array.getElem?_eq_some_iff.1 HLG.out).1).trans HLG.out)
  have hd2 : ¬ (2 : Int) ≤ (rR : Int) := by omega
  have hd4 : ¬ (rE : Int) < (rB : Int) := by omega
  have hd5 : ¬ (rm : Int) < (rE : Int) := by omega
  have hd1 : decide ((2 : Int) ≤ (rR : Int)) = false := decide_eq_false (by omega)
  have hd3 : decide ((rE : Int) < (rB : Int)) = false := decide_eq_false (by omega)
  have hcell : W.cell? ⟨gl, 0, none⟩ = some (.pointer (some ⟨gd, 0, none⟩)) := by rw [cell_of_row _ gl 0 _ _ _ (HLW.out W HB2.out)]; rfl
  have hroom := wroom_any (HD.out.below HB2.out) h1 h2
  rw [← HRM.out] at hroom
  have HROOM := Lib.hid hroom
  obtain ⟨f0, hf0⟩ : ∃ f0, f0 = WalMath.frm d.sectors rR := ⟨_, rfl⟩
  obtain ⟨sz, hsz⟩ : ∃ sz, sz = WalMath.size d.sectors := ⟨_, rfl⟩
  have hrmz : rm = sz * 512 := by rw [HRM.out, hsz]; rfl
  have hfz : f0 + sz ≤ d.sectors := by
    rw [hf0, hsz]
    unfold WalMath.frm WalMath.size
    have : rR * ((d.sectors - 1) / 2) ≤ 1 * ((d.sectors - 1) / 2) := Nat.mul_le_mul_right _ (by omega)
    omega
  have hszb : sz ≤ 4096 := by rw [hsz]; unfold WalMath.size; omega
  have hfrom := wfrom_any (HD.out.below HB2.out) h1 h2 rR (by omega)
  rw [← hf0] at hfrom
  have HFROM := Lib.hid hfrom
  have HBS0 : Hid (BB ≤ w.heap.size) := Lib.hid HD.out.sz
  have HF0 := Lib.hid hf0; have HSZ := Lib.hid hsz; have HRZ := Lib.hid hrmz; have HFZ := Lib.hid hfz
  clear hroom hfrom hf0 hsz hrmz hfz
  go_wp2_with fail
  refine HROOM.out.mono ?_
  rintro e w9 ⟨rfl, rfl⟩
  go_wp2_with fail
  refine HFROM.out.mono ?_
  rintro e w9 ⟨rfl, rfl⟩
  clear HROOM HFROM
  go_wp2_with fail
  go_loopw [9, 10] (fun vb vat wr => ∃ k : Nat, vat = .int .i64 ((f0 + k : Nat) : Int) ∧ Ob wr w.heap.size 5 vb (WalMath.cat (WalMath.secs d) f0 k) ∧ (k = 0 → vb = .slice none 0 0) ∧ k ≤ sz ∧ Below w.heap.size w wr) (fun _ vat _ => f0 + sz - (intOf vat).toNat)
  case atStart => exact ⟨0, rfl, Ob.nil _ _ _, fun _ => rfl, Nat.zero_le _, HB2.out⟩
  case round =>
    obtain ⟨k, rfl, ho, hz, hk, hB⟩ := hrel
    rename World => wr
    have hlen : (WalMath.cat (WalMath.secs d) f0 k).length = k * 512 := WalMath.cat_len _ (secs_len HDI.out) f0 k
    obtain ⟨bl, hbl⟩ : ∃ bl, bl = k * 512 := ⟨_, rfl⟩
    rw [← hbl] at hlen
    obtain ⟨Ab, cb, hvb, hcb, hrdb⟩ := ho.rd
    rw [hlen] at hvb hcb
    subst hvb
    by_cases hlt : bl < rE
    · have hks : k < sz := by have := HRZ.out; omega
      have hhas : d.has ((f0 + k : Nat) : Int) = true := by
        have := HFZ.out
        unfold DevMath.Dev.has
        rw [Bool.and_eq_true]
        exact ⟨decide_eq_true (by omega), decide_eq_true (by omega)⟩
      have hrv : d.read ((f0 + k : Nat) : Int) = (some (WalMath.secs d (f0 + k)), 0) := by
        unfold DevMath.Dev.read
        rw [if_neg (by rw [HON.out]; simp), if_neg (by rw [hhas]; simp), HCA.out]
        rfl
      have hread := ds_read (HD.out.below hB) (by rw [HCA.out]; simp) ((f0 + k : Nat) : Int) (WalkArith.wf_i64 (by have := HFZ.out; omega))
      rw [hrv] at hread
      have HREAD := Lib.hid hread
      have HO := Lib.hid ho; have HB := Lib.hid hB; have HBL := Lib.hid hbl; have HLEN := Lib.hid hlen; have HZ0 := Lib.hid hz
      have hcellr : wr.cell? ⟨gl, 0, none⟩ = some (.pointer (some ⟨gd, 0, none⟩)) := by rw [cell_of_row _ gl 0 _ _ _ (HLW.out wr hB)]; rfl
      have hbl2 : (bl : Int) < (rE : Int) := by omega
      have hblb : bl ≤ 2097152 := by omega
      have hfk : f0 + k ≤ 8192 := by have := HFZ.out; omega
      obtain ⟨at_, hat⟩ : ∃ a : Nat, a = f0 + k := ⟨_, rfl⟩
      rw [← hat] at HREAD hfk
      have hwat : IntKind.i64.wrap ((at_ : Int) + 1) = (at_ : Int) + 1 := by rw [IntKind.wrap_i64]; omega
      have HAT := Lib.hid hat
      rw [← hat]
      clear hread hrv hhas ho hB hbl hlen hz hrdb hat hcell
      go_wp2_with fail
      refine HREAD.out.mono ?_
      rintro e w1 ⟨v, rfl, hsl, _, hb1⟩
      obtain ⟨A1, c1, rfl, hc1, hrd1⟩ := hsl.rd
      have h512 : (WalMath.secs d at_).length = 512 := secs_len HDI.out at_
      simp only [Option.getD_some] at hc1 hrd1
      rw [show (Option.getD (some (WalMath.secs d at_)) []).length = 512 from h512]
      rw [h512] at hc1
      have hB1 := HB.out.trans (hb1.mono HB.out.size)
      obtain ⟨v2, w2, hrun, ho2, hts2⟩ := appb_run (m := 512) (c := c1) (HO.out.below hb1) (fun e => by
        rw [e] at HLEN
        have h0 := HLEN.out
        have h3 := HBL.out
        simp at h0
        have := HZ0.out (by omega)
        exact this) hrd1 h512.symm hB1.size (by have := HLEN.out; rw [this, h512]; omega)
      have hcs : WalMath.cat (WalMath.secs d) f0 k ++ WalMath.secs d at_ = WalMath.cat (WalMath.secs d) f0 (k + 1) := by rw [HAT.out]; rfl
      rw [hcs] at ho2
      have hl2 : (WalMath.cat (WalMath.secs d) f0 (k + 1)).length = bl + 512 := by rw [← hcs, List.length_append, HLEN.out, h512]
      obtain ⟨A2, c2, rfl, hc2, _⟩ := ho2.rd
      rw [hl2] at hrun ho2 hc2
      have HRUN := Lib.hid hrun; have HO2 := Lib.hid ho2; have HB2' := Lib.hid (hB1.trans hts2.1)
      clear hrun ho2 hts2 hcs hl2 hc1 hrd1 h512 hsl hb1 hB1
      go_wp2_with (at_builtin; refine Lib.wpList_append_run _ rfl _ _ _ _ rfl _ _ rfl rfl _ _ HRUN.out ?_)
      go_roundw
      case rel => exact ⟨k + 1, by have := HAT.out; congr 1; omega, HO2.out, fun h => by omega, by omega, HB2'.out⟩
      case measure => have := HAT.out; simp [intOf]; omega
    · have hcs : (WalMath.cat (WalMath.secs d) f0 k).take rE = bf := by
        rw [HBF.out, ← HF0.out, ← HSZ.out]
        exact (cat_take _ (secs_len HDI.out) f0 k sz rE hk (by omega)).symm
      have hbfl : bf.length = rE := by rw [← hcs, List.length_take, hlen]; omega
      have hrdf : Rd wr Ab bf := by rw [← hcs]; exact hrdb.take rE
      have hblb : bl ≤ 2097152 := by omega
      obtain ⟨A', hA, hrd⟩ := slice_from (c := cb) (k := rB) hrdf (by rw [hbfl]; omega) (by rw [hbfl]; omega)
      have hA2 : (if cb = rB then Ab else Option.map (fun x => x.add rB) Ab) = A' := hA
      clear hA
      have hld : (bf.drop rB).length = rE - rB := by rw [List.length_drop, hbfl]
      have hscan := scan_any wr A' (cb - rB) (bf.drop rB) 1 hrd (by rw [hld]; omega) (by rw [hld]; omega) (by decide)
      rw [hld, ← HSC.out] at hscan
      have HSCAN := Lib.hid hscan; have HB := Lib.hid hB; have HRDF := Lib.hid hrdf; have HBFL := Lib.hid hbfl
      have e1 : ¬ (bl : Int) < (rE : Int) := by omega
      have e2 : (rE : Int) ≤ (cb : Int) := by omega
      have e3 : (rB : Int) ≤ (rE : Int) := by omega
      have e4 : (rE : Int) ≤ 9223372036854775807 := by omega
      have e5 : rB ≤ cb := by omega
      have e6 : rE ≤ cb := by omega
      have e7 : rB ≤ rE := by omega
      have hslb : Sl wr (.slice Ab rE cb) bf := by
        obtain ⟨A3, c3, q1, q2, q3, q4⟩ := ho.sl
        injection q1 with q1 q5 q6
        subst q1 q6
        exact ⟨_, _, by rw [hbfl], by rw [hbfl]; exact e6, hrdf, q4⟩
      have HSLB := Lib.hid hslb
      clear hslb
      obtain ⟨s1, s2⟩ := sc
      dsimp only at HSCAN ⊢
      clear hscan hB hrdf hbfl hcs hld hrd hrdb ho hz hcell
      go_wp2_with fail
      refine HSCAN.out.mono ?_
      rintro e w1 ⟨v, rfl, hrs, hb1⟩
      obtain ⟨Av, cv, rfl, hcv, _⟩ := hrs.rd
      obtain ⟨nl, hnl⟩ : ∃ nl, nl = s1.length := ⟨_, rfl⟩
      rw [← hnl] at hcv hrs ⊢
      have HNL := Lib.hid hnl
      have HRS := Lib.hid hrs
      have HB1 := Lib.hid (HB.out.trans (hb1.mono HB.out.size))
      have HSL1 := Lib.hid (HSLB.out.below hb1)
      have hnl9 : nl ≤ 9223372036854775807 := by
        obtain ⟨xs, q1, _⟩ := hrs
        rcases q1.2 with ⟨_, q2⟩ | ⟨g, cap, cur, q3, _, _, q4, q5, _⟩
        · omega
        · simp only [maxLen] at q5
          omega
      have hnl6 : nl ≤ 1000000 := by
        have q1 := scan_count (bf.drop rB).length (bf.drop rB) 1
        have q2 : (RecMath.scan (bf.drop rB).length (bf.drop rB) 1).1 = s1 := by
          have := HSC.out
          unfold RecMath.scanAll at this
          rw [← this]
        rw [q2, ← hnl, List.length_drop, HBFL.out] at q1
        omega
      have hws : IntKind.i64.wrap ((rE : Int) - (rB : Int)) = (rE : Int) - (rB : Int) := by rw [IntKind.wrap_i64]; omega
      clear hnl hrs hb1
      by_cases hc1 : nl = rC
      · have hx1 : ((nl : Int) != (rC : Int)) = false := by simp [hc1]
        have HC1 := Lib.hid hc1
        clear hc1
        by_cases hc2 : s2 = rE - rB
        · have hx2 : ((s2 : Int) != (rE : Int) - (rB : Int)) = false := by simp; omega
          have HC2 := Lib.hid hc2
          clear hc2
          have hh := HLW.out w1 HB1.out
          have k0 : w1.cell? ⟨gl, 0, none⟩ = some (.pointer (some ⟨gd, 0, none⟩)) := by rw [cell_of_row _ gl 0 _ _ _ hh]; rfl
          have k1 : w1.cell? ⟨gl, 1, none⟩ = some (.int .i64 0) := by rw [cell_of_row _ gl 1 _ _ _ hh]; rfl
          have k2 : w1.cell? ⟨gl, 2, none⟩ = some (.int .i64 0) := by rw [cell_of_row _ gl 2 _ _ _ hh]; rfl
          have k3 : w1.cell? ⟨gl, 3, none⟩ = some (.slice none 0 0) := by rw [cell_of_row _ gl 3 _ _ _ hh]; rfl
          have f1 : w1.frozen? ⟨gl, 1, none⟩ = false := frozen_of_row w1 gl 1 _ _ hh
          have f2 : w1.frozen? ⟨gl, 2, none⟩ = false := frozen_of_row w1 gl 2 _ _ hh
          have f3 : w1.frozen? ⟨gl, 3, none⟩ = false := frozen_of_row w1 gl 3 _ _ hh
          have HH := Lib.hid hh
          clear hh
          go_wp2_with fail
          obtain ⟨W3, hW3⟩ : ∃ W3, W3 = ((w1.setCell ⟨gl, 1, none⟩ (.int .i64 rR)).setCell ⟨gl, 2, none⟩ (.int .i64 rB)).setCell ⟨gl, 3, none⟩ (.slice Ab rE cb) := ⟨_, rfl⟩
          rw [← hW3]
          obtain ⟨hls, hch⟩ := ls_start (S := w.heap.size) (HD.out.below HB1.out) hgl HH.out HSL1.out hW3
          have HCH := Lib.hid ((Chg.of_below (S := (· = gl)) HB1.out).trans hch); have HLS := Lib.hid hls; have HRS3 := Lib.hid (HRS.out.log HH.out (by decide) (by decide) hch)
          clear hls hch hW3 k0 k1 k2 k3 f1 f2 f3
          go_loopw [121] (fun vi wr2 => ∃ q : Nat, vi = .int .i64 q ∧ q ≤ nl ∧ LSB w0 wr2 BB w.heap.size gd gl d ⟨rR, rB, bf, (s1.take q).map (·.2)⟩ false ∧ Chg (· = gl) w wr2 ∧ Recs wr2 wr.heap.size 91 (.slice Av nl cv) s1) (fun vi _ => nl - (intOf vi).toNat)
          case atStart => exact ⟨0, rfl, Nat.zero_le _, HLS.out, HCH.out, HRS3.out⟩
          case round =>
            rename World => wq
            obtain ⟨q, rfl, hq, hls, hcg, hrs⟩ := hrel
            have HCG := Lib.hid hcg; have hSq := hcg.size
            clear hcg
            by_cases hqn : q < nl
            · have hrs0 := hrs
              obtain ⟨Aq, cq, hAq, _, hat⟩ := hrs.rd
              obtain ⟨gq, vbq, hA5, ca, cb5, hslq⟩ := hat q (by rw [← HNL.out]; exact hqn)
              injection hAq with q1 q2 q3
              rw [← q1] at hA5
              subst hA5
              have hmap : (s1.take (q + 1)).map (·.2) = (s1.take q).map (·.2) ++ [(s1[q]'(by rw [← HNL.out]; exact hqn)).2] := by rw [take_succ_at s1 q (by rw [← HNL.out]; exact hqn), List.map_append]; rfl
              obtain ⟨rn, hrn⟩ : ∃ rn, rn = (s1[q]'(by rw [← HNL.out]; exact hqn)).1 := ⟨_, rfl⟩
              obtain ⟨rb, hrb⟩ : ∃ rb, rb = (s1[q]'(by rw [← HNL.out]; exact hqn)).2 := ⟨_, rfl⟩
              rw [← hrn] at ca
              rw [← hrb] at hslq hmap
              obtain ⟨A7, c7, hv7, hc7, _⟩ := hslq.rd
              subst hv7
              obtain ⟨b7, hb7⟩ : ∃ n, n = rb.length := ⟨_, rfl⟩
              rw [← hb7] at cb5 hslq hc7
              have HB7 := Lib.hid hb7
              clear hb7
              obtain ⟨vb, va, hh, _, hsb, hbs, hds⟩ := hls
              have HMAP := Lib.hid hmap; have HRS := Lib.hid hrs; have HH := Lib.hid hh; have HSB := Lib.hid hsb; have HBS := Lib.hid hbs; have HDS := Lib.hid hds; have HSLQ := Lib.hid hslq
              have hqi : (q : Int) < (nl : Int) := by omega
              clear hmap hrs hrs0 hat hh hsb hbs hds hslq hrn hrb q1 q2 q3 hd2
              go_wp2_with fail
              obtain ⟨Wb, hWb⟩ : ∃ Wb, Wb = wq.alloc (.cells #[.int .i64 rn, .slice A7 b7 c7] 91) := ⟨_, rfl⟩
              rw [← hWb]
              have hbb : Below wq.heap.size wq Wb := by rw [hWb]; exact (Below.refl _ wq).alloc (Nat.le_refl _) _
              have hbox : Wb.heap[wq.heap.size]? = some (.cells #[.int .i64 rn, .slice A7 b7 c7] 91) := by rw [hWb]; exact heap_new wq _ _ rfl
              have hBq : w.heap.size ≤ wq.heap.size := hSq
              have HTE : Hid (∀ W, TE 33 1 w.heap.size Wb.drew W → TE 33 1 w.heap.size wq W) := Lib.hid (fun W h => (Gs.te _ _ ⟨Below.trans hbb (Below.mono (Below.drew (Below.refl _ Wb)) hbb.size), hBq⟩).trans _ _ _ h)
              have hbx : ∀ W, TE 33 1 w.heap.size Wb.drew W → W.heap[wq.heap.size]? = some (.cells #[.int .i64 rn, .slice A7 b7 c7] 91) := fun W h => h.2 _ _ _ _ (.inl (by decide)) hbox
              have HC1 : Hid (∀ W, TE 33 1 w.heap.size Wb.drew W → W.cell? ⟨gl, 4, none⟩ = some va) := Lib.hid (fun W h => by rw [cell_of_row _ gl 4 _ _ _ ((HTE.out W h).2 _ _ _ _ (.inl (by decide)) HH.out)]; rfl)
              have HC2 : Hid (∀ W, TE 33 1 w.heap.size Wb.drew W → W.cell? ⟨wq.heap.size, 1, none⟩ = some (.slice A7 b7 c7)) := Lib.hid (fun W h => by rw [cell_of_row _ _ 1 _ _ _ (hbx W h)]; rfl)
              have HSLW : Hid (∀ W, TE 33 1 w.heap.size Wb.drew W → Sl W (.slice A7 b7 c7) rb) := Lib.hid (fun W h => (HTE.out W h).sl (by decide) HSLQ.out)
              have HSZW : Hid (∀ W, TE 33 1 w.heap.size Wb.drew W → w.heap.size ≤ W.heap.size) := Lib.hid (fun W h => Nat.le_trans hBq ((HTE.out W h).1.size))
              have hUb : BsD w0 BB w.heap.size gd d ((s1.take q).map (·.2)) va Wb.drew := ⟨(HBS.out.below hbb).below (Below.drew (Below.refl _ Wb)), (HDS.out.below hbb).below (Below.drew (Below.refl _ Wb))⟩
              have HTL : Hid (((s1.take q).map (·.2)).length = q) := Lib.hid (by rw [List.length_map, List.length_take, ← HNL.out]; omega)
              have hq6 : q ≤ 1000000 := by omega
              clear hWb hbb hbox hbx ca cb5
              refine Stu.wp_region_stu_tail _ 9 (Stu.mkT [(7, bsL w.heap.size (.slice A7 b7 c7)), (8, bsS w0 BB w.heap.size gd d (q + 1) ((s1.take q).map (·.2) ++ [rb]))]) (BsD w0 BB w.heap.size gd d ((s1.take q).map (·.2)) va) [8] (TE.refl _ _ _) TE.trans Gs.te (fun _ _ h hg => ⟨h.1.below hg.1, h.2.below hg.1⟩) hUb (Stu.mkT_ks _ (by show List.Nodup [7, 8]; decide) _ rfl) (by kernel_rfl) (by kernel_rfl) (by kernel_rfl) ?_
              simp only [List.take_succ_cons, List.take_zero, List.drop_succ_cons, List.drop_zero]
              (refine Stu.wpR_plain ?_ (by rfl) (by rfl) (fun K hK => ?_); (focus (first | (simp only [Region.wanted]; done) | (go_simp; done))); apply Exists.intro; refine ⟨fun W hW => ?_, ?_⟩; (go_simp; (try simp only [Stu.plainUpon_value, true_and]); rfl); go_simp; refine hK _ ?_; clear hK K)
              (refine Stu.wpR_plain ?_ (by rfl) (by rfl) (fun K hK => ?_); (focus (first | (simp only [Region.wanted]; done) | (go_simp; done))); apply Exists.intro; refine ⟨fun W hW => ?_, ?_⟩; (go_simp; (try simp only [Stu.plainUpon_value, true_and]); rfl); go_simp; refine hK _ ?_; clear hK K)
              (refine Stu.wpR_plain ?_ (by rfl) (by rfl) (fun K hK => ?_); (focus (first | (simp only [Region.wanted]; done) | (go_simp; done))); apply Exists.intro; refine ⟨fun W hW => ?_, ?_⟩; (go_simp; (try simp only [Stu.plainUpon_value, true_and]); rfl); go_simp; refine hK _ ?_; clear hK K)
              (refine Stu.wpR_plain ?_ (by rfl) (by rfl) (fun K hK => ?_); (focus (first | (simp only [Region.wanted]; done) | (go_simp; done))); apply Exists.intro; refine ⟨fun W hW => ?_, ?_⟩; (go_simp; (try simp only [Stu.plainUpon_value, true_and]); rfl); go_simp; refine hK _ ?_; clear hK K)
              (refine Stu.wpR_plain ?_ (by rfl) (by rfl) (fun K hK => ?_); (focus (first | (simp only [Region.wanted]; done) | (go_simp; done))); apply Exists.intro; refine ⟨fun W hW => ?_, ?_⟩; (have hcw := HC1.out W hW; go_simp; (try simp only [Stu.plainUpon_value, true_and]); rfl); go_simp; refine hK _ ?_; clear hK K)
              (refine Stu.wpR_plain ?_ (by rfl) (by rfl) (fun K hK => ?_); (focus (first | (simp only [Region.wanted]; done) | (go_simp; done))); apply Exists.intro; refine ⟨fun W hW => ?_, ?_⟩; (go_simp; (try simp only [Stu.plainUpon_value, true_and]); rfl); go_simp; refine hK _ ?_; clear hK K)
              (refine Stu.wpR_plain ?_ (by rfl) (by rfl) (fun K hK => ?_); (focus (first | (simp only [Region.wanted]; done) | (go_simp; done))); apply Exists.intro; refine ⟨fun W hW => ?_, ?_⟩; (have hcw := HC2.out W hW; go_simp; (try simp only [Stu.plainUpon_value, true_and]); rfl); go_simp; refine hK _ ?_; clear hK K)
              (refine Stu.wpR_spg (by rfl) (by rfl) ?_ ?_ (fun W hW hF => ?_) (fun K v hv hK => ?_); (focus (first | (simp only [Region.wanted]; done) | (go_simp; done))); (focus (exact ⟨_, 0, rfl⟩)); (go_simp; exact ⟨⟨(Below.refl _ W).alloc (Nat.le_refl _) _, HSZW.out W hW⟩, ⟨_, rfl⟩, ⟨_, rfl, heap_new _ _ _ rfl⟩⟩); (obtain ⟨g2, rfl⟩ := hv); go_simp; refine hK _ ?_; clear hK K)
              (refine Stu.wpR_spu (by rfl) (by rfl) ?_ ?_ (fun W hW hU hF => ?_) (fun K v hv hK => ?_); (focus (first | (simp only [Region.wanted]; done) | (go_simp; done))); (focus (exact ⟨_, none, _, rfl, Nat.le_refl _⟩)); (obtain ⟨g', e1, e3⟩ := (show (bsL w.heap.size (.slice A7 b7 c7)).q [] (.slice (some ⟨g2, 0, none⟩) 1 1) W from hF 7 rfl); cases e1; exact bap_rel HBS0.out rfl rfl rfl rfl hU (HSLW.out W hW) e3 (HSZW.out W hW) HTL.out hq6 _); (obtain ⟨A8, c8, rfl, hc8⟩ := hv); go_simp; refine hK _ ?_; clear hK K)
              refine Stu.wpR_nil (fun W hW hU hF => ?_)
              clear hF
              obtain ⟨hU1, hU2⟩ := (show BsD w0 BB w.heap.size gd d ((s1.take q).map (·.2) ++ [rb]) (.slice A8 (q + 1) c8) W from hU)
              have hhW := (HTE.out W hW).2 _ _ _ _ (.inl (by decide)) HH.out
              have k4 : W.cell? ⟨gl, 4, none⟩ = some va := by rw [cell_of_row _ gl 4 _ _ _ hhW]; rfl
              have f4 : W.frozen? ⟨gl, 4, none⟩ = false := frozen_of_row W gl 4 _ _ hhW
              obtain ⟨Wf, hWf⟩ : ∃ Wf, Wf = W.setCell ⟨gl, 4, none⟩ (.slice A8 (q + 1) c8) := ⟨_, rfl⟩
              obtain ⟨hls, hch⟩ := ls_all (x := ⟨rR, rB, bf, (s1.take q).map (·.2)⟩) hhW hgl ((HTE.out W hW).sl (by decide) HSB.out) hU2 hU1 hWf
              have HCG2 := Lib.hid ((HCG.out.thenB (HTE.out W hW).1).trans hch); have HLS2 := Lib.hid hls; have HRS2 := Lib.hid ((HRS.out.te (HTE.out W hW)).log hhW (by decide) (by decide) hch)
              have HWF := Lib.hid hWf
              clear hU hU1 hU2 hhW hls hch hWf hW
              go_wp2_with fail
              rw [← HWF.out]
              go_roundw
              case rel => exact ⟨q + 1, by go_num, by omega, by rw [HMAP.out]; exact HLS2.out, HCG2.out, HRS2.out⟩
              case measure => simp [intOf]; omega
            · obtain rfl : q = nl := by omega
              have HLQ := Lib.hid hls
              have HT : Hid (s1.take q = s1) := Lib.hid (by rw [HNL.out]; exact List.take_of_length_le (Nat.le_refl _))
              clear hls hrs
              go_wp2
              go_ret
              exact .inr ⟨⟨by rw [← HNL.out]; exact HC1.out, HC2.out⟩, rfl, by have := HLQ.out; rw [HT.out] at this; exact this.ls HBS0.out, HCG.out⟩
        · have hx2 : ((s2 : Int) != (rE : Int) - (rB : Int)) = true := by simp; omega
          have HC2 := Lib.hid hc2
          clear hc2
          go_wp2
          go_ret
          exact .inl ⟨.inr HC2.out, rfl, HB1.out⟩
      · have hx1 : ((nl : Int) != (rC : Int)) = true := by simp; omega
        have HC1 := Lib.hid hc1
        clear hc1
        go_wp2
        go_ret
        exact .inl ⟨.inl (by rw [← HNL.out]; exact HC1.out), rfl, HB1.out⟩
end Go.Proofs.Ytbpecfbliglboaa
/- wal: load, as the plain law tells it. -/
namespace Go.Proofs.Ytbpecfbliglboaa
open Go.RowKit
set_option linter.unusedVariables false
set_option linter.unusedSimpArgs false
theorem wload_any {w0 w : World} {BB gd : Nat} {d : DevMath.Dev} (hd : DS w0 w BB gd d) (h1 : 1 ≤ d.sectors) (h2 : d.sectors ≤ 8192) (gl : Nat) (hlg : w.heap[gl]? = some (.cells #[.pointer (some ⟨gd, 0, none⟩), .int .i64 0, .int .i64 0, .slice none 0 0, .slice none 0 0, .bool false] 87)) (hgl : BB ≤ gl) (hon : d.off = false) (hca : d.cache = [])
    (A : Option Addr) (c : Nat) (hr : Rd w A (WalMath.secs d 0)) (hc : 512 ≤ c) :
    Calls Try.prog 52 #[.pointer (some ⟨gl, 0, none⟩), .slice A 512 c] w fun e w' =>
      (WalMath.load d.sectors (WalMath.secs d) = none ∧ e = .returned (.bool false) ∧ Below w.heap.size w w') ∨ (∃ x, WalMath.load d.sectors (WalMath.secs d) = some x ∧ e = .returned (.bool true) ∧ LS w0 w' BB gd gl d x false ∧ Chg (· = gl) w w') := by
  have hI : DvI d := by
    obtain ⟨m, vc, vk, q1, q2, _⟩ := hd
    exact q2
  have hl := secs_len hI 0
  unfold WalMath.load
  by_cases hm : (WalMath.secs d 0).take 4 = WalMath.magic
  · by_cases hs : WalMath.rd4 (WalMath.secs d 0) 24 = WalMath.crc ((WalMath.secs d 0).take 24)
    · rw [if_neg (by rw [hm, hs]; simp)]
      by_cases hb : 2 ≤ WalMath.rd4 (WalMath.secs d 0) 4 ∨ WalMath.rd4 (WalMath.secs d 0) 12 < WalMath.rd4 (WalMath.secs d 0) 8 ∨ WalMath.room d.sectors < WalMath.rd4 (WalMath.secs d 0) 12
      · rw [if_pos hb]
        refine (wload_no3 hd h1 h2 gl (by rw [cell_of_row _ gl 0 _ _ _ hlg]; rfl) A c _ hr hl hc hm hs hb).mono fun e w1 h => .inl ⟨rfl, h.1, h.2⟩
      · rw [if_neg hb]
        refine (wload_rest hd h1 h2 gl hlg hgl hon hca A c _ hr hl hc hm hs (by omega) _ rfl _ rfl).mono fun e w1 h => ?_
        rcases h with ⟨q1, q2, q3⟩ | ⟨q1, q2, q3⟩
        · exact .inl ⟨by rw [if_pos q1], q2, q3⟩
        · exact .inr ⟨_, by rw [if_neg q1], q2, q3⟩
    · rw [if_pos (.inr hs)]
      exact (wload_no2 w _ A c _ hr hl hc hm hs).mono fun e w1 h => .inl ⟨rfl, h.1, h.2⟩
  · rw [if_pos (.inl hm)]
    exact (wload_no1 w _ A c _ hr hl hc hm).mono fun e w1 h => .inl ⟨rfl, h.1, h.2⟩
end Go.Proofs.Ytbpecfbliglboaa
/- wal: Open. -/
namespace Go.Proofs.Ytbpecfbliglboaa
open Go.RowKit
set_option linter.unusedVariables false
set_option linter.unusedSimpArgs false
set_option maxRecDepth 20000 in
theorem wopen_off {w0 w : World} {B g : Nat} {d : DevMath.Dev} (hd : DS w0 w B g d) (hoff : d.off = true) :
    Calls Try.prog 34 #[.pointer (some ⟨g, 0, none⟩)] w fun e w' => e = .returned (.tuple #[.pointer none, .int .i64 7]) ∧ w' = w := by
  have h := ds_off hd
  rw [hoff] at h
  have H := Lib.hid h
  clear h hd hoff
  go_enter Try.func34, Try.ntmps34
  go_wp2_with fail
  refine H.out.mono ?_
  rintro e w ⟨rfl, rfl⟩
  go_wp2
  go_ret2
  exact ⟨rfl, rfl⟩
set_option maxRecDepth 20000 in
theorem wopen_few {w0 w : World} {B g : Nat} {d : DevMath.Dev} (hd : DS w0 w B g d) (hon : d.off = false) (h8 : d.sectors < 8) :
    Calls Try.prog 34 #[.pointer (some ⟨g, 0, none⟩)] w fun e w' => e = .returned (.tuple #[.pointer none, .int .i64 1]) ∧ w' = w := by
  have h := ds_off hd
  rw [hon] at h
  have H := Lib.hid h; have HS := Lib.hid (ds_sectors hd)
  have h8' : (d.sectors : Int) < 8 := by omega
  generalize d.sectors = n at *
  clear h hd hon
  go_enter Try.func34, Try.ntmps34
  go_wp2_with fail
  refine H.out.mono ?_
  rintro e w ⟨rfl, rfl⟩
  go_wp2_with fail
  refine HS.out.mono ?_
  rintro e w ⟨rfl, rfl⟩
  go_wp2
  go_ret2
  exact ⟨rfl, rfl⟩
theorem ls_new {w0 w W : World} {B g : Nat} {d : DevMath.Dev} (hd : DS w0 w B g d) (hW : W = w.alloc (.cells #[.pointer (some ⟨g, 0, none⟩), .int .i64 0, .int .i64 0, .slice none 0 0, .slice none 0 0, .bool false] 87)) : LS w0 W B g w.heap.size d WalMath.empty false := by
  have hb : Below w.heap.size w W := by rw [hW]; exact (Below.refl _ w).alloc (Nat.le_refl _) _
  exact ⟨.slice none 0 0, .slice none 0 0, by rw [hW]; exact heap_new w _ _ rfl, hd.sz, Sl.nil _, Bsr.nil _ _, hd.below hb⟩
set_option maxRecDepth 20000 in
set_option maxHeartbeats 4000000 in
theorem wopen_any {w0 w : World} {B g : Nat} {d : DevMath.Dev} (hd : DS w0 w B g d) (hon : d.off = false) (hca : d.cache = []) (h8 : 8 ≤ d.sectors) (h9 : d.sectors ≤ 8192) :
    Calls Try.prog 34 #[.pointer (some ⟨g, 0, none⟩)] w fun e w' => ∃ gl, e = .returned (.tuple #[.pointer (some ⟨gl, 0, none⟩), .int .i64 0]) ∧ LS w0 w' B g gl d (WalMath.loadD d.sectors (WalMath.secs d)) false ∧ Below w.heap.size w w' ∧ w.heap.size ≤ gl := by
  have hI : DvI d := by
    obtain ⟨m, vc, vk, q1, q2, _⟩ := hd
    exact q2
  have h := ds_off hd
  rw [hon] at h
  have H := Lib.hid h; have HS := Lib.hid (ds_sectors hd)
  have hhas : d.has ((0 : Nat) : Int) = true := by
    unfold DevMath.Dev.has
    rw [Bool.and_eq_true]
    exact ⟨decide_eq_true (by omega), decide_eq_true (by omega)⟩
  have hrv : d.read 0 = (some (WalMath.secs d 0), 0) := by
    unfold DevMath.Dev.read
    rw [if_neg (by rw [hon]; simp), if_neg (by rw [show d.has 0 = true from hhas]; simp), hca]
    rfl
  have hread := ds_read hd (by rw [hca]; simp) 0 (by decide)
  rw [hrv] at hread
  have HREAD := Lib.hid hread
  have HLOAD : Hid (∀ (W : World) (gl : Nat) (A : Option Addr) (c : Nat), Below w.heap.size w W → W.heap[gl]? = some (.cells #[.pointer (some ⟨g, 0, none⟩), .int .i64 0, .int .i64 0, .slice none 0 0, .slice none 0 0, .bool false] 87) → B ≤ gl → Rd W A (WalMath.secs d 0) → 512 ≤ c → Calls Try.prog 52 #[.pointer (some ⟨gl, 0, none⟩), .slice A 512 c] W fun e w' =>
      (WalMath.load d.sectors (WalMath.secs d) = none ∧ e = .returned (.bool false) ∧ Below W.heap.size W w') ∨ (∃ x, WalMath.load d.sectors (WalMath.secs d) = some x ∧ e = .returned (.bool true) ∧ LS w0 w' B g gl d x false ∧ Chg (· = gl) W w')) :=
    Lib.hid (fun W gl A c hb hh hgl hr hc => wload_any (hd.below hb) (by omega) h9 gl hh hgl hon hca A c hr hc)
  have HD := Lib.hid hd; have HL := Lib.hid (secs_len hI 0)
  obtain ⟨lo, hlo⟩ : ∃ lo, lo = WalMath.load d.sectors (WalMath.secs d) := ⟨_, rfl⟩
  have hld : WalMath.loadD d.sectors (WalMath.secs d) = lo.getD WalMath.empty := by rw [hlo]; rfl
  rw [hld]
  rw [← hlo] at HLOAD
  have h8' : ¬ (d.sectors : Int) < 8 := by omega
  have hB := hd.sz
  clear hlo hld h hd hread hrv hhas hon hca
  go_enter Try.func34, Try.ntmps34
  go_wp2_with fail
  refine H.out.mono ?_
  rintro e w ⟨rfl, rfl⟩
  go_wp2_with fail
  refine HS.out.mono ?_
  rintro e w ⟨rfl, rfl⟩
  go_wp2_with fail
  refine HREAD.out.mono ?_
  rintro e w1 ⟨v, rfl, hsl, _, hb1⟩
  obtain ⟨A, c, rfl, hc, hrd⟩ := hsl.rd
  simp only [Option.getD_some] at hc hrd
  rw [show (Option.getD (some (WalMath.secs d 0)) []).length = 512 from HL.out]
  rw [HL.out] at hc
  obtain ⟨W2, hW2⟩ : ∃ W2, W2 = w1.alloc (.cells #[.pointer (some ⟨g, 0, none⟩), .int .i64 0, .int .i64 0, .slice none 0 0, .slice none 0 0, .bool false] 87) := ⟨_, rfl⟩
  have hb2 : Below w1.heap.size w1 W2 := by rw [hW2]; exact (Below.refl _ w1).alloc (Nat.le_refl _) _
  have hbw : Below w.heap.size w W2 := hb1.trans (hb2.mono hb1.size)
  have hcall := HLOAD.out W2 w1.heap.size A c hbw (by rw [hW2]; exact heap_new w1 _ _ rfl) (Nat.le_trans hB hb1.size) (hrd.below hb2) hc
  have HCALL := Lib.hid hcall; have HW2 := Lib.hid hW2; have HBW := Lib.hid hbw; have HS1 := Lib.hid hb1.size
  clear hcall hW2 hb2 hbw hrd hsl hb1 hc
  go_wp2_with fail
  rw [← HW2.out]
  refine HCALL.out.mono ?_
  rintro e w3 (⟨hlo, rfl, hb3⟩ | ⟨x, hlo, rfl, hls, hcg⟩)
  · have HLS := Lib.hid (ls_new (HD.out.below (HBW.out.trans (hb3.mono HBW.out.size))) rfl)
    have HLO := Lib.hid hlo
    have HB3 := Lib.hid (HBW.out.trans (hb3.mono HBW.out.size))
    clear hlo hb3
    go_wp2
    go_ret2
    exact ⟨_, rfl, by rw [HLO.out]; exact HLS.out, HB3.out.alloc HB3.out.size _, HB3.out.size⟩
  · have HLS := Lib.hid hls
    have HLO := Lib.hid hlo
    have HB3 := Lib.hid (Chg.below HBW.out hcg HBW.out.size (fun k hk => by rw [hk]; exact HS1.out))
    clear hlo hls hcg
    go_wp2
    go_ret2
    exact ⟨_, rfl, by rw [HLO.out]; exact HLS.out, HB3.out, HS1.out⟩
end Go.Proofs.Ytbpecfbliglboaa
/- wal: may, Done, Base. -/
namespace Go.Proofs.Ytbpecfbliglboaa
open Go.RowKit
set_option linter.unusedVariables false
set_option linter.unusedSimpArgs false
def mayE (dn : Bool) (n : Nat) : Int := if dn then 7 else if 200000 < n then 1 else 0
set_option maxRecDepth 20000 in
theorem wmay_any {w0 w : World} {B g gl : Nat} {d : DevMath.Dev} {x : WalMath.Lg} {dn : Bool} (h : LS w0 w B g gl d x dn) (A : Option Addr) (n c : Nat) :
    Calls Try.prog 53 #[.pointer (some ⟨gl, 0, none⟩), .slice A n c] w fun e w' => e = .returned (.int .i64 (mayE dn n)) ∧ w' = w := by
  obtain ⟨vb, va, hh, _⟩ := h
  have k5 : w.cell? ⟨gl, 5, none⟩ = some (.bool dn) := by rw [cell_of_row _ gl 5 _ _ _ hh]; rfl
  clear hh
  cases dn with
  | true =>
    have he : mayE true n = 7 := rfl
    rw [he]
    go_enter Try.func53, Try.ntmps53
    go_wp2
    go_ret
    exact ⟨rfl, rfl⟩
  | false =>
    by_cases hn : 200000 < n
    · have he : mayE false n = 1 := by simp [mayE, hn]
      rw [he]
      have hi : (200000 : Int) < (n : Int) := by omega
      go_enter Try.func53, Try.ntmps53
      go_wp2
      go_ret
      exact ⟨rfl, rfl⟩
    · have he : mayE false n = 0 := by simp [mayE, hn]
      rw [he]
      have hi : ¬ (200000 : Int) < (n : Int) := by omega
      go_enter Try.func53, Try.ntmps53
      go_wp2
      go_ret
      exact ⟨rfl, rfl⟩
theorem wdone_any {w0 w : World} {B g gl : Nat} {d : DevMath.Dev} {x : WalMath.Lg} {dn : Bool} (h : LS w0 w B g gl d x dn) :
    Calls Try.prog 41 #[.pointer (some ⟨gl, 0, none⟩)] w fun e w' => e = .returned (.bool dn) ∧ w' = w := by
  obtain ⟨vb, va, hh, _⟩ := h
  have k5 : w.cell? ⟨gl, 5, none⟩ = some (.bool dn) := by rw [cell_of_row _ gl 5 _ _ _ hh]; rfl
  clear hh
  go_enter Try.func41, Try.ntmps41
  go_wp2
  go_ret
  exact ⟨rfl, rfl⟩
end Go.Proofs.Ytbpecfbliglboaa
