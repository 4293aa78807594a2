/- QueuePlays: the round of a Ready that finds nothing. -/
import Derived.Test.YthecekkophbceaaQApp
import Derived.Test.YthecekkophbceaaQPc4h
namespace Go.Proofs.Ythecekkophbceaa
open Go.RowKit Go.Conc
set_option linter.unusedVariables false
set_option linter.unusedSimpArgs false
attribute [local irreducible] wpR relOp Stu.wpR Stu.relOp
set_option maxRecDepth 1000000 in
set_option maxHeartbeats 20000000 in
theorem qp_case4e (w wr : World) (A : Addr) (c n room gq gw gc k : Nat) (g ch : Nat → Nat) (f : Nat → Value) (ls : Nat → List ByteArray) (cl : Nat → Bool) (q tq : Nat) (s : ByteArray) (op : Int)
    (hst : Stt w wr gq gw gc g ch room ls cl) (hD : Dst w.heap.size g ch) (wb : w.heap.size ≤ gw) (cb : w.heap.size ≤ gc) (hk : k < n) (hn80 : n ≤ 80) (hc : n ≤ c) (hr64 : room ≤ 64) (hq : q < 3) (ht : tq < 3) (hs : s.size ≤ 100)
    (c0 : wr.cell? (A.add (k * 4)) = some (.int .i64 op)) (c1 : wr.cell? ⟨(A.add (k * 4)).block, (A.add (k * 4)).off + 1, none⟩ = some (.int .i64 q)) (c2 : wr.cell? ⟨(A.add (k * 4)).block, (A.add (k * 4)).off + 2, none⟩ = some (.int .i64 tq)) (c3 : wr.cell? ⟨(A.add (k * 4)).block, (A.add (k * 4)).off + 3, none⟩ = some (.string s))
    (Q0 : Exit → Act → World → Prop)
    (o0 : ¬ op = 0) (o1 : ¬ op = 1) (o2 : ¬ op = 2) (o3 : ¬ op = 3) (kk : Nat) (hkk : kk = 2) (hbf : ∀ p, p < 3 → ls p = []) :
    Code.wp Try.prog qpBody (Exit.then (fun a' w' => QI w A c n room gq gw gc g ch a' w' ∧ qpMu n a' w' < qpMu n ⟨#[.int .i64 room, .slice (some A) n c, f 2, f 3, f 4, .pointer (some ⟨g 0, 0, none⟩), f 6, .pointer (some ⟨g 1, 0, none⟩), f 8, .pointer (some ⟨g 2, 0, none⟩), f 10, .slice (some ⟨gq, 0, none⟩) 3 3, .pointer (some ⟨gw, 0, none⟩), .pointer (some ⟨gc, 0, none⟩), .int .i64 k, f 15, f 16, f 17, f 18, f 19, f 20, f 21, f 22, f 23, f 24, f 25, f 26, f 27, f 28, f 29, f 30, f 31, f 32, f 33, f 34, f 35, f 36, f 37, f 38, f 39, f 40, f 41, f 42, f 43, f 44, f 45, f 46, f 47, f 48, f 49, f 50, f 51, f 52, f 53, f 54, f 55, f 56, f 57, f 58, f 59, f 60, f 61, f 62, f 63, f 64, f 65, f 66, f 67, f 68, f 69, f 70, f 71, f 72, f 73, f 74, f 75, f 76, f 77, f 78, f 79, f 80, f 81, f 82, f 83, f 84, f 85, f 86, f 87, f 88, f 89, f 90, f 91, f 92, f 93, f 94, f 95, f 96, f 97, f 98, f 99, f 100, f 101, f 102, f 103, f 104, f 105, f 106, f 107, f 108, f 109, f 110, f 111, f 112, f 113, f 114, f 115, f 116, f 117, f 118, f 119, f 120, f 121, f 122, f 123, f 124, f 125, f 126, f 127, f 128, f 129, f 130, f 131, f 132, f 133, f 134, f 135, f 136, f 137, f 138, f 139, f 140, f 141, f 142, f 143, f 144, f 145, f 146, f 147, f 148, f 149, f 150, f 151, f 152, f 153, f 154, f 155, f 156, f 157, f 158, f 159, f 160, f 161, f 162, f 163, f 164, f 165, f 166, f 167, f 168, f 169, f 170, f 171, f 172, f 173, f 174, f 175, f 176, f 177, f 178, f 179, f 180, f 181, f 182, f 183, f 184, f 185, f 186, f 187, f 188, f 189, f 190, f 191, f 192, f 193, f 194, f 195, f 196, f 197, f 198, f 199, f 200, f 201, f 202, f 203, f 204, f 205, f 206, f 207, f 208, f 209, f 210, f 211, f 212, f 213, f 214, f 215, f 216, f 217, f 218, f 219, f 220, f 221, f 222, f 223, f 224, f 225, f 226, f 227, f 228, f 229, f 230, f 231, f 232, f 233, f 234, f 235, f 236, f 237, f 238, f 239, f 240, f 241, f 242, f 243, f 244, f 245, f 246, f 247, f 248, f 249, f 250, f 251, f 252, f 253, f 254, f 255, f 256, f 257, f 258, f 259, f 260, f 261, f 262, f 263, f 264, f 265, f 266, f 267, f 268, f 269, f 270, f 271, f 272, f 273, f 274, f 275, f 276, f 277, f 278, f 279, f 280, f 281, f 282, f 283, f 284, f 285, f 286, f 287, f 288, f 289, f 290, f 291, f 292, f 293, f 294, f 295, f 296, f 297, f 298, f 299, f 300, f 301, f 302, f 303, f 304, f 305, f 306, f 307, f 308, f 309, f 310, f 311, f 312, f 313, f 314, f 315, f 316, f 317, f 318, f 319, f 320, f 321, f 322, f 323, f 324, f 325, f 326, f 327, f 328, f 329, f 330, f 331, f 332, f 333, f 334, f 335, f 336, f 337, f 338, f 339, f 340, f 341, f 342, f 343, f 344, f 345, f 346, f 347, f 348, f 349, f 350, f 351, f 352, f 353, f 354, f 355, f 356, f 357, f 358, f 359, f 360, f 361, f 362, f 363, f 364, f 365, f 366, f 367, f 368, f 369, f 370, f 371, f 372, f 373, f 374, f 375, f 376, f 377, f 378, f 379, f 380, f 381, f 382, f 383, f 384, f 385], []⟩ wr) Q0) ⟨#[.int .i64 room, .slice (some A) n c, f 2, f 3, f 4, .pointer (some ⟨g 0, 0, none⟩), f 6, .pointer (some ⟨g 1, 0, none⟩), f 8, .pointer (some ⟨g 2, 0, none⟩), f 10, .slice (some ⟨gq, 0, none⟩) 3 3, .pointer (some ⟨gw, 0, none⟩), .pointer (some ⟨gc, 0, none⟩), .int .i64 k, f 15, f 16, f 17, f 18, f 19, f 20, f 21, f 22, f 23, f 24, f 25, f 26, f 27, f 28, f 29, f 30, f 31, f 32, f 33, f 34, f 35, f 36, f 37, f 38, f 39, f 40, f 41, f 42, f 43, f 44, f 45, f 46, f 47, f 48, f 49, f 50, f 51, f 52, f 53, f 54, f 55, f 56, f 57, f 58, f 59, f 60, f 61, f 62, f 63, f 64, f 65, f 66, f 67, f 68, f 69, f 70, f 71, f 72, f 73, f 74, f 75, f 76, f 77, f 78, f 79, f 80, f 81, f 82, f 83, f 84, f 85, f 86, f 87, f 88, f 89, f 90, f 91, f 92, f 93, f 94, f 95, f 96, f 97, f 98, f 99, f 100, f 101, f 102, f 103, f 104, f 105, f 106, f 107, f 108, f 109, f 110, f 111, f 112, f 113, f 114, f 115, f 116, f 117, f 118, f 119, f 120, f 121, f 122, f 123, f 124, f 125, f 126, f 127, f 128, f 129, f 130, f 131, f 132, f 133, f 134, f 135, f 136, f 137, f 138, f 139, f 140, f 141, f 142, f 143, f 144, f 145, f 146, f 147, f 148, f 149, f 150, f 151, f 152, f 153, f 154, f 155, f 156, f 157, f 158, f 159, f 160, f 161, f 162, f 163, f 164, f 165, f 166, f 167, f 168, f 169, f 170, f 171, f 172, f 173, f 174, f 175, f 176, f 177, f 178, f 179, f 180, f 181, f 182, f 183, f 184, f 185, f 186, f 187, f 188, f 189, f 190, f 191, f 192, f 193, f 194, f 195, f 196, f 197, f 198, f 199, f 200, f 201, f 202, f 203, f 204, f 205, f 206, f 207, f 208, f 209, f 210, f 211, f 212, f 213, f 214, f 215, f 216, f 217, f 218, f 219, f 220, f 221, f 222, f 223, f 224, f 225, f 226, f 227, f 228, f 229, f 230, f 231, f 232, f 233, f 234, f 235, f 236, f 237, f 238, f 239, f 240, f 241, f 242, f 243, f 244, f 245, f 246, f 247, f 248, f 249, f 250, f 251, f 252, f 253, f 254, f 255, f 256, f 257, f 258, f 259, f 260, f 261, f 262, f 263, f 264, f 265, f 266, f 267, f 268, f 269, f 270, f 271, f 272, f 273, f 274, f 275, f 276, f 277, f 278, f 279, f 280, f 281, f 282, f 283, f 284, f 285, f 286, f 287, f 288, f 289, f 290, f 291, f 292, f 293, f 294, f 295, f 296, f 297, f 298, f 299, f 300, f 301, f 302, f 303, f 304, f 305, f 306, f 307, f 308, f 309, f 310, f 311, f 312, f 313, f 314, f 315, f 316, f 317, f 318, f 319, f 320, f 321, f 322, f 323, f 324, f 325, f 326, f 327, f 328, f 329, f 330, f 331, f 332, f 333, f 334, f 335, f 336, f 337, f 338, f 339, f 340, f 341, f 342, f 343, f 344, f 345, f 346, f 347, f 348, f 349, f 350, f 351, f 352, f 353, f 354, f 355, f 356, f 357, f 358, f 359, f 360, f 361, f 362, f 363, f 364, f 365, f 366, f 367, f 368, f 369, f 370, f 371, f 372, f 373, f 374, f 375, f 376, f 377, f 378, f 379, f 380, f 381, f 382, f 383, f 384, f 385], []⟩ wr := by
  conv => arg 2; whnf
  have hq1 : (q : Int) < 3 := by omega
  have hq2 : ¬ (2 : Int) < q := by omega
  have ht1 : (tq : Int) < 3 := by omega
  have ht2 : ¬ (2 : Int) < tq := by omega
  have hs2 : ¬ (100 : Int) < s.size := by omega
  have HSt := Lib.hid hst
  clear hst
  have hbX := (Below.refl _ wr).alloc (Nat.le_refl _) (.cells #[.int .i64 op, .int .i64 q, .int .i64 tq, .string s] 45)
  have hmX := (HSt.out.mid wb cb).below hbX
  have hxX := heap_new wr (.cells #[.int .i64 op, .int .i64 q, .int .i64 tq, .string s] 45) wr.heap.size rfl
  obtain ⟨v, hCe, hSV⟩ := hmX.cells hxX
  obtain ⟨x0, x1, x2, x3, hrd, _, _⟩ := hCe.rd
  have p0 : decide (op = 0) = false := decide_eq_false o0
  have p1 : decide (op = 1) = false := decide_eq_false o1
  have p2 : decide (op = 2) = false := decide_eq_false o2
  have p3 : decide (op = 3) = false := decide_eq_false o3
  have b0 : (op == 0) = false := by rw [beq_eq_false_iff_ne]; exact o0
  have b1 : (op == 1) = false := by rw [beq_eq_false_iff_ne]; exact o1
  have b2 : (op == 2) = false := by rw [beq_eq_false_iff_ne]; exact o2
  have b3 : (op == 3) = false := by rw [beq_eq_false_iff_ne]; exact o3
  obtain ⟨X, hX⟩ : ∃ X, X = wr.alloc (.cells #[.int .i64 op, .int .i64 q, .int .i64 tq, .string s] 45) := ⟨_, rfl⟩
  rw [← hX] at hmX hxX hCe
  have hbY := (Below.refl _ X).alloc (Nat.le_refl _) (.cells #[.pointer (some ⟨g 0, 0, none⟩), .pointer (some ⟨g 1, 0, none⟩), .pointer (some ⟨g 2, 0, none⟩)] 24)
  have hmY := hmX.below hbY
  have hXs : X.heap.size = wr.heap.size + 1 := by rw [hX]; simp
  have hcon0 := (ready_none _ _ 3 [some (g 0), some (g 1), some (g 2)] (three_ptrs X (g 0) (g 1) (g 2)) (by simp) (by simp) (fun i hi g' hg' => by
    have hi3 : i < 3 := by simpa using hi
    have h1 := hmY.q i hi3
    rw [hbf i hi3] at h1
    have : g' = g i := by
      have : i = 0 ∨ i = 1 ∨ i = 2 := by omega
      rcases this with rfl | rfl | rfl <;> (simp at hg'; exact hg'.symm)
    rw [this]
    exact ⟨_, _, _, h1⟩))
  rw [hXs] at hcon0
  have hcon := Lib.hid (show Calls Try.prog 16 #[.slice (some ⟨wr.heap.size + 1, 0, none⟩) 3 3] _ _ from hcon0)
  clear hcon0 hXs
  have HMY := Lib.hid hmY; have HXY : Hid ((X.alloc (.cells #[.pointer (some ⟨g 0, 0, none⟩), .pointer (some ⟨g 1, 0, none⟩), .pointer (some ⟨g 2, 0, none⟩)] 24)).heap[wr.heap.size]? = some (.cells #[.int .i64 op, .int .i64 q, .int .i64 tq, .string s] 45)) := Lib.hid (heap_old hxX)
  have HBF := Lib.hid hbf; have HX := Lib.hid hX; have HKK := Lib.hid hkk
  clear hmX hbX hxX hCe hrd hSV hmY hbY hbf hX hkk x2 x3
  go_wp2_with fail
  rw [← HX.out]
  refine hcon.out.mono ?_
  rintro e w4 ⟨rfl, rfl⟩
  obtain ⟨w4, hw4⟩ : ∃ w4, w4 = X.alloc (.cells #[.pointer (some ⟨g 0, 0, none⟩), .pointer (some ⟨g 1, 0, none⟩), .pointer (some ⟨g 2, 0, none⟩)] 24) := ⟨_, rfl⟩
  rw [← hw4]
  have HM4 : Hid (Mid w w4 gq gw gc g ch room ls cl ls cl) := Lib.hid (by rw [hw4]; exact HMY.out)
  have HX4 : Hid (w4.heap[wr.heap.size]? = some (.cells #[.int .i64 op, .int .i64 q, .int .i64 tq, .string s] 45)) := Lib.hid (by rw [hw4]; exact HXY.out)
  clear hcon HMY HXY HX hw4
  go_wp2_with fail
  rename World => wZ
  go_loopw [24] (fun i wr2 => ∃ p : Nat, p ≤ kk ∧ i = .int .i64 p ∧ wr2 = wZ) (fun i _ => kk - (intOf i).toNat)
  case atStart => exact ⟨0, by omega, rfl, rfl⟩
  case round =>
    rename World => wL
    obtain ⟨p, hp, rfl, rfl⟩ := hrel
    obtain ⟨v4, hCe4, hSV4⟩ := HM4.out.cells HX4.out
    obtain ⟨_, _, _, _, yr, yf, _⟩ := hCe4.rd
    have hkk2 := HKK.out
    have hp33 : p < 3 := by omega
    obtain ⟨_, z2, _⟩ := yr p hp33
    have hSVq := hSV4 p hp33
    clear hkk2
    have hST := hSVq
    obtain ⟨Aq, cq, hvq, hcq, _, hrds⟩ := hSVq
    rw [hvq] at z2 hST
    have fz := yf p
    have hp3 : (p : Int) < 3 := by omega
    rw [HBF.out p hp33] at z2
    simp only [List.length_nil] at z2
    by_cases hlt2 : p < kk
    · have hp2 : (p : Int) < 2 := by have := HKK.out; omega
      have hwp : IntKind.i64.wrap ((p : Int) + 1) = ((p + 1 : Nat) : Int) := by rw [IntKind.wrap_i64]; omega
      clear hCe4 hSV4 yr yf hST hvq hrds hcq fz
      go_wp2
      go_roundw
      case rel => exact ⟨p + 1, by omega, by go_num, by first | rfl | trivial⟩
      case measure => simp [intOf]; omega
    · have hpk : Hid (p = kk) := Lib.hid (by omega)
      have hk2i : ¬ (p : Int) < 2 := by have := HKK.out; have := hpk.out; omega
      have HCG : Hid (∀ W, Gr wL.heap.size wL.drew W → W.cell? ⟨gw, p, none⟩ = some (.slice Aq 0 cq)) := Lib.hid fun W hW => cell_below (Below.trans (Below.drew (Below.refl _ _)) hW.1) z2
      clear hCe4 hSV4 yr yf hST hvq hrds hcq fz
      go_wp2_with fail
      refine wp_region_tbl _ (fun _ => none) (wL.heap.size) (by kernel_rfl) (by kernel_rfl) (by kernel_rfl) ?_
      repeat (first
        | (refine wpR_plain ?_ (by rfl) (fun K hK => ?_); (focus (first | (simp only [Region.wanted]; done) | (go_simp; done))); apply Exists.intro; refine ⟨fun W hW => ?_, ?_⟩; (go_simp; (try simp only [plainUpon_value, true_and]); rfl); go_simp; refine hK _ ?_; clear hK K)
        | (refine wpR_plain ?_ (by rfl) (fun K hK => ?_); (focus (first | (simp only [Region.wanted]; done) | (go_simp; done))); apply Exists.intro; refine ⟨fun W hW => ?_, ?_⟩; (have hcw := HCG.out W hW; go_simp; (try simp only [plainUpon_value, true_and]); rfl); go_simp; refine hK _ ?_; clear hK K)
        | (refine wpR_skip ?_ (fun K hK => ?_); (focus (first | (simp only [Region.wanted]; done) | (go_simp; done))); go_simp; refine hK _ ?_; clear hK K)
        | (refine wpR_skip ?_ (fun K hK => ?_); (focus (first | (simp only [Region.wanted]; done) | (go_simp; done) | (simp [Region.wanted, yielded, undef]; done) | (go_simp; simp [undef]; done) | (go_simp; decide) | rfl)); go_simp; refine hK _ ?_; clear hK K))
      refine wpR_nil (fun W1 hW hF => ?_)
      have hbW := Below.trans (Below.drew (Below.refl _ _)) hW.1
      have u1 := HCG.out W1 hW
      have HM := Lib.hid (HM4.out.below hbW)
      clear hbW hF hW HCG HM4 HX4 HSt HBF z2
      have hwk : IntKind.i64.wrap ((k : Int) + 1) = ((k + 1 : Nat) : Int) := by rw [IntKind.wrap_i64]; omega
      go_wp2_with fail
      rename World => wOld
      go_loopw [25] (fun i wr2 => ∃ p : Nat, p ≤ 3 ∧ i = .int .i64 p ∧ Mid w wr2 gq gw gc g ch room ls cl ls cl) (fun i _ => 3 - (intOf i).toNat)
      case atStart => exact ⟨0, by omega, rfl, HM.out⟩
      case round =>
        rename World => wL
        obtain ⟨p, hp, rfl, hm⟩ := hrel
        clear HM
        by_cases hlt2 : p < 3
        · have hltI : (p : Int) < 3 := by omega
          have hwp : IntKind.i64.wrap ((p : Int) + 1) = ((p + 1 : Nat) : Int) := by rw [IntKind.wrap_i64]; omega
          obtain ⟨v, h1, h2⟩ := hm.s
          obtain ⟨Ap, cp, hvp, hcp, _, _⟩ := h2 p hlt2
          have r1 := cells3 h1 p hlt2
          have r2 := cells3 (v := fun i => Value.pointer (some ⟨g i, 0, none⟩)) hm.p p hlt2
          have r3 := cells3 (v := fun i => Value.bool (cl i)) hm.c p hlt2
          rw [hvp] at r1
          have hQp := hm.q p hlt2
          have hM := Lib.hid hm
          obtain ⟨nn, hnn⟩ : ∃ nn, nn = (ls p).length := ⟨_, rfl⟩
          obtain ⟨bb, hbb⟩ : ∃ bb, bb = cl p := ⟨_, rfl⟩
          obtain ⟨gp, hgp⟩ : ∃ gp, gp = g p := ⟨_, rfl⟩
          (try simp only at r2); (try simp only at r3)
          rw [← hnn] at r1; rw [← hbb] at r3; rw [← hgp] at r2
          rw [← hbb, ← hgp] at hQp
          have HQp := Lib.hid hQp
          have HNN : Hid (nn = (bys (ls p)).length) := Lib.hid (by rw [hnn]; simp [bys])
          have HC : Hid (∀ W, Gr wL.heap.size wL.drew W → W.cell? ⟨gw, p, none⟩ = some (.slice Ap nn cp) ∧ W.cell? ⟨gq, p, none⟩ = some (.pointer (some ⟨gp, 0, none⟩)) ∧ W.cell? ⟨gc, p, none⟩ = some (.bool bb)) := Lib.hid fun W hW => by
            have h := Below.trans (Below.drew (Below.refl wL.heap.size wL)) hW.1
            exact ⟨cell_below h r1, cell_below h r2, cell_below h r3⟩
          clear hm h1 h2 r1 r2 r3 hQp hvp hnn hbb hgp
          go_wp2_with fail
          refine wp_region_tbl _ (chkTbl nn bb) (wL.heap.size) (by kernel_rfl) (by kernel_rfl) (by kernel_rfl) ?_
          repeat (first
            | (refine wpR_plain ?_ (by rfl) (fun K hK => ?_); (focus (first | (simp only [Region.wanted]; done) | (go_simp; done))); apply Exists.intro; refine ⟨fun W hW => ?_, ?_⟩; (go_simp; (try simp only [plainUpon_value, true_and]); rfl); go_simp; refine hK _ ?_; clear hK K)
            | (refine wpR_plain ?_ (by rfl) (fun K hK => ?_); (focus (first | (simp only [Region.wanted]; done) | (go_simp; done))); apply Exists.intro; refine ⟨fun W hW => ?_, ?_⟩; (have hcw := HC.out W hW; go_simp; (try simp only [plainUpon_value, true_and]); rfl); go_simp; refine hK _ ?_; clear hK K)
            | (refine wpR_val (by rfl) ?_ (fun W hW hF => ?_) (fun K hK => ?_); (focus (first | (simp only [Region.wanted]; done) | (go_simp; done))); (go_simp; simp only [relUpon_enter]; exact len_rel W gp _ _ _ _ (HQp.out.below (Below.trans (Below.drew (Below.refl wL.heap.size wL)) hW.1)) nn HNN.out); go_simp; refine hK _ ?_; clear hK K)
            | (refine wpR_val (by rfl) ?_ (fun W hW hF => ?_) (fun K hK => ?_); (focus (first | (simp only [Region.wanted]; done) | (go_simp; done))); (go_simp; simp only [relUpon_enter]; exact closed_rel W gp _ _ _ bb (HQp.out.below (Below.trans (Below.drew (Below.refl wL.heap.size wL)) hW.1))); go_simp; refine hK _ ?_; clear hK K))
          refine wpR_nil (fun W hW hF => ?_)
          have HM := Lib.hid (hM.out.below (Below.trans (Below.drew (Below.refl wL.heap.size wL)) hW.1))
          clear hF hW HC hM HQp
          go_wp2
          go_roundw
          case rel => exact ⟨p + 1, by omega, by go_num, HM.out⟩
          case measure => simp [intOf]; omega
        · have hltI : ¬ (p : Int) < 3 := by omega
          have HM := Lib.hid hm
          clear hm
          go_wp2
          refine ⟨⟨rfl, rfl, k + 1, ls, cl, ?_, by omega, HM.out.stt⟩, ?_⟩
          · unfold qpN
            simp only [List.forall_mem_cons, List.not_mem_nil, false_implies, implies_true, and_true]
            exact ⟨rfl, rfl, rfl, rfl, rfl, rfl, rfl, rfl, by first | rfl | (show Value.int _ _ = Value.int _ _; congr 1; omega)⟩
          · simp [qpMu, intOf]; omega
end Go.Proofs.Ythecekkophbceaa
