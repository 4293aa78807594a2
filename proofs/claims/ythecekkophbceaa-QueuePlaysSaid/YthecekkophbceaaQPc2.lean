/- QueuePlays: the round of a Close. -/
import Derived.Test.YthecekkophbceaaQP0
namespace Go.Proofs.Ythecekkophbceaa
open Go.RowKit Go.Conc
set_option linter.unusedVariables false
set_option linter.unusedSimpArgs false
attribute [local irreducible] wpR relOp Stu.wpR Stu.relOp
set_option maxRecDepth 1000000 in
set_option maxHeartbeats 2000000 in
theorem qp_case2 (w wr : World) (A : Addr) (c n room gq gw gc k : Nat) (g ch : Nat → Nat) (f : Nat → Value) (ls : Nat → List ByteArray) (cl : Nat → Bool) (q tq : Nat) (s : ByteArray)
    (hst : Stt w wr gq gw gc g ch room ls cl) (hD : Dst w.heap.size g ch) (wb : w.heap.size ≤ gw) (cb : w.heap.size ≤ gc) (hk : k < n) (hn80 : n ≤ 80) (hc : n ≤ c) (hq : q < 3) (ht : tq < 3) (hs : s.size ≤ 100)
    (c0 : wr.cell? (A.add (k * 4)) = some (.int .i64 2)) (c1 : wr.cell? ⟨(A.add (k * 4)).block, (A.add (k * 4)).off + 1, none⟩ = some (.int .i64 q)) (c2 : wr.cell? ⟨(A.add (k * 4)).block, (A.add (k * 4)).off + 2, none⟩ = some (.int .i64 tq)) (c3 : wr.cell? ⟨(A.add (k * 4)).block, (A.add (k * 4)).off + 3, none⟩ = some (.string s))
    (Q0 : Exit → Act → World → Prop) :
    Code.wp Try.prog qpBody (Exit.then (fun a' w' => QI w A c n room gq gw gc g ch a' w' ∧ qpMu n a' w' < qpMu n ⟨#[.int .i64 room, .slice (some A) n c, f 2, f 3, f 4, .pointer (some ⟨g 0, 0, none⟩), f 6, .pointer (some ⟨g 1, 0, none⟩), f 8, .pointer (some ⟨g 2, 0, none⟩), f 10, .slice (some ⟨gq, 0, none⟩) 3 3, .pointer (some ⟨gw, 0, none⟩), .pointer (some ⟨gc, 0, none⟩), .int .i64 k, f 15, f 16, f 17, f 18, f 19, f 20, f 21, f 22, f 23, f 24, f 25, f 26, f 27, f 28, f 29, f 30, f 31, f 32, f 33, f 34, f 35, f 36, f 37, f 38, f 39, f 40, f 41, f 42, f 43, f 44, f 45, f 46, f 47, f 48, f 49, f 50, f 51, f 52, f 53, f 54, f 55, f 56, f 57, f 58, f 59, f 60, f 61, f 62, f 63, f 64, f 65, f 66, f 67, f 68, f 69, f 70, f 71, f 72, f 73, f 74, f 75, f 76, f 77, f 78, f 79, f 80, f 81, f 82, f 83, f 84, f 85, f 86, f 87, f 88, f 89, f 90, f 91, f 92, f 93, f 94, f 95, f 96, f 97, f 98, f 99, f 100, f 101, f 102, f 103, f 104, f 105, f 106, f 107, f 108, f 109, f 110, f 111, f 112, f 113, f 114, f 115, f 116, f 117, f 118, f 119, f 120, f 121, f 122, f 123, f 124, f 125, f 126, f 127, f 128, f 129, f 130, f 131, f 132, f 133, f 134, f 135, f 136, f 137, f 138, f 139, f 140, f 141, f 142, f 143, f 144, f 145, f 146, f 147, f 148, f 149, f 150, f 151, f 152, f 153, f 154, f 155, f 156, f 157, f 158, f 159, f 160, f 161, f 162, f 163, f 164, f 165, f 166, f 167, f 168, f 169, f 170, f 171, f 172, f 173, f 174, f 175, f 176, f 177, f 178, f 179, f 180, f 181, f 182, f 183, f 184, f 185, f 186, f 187, f 188, f 189, f 190, f 191, f 192, f 193, f 194, f 195, f 196, f 197, f 198, f 199, f 200, f 201, f 202, f 203, f 204, f 205, f 206, f 207, f 208, f 209, f 210, f 211, f 212, f 213, f 214, f 215, f 216, f 217, f 218, f 219, f 220, f 221, f 222, f 223, f 224, f 225, f 226, f 227, f 228, f 229, f 230, f 231, f 232, f 233, f 234, f 235, f 236, f 237, f 238, f 239, f 240, f 241, f 242, f 243, f 244, f 245, f 246, f 247, f 248, f 249, f 250, f 251, f 252, f 253, f 254, f 255, f 256, f 257, f 258, f 259, f 260, f 261, f 262, f 263, f 264, f 265, f 266, f 267, f 268, f 269, f 270, f 271, f 272, f 273, f 274, f 275, f 276, f 277, f 278, f 279, f 280, f 281, f 282, f 283, f 284, f 285, f 286, f 287, f 288, f 289, f 290, f 291, f 292, f 293, f 294, f 295, f 296, f 297, f 298, f 299, f 300, f 301, f 302, f 303, f 304, f 305, f 306, f 307, f 308, f 309, f 310, f 311, f 312, f 313, f 314, f 315, f 316, f 317, f 318, f 319, f 320, f 321, f 322, f 323, f 324, f 325, f 326, f 327, f 328, f 329, f 330, f 331, f 332, f 333, f 334, f 335, f 336, f 337, f 338, f 339, f 340, f 341, f 342, f 343, f 344, f 345, f 346, f 347, f 348, f 349, f 350, f 351, f 352, f 353, f 354, f 355, f 356, f 357, f 358, f 359, f 360, f 361, f 362, f 363, f 364, f 365, f 366, f 367, f 368, f 369, f 370, f 371, f 372, f 373, f 374, f 375, f 376, f 377, f 378, f 379, f 380, f 381, f 382, f 383, f 384, f 385], []⟩ wr) Q0) ⟨#[.int .i64 room, .slice (some A) n c, f 2, f 3, f 4, .pointer (some ⟨g 0, 0, none⟩), f 6, .pointer (some ⟨g 1, 0, none⟩), f 8, .pointer (some ⟨g 2, 0, none⟩), f 10, .slice (some ⟨gq, 0, none⟩) 3 3, .pointer (some ⟨gw, 0, none⟩), .pointer (some ⟨gc, 0, none⟩), .int .i64 k, f 15, f 16, f 17, f 18, f 19, f 20, f 21, f 22, f 23, f 24, f 25, f 26, f 27, f 28, f 29, f 30, f 31, f 32, f 33, f 34, f 35, f 36, f 37, f 38, f 39, f 40, f 41, f 42, f 43, f 44, f 45, f 46, f 47, f 48, f 49, f 50, f 51, f 52, f 53, f 54, f 55, f 56, f 57, f 58, f 59, f 60, f 61, f 62, f 63, f 64, f 65, f 66, f 67, f 68, f 69, f 70, f 71, f 72, f 73, f 74, f 75, f 76, f 77, f 78, f 79, f 80, f 81, f 82, f 83, f 84, f 85, f 86, f 87, f 88, f 89, f 90, f 91, f 92, f 93, f 94, f 95, f 96, f 97, f 98, f 99, f 100, f 101, f 102, f 103, f 104, f 105, f 106, f 107, f 108, f 109, f 110, f 111, f 112, f 113, f 114, f 115, f 116, f 117, f 118, f 119, f 120, f 121, f 122, f 123, f 124, f 125, f 126, f 127, f 128, f 129, f 130, f 131, f 132, f 133, f 134, f 135, f 136, f 137, f 138, f 139, f 140, f 141, f 142, f 143, f 144, f 145, f 146, f 147, f 148, f 149, f 150, f 151, f 152, f 153, f 154, f 155, f 156, f 157, f 158, f 159, f 160, f 161, f 162, f 163, f 164, f 165, f 166, f 167, f 168, f 169, f 170, f 171, f 172, f 173, f 174, f 175, f 176, f 177, f 178, f 179, f 180, f 181, f 182, f 183, f 184, f 185, f 186, f 187, f 188, f 189, f 190, f 191, f 192, f 193, f 194, f 195, f 196, f 197, f 198, f 199, f 200, f 201, f 202, f 203, f 204, f 205, f 206, f 207, f 208, f 209, f 210, f 211, f 212, f 213, f 214, f 215, f 216, f 217, f 218, f 219, f 220, f 221, f 222, f 223, f 224, f 225, f 226, f 227, f 228, f 229, f 230, f 231, f 232, f 233, f 234, f 235, f 236, f 237, f 238, f 239, f 240, f 241, f 242, f 243, f 244, f 245, f 246, f 247, f 248, f 249, f 250, f 251, f 252, f 253, f 254, f 255, f 256, f 257, f 258, f 259, f 260, f 261, f 262, f 263, f 264, f 265, f 266, f 267, f 268, f 269, f 270, f 271, f 272, f 273, f 274, f 275, f 276, f 277, f 278, f 279, f 280, f 281, f 282, f 283, f 284, f 285, f 286, f 287, f 288, f 289, f 290, f 291, f 292, f 293, f 294, f 295, f 296, f 297, f 298, f 299, f 300, f 301, f 302, f 303, f 304, f 305, f 306, f 307, f 308, f 309, f 310, f 311, f 312, f 313, f 314, f 315, f 316, f 317, f 318, f 319, f 320, f 321, f 322, f 323, f 324, f 325, f 326, f 327, f 328, f 329, f 330, f 331, f 332, f 333, f 334, f 335, f 336, f 337, f 338, f 339, f 340, f 341, f 342, f 343, f 344, f 345, f 346, f 347, f 348, f 349, f 350, f 351, f 352, f 353, f 354, f 355, f 356, f 357, f 358, f 359, f 360, f 361, f 362, f 363, f 364, f 365, f 366, f 367, f 368, f 369, f 370, f 371, f 372, f 373, f 374, f 375, f 376, f 377, f 378, f 379, f 380, f 381, f 382, f 383, f 384, f 385], []⟩ wr := by
  conv => arg 2; whnf
  have hq1 : (q : Int) < 3 := by omega
  have hq2 : ¬ (2 : Int) < q := by omega
  have ht2 : ¬ (2 : Int) < tq := by omega
  have hs2 : ¬ (100 : Int) < s.size := by omega
  have HSt := Lib.hid hst
  clear hst
  have hbX := (Below.refl _ wr).alloc (Nat.le_refl _) (.cells #[.int .i64 2, .int .i64 q, .int .i64 tq, .string s] 45)
  have hmX := (HSt.out.mid wb cb).below hbX
  obtain ⟨v, hCe, _⟩ := hmX.cells (heap_new wr (.cells #[.int .i64 2, .int .i64 q, .int .i64 tq, .string s] 45) wr.heap.size rfl)
  obtain ⟨_, _, _, _, hrd, _, _⟩ := hCe.rd
  obtain ⟨r1, r2, r3⟩ := hrd q hq
  have hcon := close_any _ _ _ _ _ _ (hmX.q q hq)
  obtain ⟨gp, hgp⟩ : ∃ gp, gp = g q := ⟨_, rfl⟩
  rw [← hgp] at r1 hcon
  have HCon := Lib.hid hcon; have HMX := Lib.hid hmX; have HGP := Lib.hid hgp
  clear hcon hmX hbX hCe hrd r2 r3 hgp
  go_wp2_with fail
  refine HCon.out.mono ?_
  rintro e w4 ⟨rfl, hq4, hc4⟩
  rw [HGP.out] at hq4 hc4
  have hm4 : Mid w w4 gq gw gc g ch room (upq ls q (ls q)) (upq cl q true) ls cl := HMX.out.turn hD hc4 (fun k hk => ⟨q, hq, .inl hk⟩) (HMX.out.q.one hD q hq hc4 (fun k hk => .inl hk) hq4) (fun i hi => by
    unfold upq; split
    · rename_i e; subst e; exact HMX.out.l i hi
    · exact HMX.out.l i hi)
  rw [show upq ls q (ls q) = ls by funext i; unfold upq; split <;> simp_all] at hm4
  have hX4 : w4.heap[wr.heap.size]? = some (.cells #[.int .i64 2, .int .i64 q, .int .i64 tq, .string s] 45) := by
    refine hc4.heap (heap_new wr _ wr.heap.size rfl) (fun e => ?_)
    obtain ⟨⟨cs', fr', o1⟩, _⟩ := (HSt.out.q q hq).obj
    have := (Array.getElem?_eq_some_iff.1 o1).1
    omega
  obtain ⟨v4, hCe4, _⟩ := hm4.cells hX4
  obtain ⟨x0, x1, x2, x3, hrd4, hfz4, hfc4⟩ := hCe4.rd
  obtain ⟨r1', r2', r3'⟩ := hrd4 q hq
  have fz := hfc4 q
  have HM := Lib.hid (hm4.setc q hq true)
  obtain ⟨cl', hcl'⟩ : ∃ c, c = upq cl q true := ⟨_, rfl⟩
  rw [← hcl'] at HM
  clear hq4 hc4 hm4 hCe4 hrd4 hfz4 hfc4 hcl' HCon HMX HSt r1' r2' hX4
  have hwk : IntKind.i64.wrap ((k : Int) + 1) = ((k + 1 : Nat) : Int) := by rw [IntKind.wrap_i64]; omega
  go_wp2_with fail
  rename World => wOld
  go_loopw [25] (fun i wr2 => ∃ p : Nat, p ≤ 3 ∧ i = .int .i64 p ∧ Mid w wr2 gq gw gc g ch room ls cl' ls cl') (fun i _ => 3 - (intOf i).toNat)
  case atStart => exact ⟨0, by omega, rfl, HM.out⟩
  case round =>
    rename World => wL
    obtain ⟨p, hp, rfl, hm⟩ := hrel
    clear HM
    by_cases hlt2 : p < 3
    · have hltI : (p : Int) < 3 := by omega
      have hwp : IntKind.i64.wrap ((p : Int) + 1) = ((p + 1 : Nat) : Int) := by rw [IntKind.wrap_i64]; omega
      obtain ⟨v, h1, h2⟩ := hm.s
      obtain ⟨Ap, cp, hvp, hcp, _, _⟩ := h2 p hlt2
      have r1 := cells3 h1 p hlt2
      have r2 := cells3 (v := fun i => Value.pointer (some ⟨g i, 0, none⟩)) hm.p p hlt2
      have r3 := cells3 (v := fun i => Value.bool (cl' i)) hm.c p hlt2
      rw [hvp] at r1
      have hQp := hm.q p hlt2
      have hM := Lib.hid hm
      obtain ⟨nn, hnn⟩ : ∃ nn, nn = (ls p).length := ⟨_, rfl⟩
      obtain ⟨bb, hbb⟩ : ∃ bb, bb = cl' p := ⟨_, rfl⟩
      obtain ⟨gp, hgp⟩ : ∃ gp, gp = g p := ⟨_, rfl⟩
      (try simp only at r2); (try simp only at r3)
      rw [← hnn] at r1; rw [← hbb] at r3; rw [← hgp] at r2
      rw [← hbb, ← hgp] at hQp
      have HQp := Lib.hid hQp
      have HNN : Hid (nn = (bys (ls p)).length) := Lib.hid (by rw [hnn]; simp [bys])
      have HC : Hid (∀ W, Gr wL.heap.size wL.drew W → W.cell? ⟨gw, p, none⟩ = some (.slice Ap nn cp) ∧ W.cell? ⟨gq, p, none⟩ = some (.pointer (some ⟨gp, 0, none⟩)) ∧ W.cell? ⟨gc, p, none⟩ = some (.bool bb)) := Lib.hid fun W hW => by
        have h := Below.trans (Below.drew (Below.refl wL.heap.size wL)) hW.1
        exact ⟨cell_below h r1, cell_below h r2, cell_below h r3⟩
      clear hm h1 h2 r1 r2 r3 hQp hvp hnn hbb hgp
      go_wp2_with fail
      refine wp_region_tbl _ (chkTbl nn bb) (wL.heap.size) (by kernel_rfl) (by kernel_rfl) (by kernel_rfl) ?_
      repeat (first
        | (refine wpR_plain ?_ (by rfl) (fun K hK => ?_); (focus (first | (simp only [Region.wanted]; done) | (go_simp; done))); apply Exists.intro; refine ⟨fun W hW => ?_, ?_⟩; (go_simp; (try simp only [plainUpon_value, true_and]); rfl); go_simp; refine hK _ ?_; clear hK K)
        | (refine wpR_plain ?_ (by rfl) (fun K hK => ?_); (focus (first | (simp only [Region.wanted]; done) | (go_simp; done))); apply Exists.intro; refine ⟨fun W hW => ?_, ?_⟩; (have hcw := HC.out W hW; go_simp; (try simp only [plainUpon_value, true_and]); rfl); go_simp; refine hK _ ?_; clear hK K)
        | (refine wpR_val (by rfl) ?_ (fun W hW hF => ?_) (fun K hK => ?_); (focus (first | (simp only [Region.wanted]; done) | (go_simp; done))); (go_simp; simp only [relUpon_enter]; exact len_rel W gp _ _ _ _ (HQp.out.below (Below.trans (Below.drew (Below.refl wL.heap.size wL)) hW.1)) nn HNN.out); go_simp; refine hK _ ?_; clear hK K)
        | (refine wpR_val (by rfl) ?_ (fun W hW hF => ?_) (fun K hK => ?_); (focus (first | (simp only [Region.wanted]; done) | (go_simp; done))); (go_simp; simp only [relUpon_enter]; exact closed_rel W gp _ _ _ bb (HQp.out.below (Below.trans (Below.drew (Below.refl wL.heap.size wL)) hW.1))); go_simp; refine hK _ ?_; clear hK K))
      refine wpR_nil (fun W hW hF => ?_)
      have HM := Lib.hid (hM.out.below (Below.trans (Below.drew (Below.refl wL.heap.size wL)) hW.1))
      clear hF hW HC hM HQp
      go_wp2
      go_roundw
      case rel => exact ⟨p + 1, by omega, by go_num, HM.out⟩
      case measure => simp [intOf]; omega
    · have hltI : ¬ (p : Int) < 3 := by omega
      have HM := Lib.hid hm
      clear hm
      go_wp2
      refine ⟨⟨rfl, rfl, k + 1, ls, cl', ?_, by omega, HM.out.stt⟩, ?_⟩
      · unfold qpN
        simp only [List.forall_mem_cons, List.not_mem_nil, false_implies, implies_true, and_true]
        exact ⟨rfl, rfl, rfl, rfl, rfl, rfl, rfl, rfl, by first | rfl | (show Value.int _ _ = Value.int _ _; congr 1; omega)⟩
      · simp [qpMu, intOf]; omega
end Go.Proofs.Ythecekkophbceaa
