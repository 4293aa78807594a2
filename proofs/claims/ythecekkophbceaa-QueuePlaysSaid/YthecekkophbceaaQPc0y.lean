/- QueuePlays: the round of a Put that may be. -/
import Derived.Test.YthecekkophbceaaQApp
namespace Go.Proofs.Ythecekkophbceaa
open Go.RowKit Go.Conc
set_option linter.unusedVariables false
set_option linter.unusedSimpArgs false
attribute [local irreducible] wpR relOp Stu.wpR Stu.relOp
set_option maxRecDepth 1000000 in
set_option maxHeartbeats 2000000 in
theorem qp_case0y (w wr : World) (A : Addr) (c n room gq gw gc k : Nat) (g ch : Nat → Nat) (f : Nat → Value) (ls : Nat → List ByteArray) (cl : Nat → Bool) (q tq : Nat) (s : ByteArray)
    (hst : Stt w wr gq gw gc g ch room ls cl) (hD : Dst w.heap.size g ch) (wb : w.heap.size ≤ gw) (cb : w.heap.size ≤ gc) (hk : k < n) (hn80 : n ≤ 80) (hc : n ≤ c) (hr64 : room ≤ 64) (hq : q < 3) (ht : tq < 3) (hs : s.size ≤ 100)
    (c0 : wr.cell? (A.add (k * 4)) = some (.int .i64 0)) (c1 : wr.cell? ⟨(A.add (k * 4)).block, (A.add (k * 4)).off + 1, none⟩ = some (.int .i64 q)) (c2 : wr.cell? ⟨(A.add (k * 4)).block, (A.add (k * 4)).off + 2, none⟩ = some (.int .i64 tq)) (c3 : wr.cell? ⟨(A.add (k * 4)).block, (A.add (k * 4)).off + 3, none⟩ = some (.string s))
    (Q0 : Exit → Act → World → Prop)
    (hm1 : (ls q).length < room) (hm2 : cl q = false) :
    Code.wp Try.prog qpBody (Exit.then (fun a' w' => QI w A c n room gq gw gc g ch a' w' ∧ qpMu n a' w' < qpMu n ⟨#[.int .i64 room, .slice (some A) n c, f 2, f 3, f 4, .pointer (some ⟨g 0, 0, none⟩), f 6, .pointer (some ⟨g 1, 0, none⟩), f 8, .pointer (some ⟨g 2, 0, none⟩), f 10, .slice (some ⟨gq, 0, none⟩) 3 3, .pointer (some ⟨gw, 0, none⟩), .pointer (some ⟨gc, 0, none⟩), .int .i64 k, f 15, f 16, f 17, f 18, f 19, f 20, f 21, f 22, f 23, f 24, f 25, f 26, f 27, f 28, f 29, f 30, f 31, f 32, f 33, f 34, f 35, f 36, f 37, f 38, f 39, f 40, f 41, f 42, f 43, f 44, f 45, f 46, f 47, f 48, f 49, f 50, f 51, f 52, f 53, f 54, f 55, f 56, f 57, f 58, f 59, f 60, f 61, f 62, f 63, f 64, f 65, f 66, f 67, f 68, f 69, f 70, f 71, f 72, f 73, f 74, f 75, f 76, f 77, f 78, f 79, f 80, f 81, f 82, f 83, f 84, f 85, f 86, f 87, f 88, f 89, f 90, f 91, f 92, f 93, f 94, f 95, f 96, f 97, f 98, f 99, f 100, f 101, f 102, f 103, f 104, f 105, f 106, f 107, f 108, f 109, f 110, f 111, f 112, f 113, f 114, f 115, f 116, f 117, f 118, f 119, f 120, f 121, f 122, f 123, f 124, f 125, f 126, f 127, f 128, f 129, f 130, f 131, f 132, f 133, f 134, f 135, f 136, f 137, f 138, f 139, f 140, f 141, f 142, f 143, f 144, f 145, f 146, f 147, f 148, f 149, f 150, f 151, f 152, f 153, f 154, f 155, f 156, f 157, f 158, f 159, f 160, f 161, f 162, f 163, f 164, f 165, f 166, f 167, f 168, f 169, f 170, f 171, f 172, f 173, f 174, f 175, f 176, f 177, f 178, f 179, f 180, f 181, f 182, f 183, f 184, f 185, f 186, f 187, f 188, f 189, f 190, f 191, f 192, f 193, f 194, f 195, f 196, f 197, f 198, f 199, f 200, f 201, f 202, f 203, f 204, f 205, f 206, f 207, f 208, f 209, f 210, f 211, f 212, f 213, f 214, f 215, f 216, f 217, f 218, f 219, f 220, f 221, f 222, f 223, f 224, f 225, f 226, f 227, f 228, f 229, f 230, f 231, f 232, f 233, f 234, f 235, f 236, f 237, f 238, f 239, f 240, f 241, f 242, f 243, f 244, f 245, f 246, f 247, f 248, f 249, f 250, f 251, f 252, f 253, f 254, f 255, f 256, f 257, f 258, f 259, f 260, f 261, f 262, f 263, f 264, f 265, f 266, f 267, f 268, f 269, f 270, f 271, f 272, f 273, f 274, f 275, f 276, f 277, f 278, f 279, f 280, f 281, f 282, f 283, f 284, f 285, f 286, f 287, f 288, f 289, f 290, f 291, f 292, f 293, f 294, f 295, f 296, f 297, f 298, f 299, f 300, f 301, f 302, f 303, f 304, f 305, f 306, f 307, f 308, f 309, f 310, f 311, f 312, f 313, f 314, f 315, f 316, f 317, f 318, f 319, f 320, f 321, f 322, f 323, f 324, f 325, f 326, f 327, f 328, f 329, f 330, f 331, f 332, f 333, f 334, f 335, f 336, f 337, f 338, f 339, f 340, f 341, f 342, f 343, f 344, f 345, f 346, f 347, f 348, f 349, f 350, f 351, f 352, f 353, f 354, f 355, f 356, f 357, f 358, f 359, f 360, f 361, f 362, f 363, f 364, f 365, f 366, f 367, f 368, f 369, f 370, f 371, f 372, f 373, f 374, f 375, f 376, f 377, f 378, f 379, f 380, f 381, f 382, f 383, f 384, f 385], []⟩ wr) Q0) ⟨#[.int .i64 room, .slice (some A) n c, f 2, f 3, f 4, .pointer (some ⟨g 0, 0, none⟩), f 6, .pointer (some ⟨g 1, 0, none⟩), f 8, .pointer (some ⟨g 2, 0, none⟩), f 10, .slice (some ⟨gq, 0, none⟩) 3 3, .pointer (some ⟨gw, 0, none⟩), .pointer (some ⟨gc, 0, none⟩), .int .i64 k, f 15, f 16, f 17, f 18, f 19, f 20, f 21, f 22, f 23, f 24, f 25, f 26, f 27, f 28, f 29, f 30, f 31, f 32, f 33, f 34, f 35, f 36, f 37, f 38, f 39, f 40, f 41, f 42, f 43, f 44, f 45, f 46, f 47, f 48, f 49, f 50, f 51, f 52, f 53, f 54, f 55, f 56, f 57, f 58, f 59, f 60, f 61, f 62, f 63, f 64, f 65, f 66, f 67, f 68, f 69, f 70, f 71, f 72, f 73, f 74, f 75, f 76, f 77, f 78, f 79, f 80, f 81, f 82, f 83, f 84, f 85, f 86, f 87, f 88, f 89, f 90, f 91, f 92, f 93, f 94, f 95, f 96, f 97, f 98, f 99, f 100, f 101, f 102, f 103, f 104, f 105, f 106, f 107, f 108, f 109, f 110, f 111, f 112, f 113, f 114, f 115, f 116, f 117, f 118, f 119, f 120, f 121, f 122, f 123, f 124, f 125, f 126, f 127, f 128, f 129, f 130, f 131, f 132, f 133, f 134, f 135, f 136, f 137, f 138, f 139, f 140, f 141, f 142, f 143, f 144, f 145, f 146, f 147, f 148, f 149, f 150, f 151, f 152, f 153, f 154, f 155, f 156, f 157, f 158, f 159, f 160, f 161, f 162, f 163, f 164, f 165, f 166, f 167, f 168, f 169, f 170, f 171, f 172, f 173, f 174, f 175, f 176, f 177, f 178, f 179, f 180, f 181, f 182, f 183, f 184, f 185, f 186, f 187, f 188, f 189, f 190, f 191, f 192, f 193, f 194, f 195, f 196, f 197, f 198, f 199, f 200, f 201, f 202, f 203, f 204, f 205, f 206, f 207, f 208, f 209, f 210, f 211, f 212, f 213, f 214, f 215, f 216, f 217, f 218, f 219, f 220, f 221, f 222, f 223, f 224, f 225, f 226, f 227, f 228, f 229, f 230, f 231, f 232, f 233, f 234, f 235, f 236, f 237, f 238, f 239, f 240, f 241, f 242, f 243, f 244, f 245, f 246, f 247, f 248, f 249, f 250, f 251, f 252, f 253, f 254, f 255, f 256, f 257, f 258, f 259, f 260, f 261, f 262, f 263, f 264, f 265, f 266, f 267, f 268, f 269, f 270, f 271, f 272, f 273, f 274, f 275, f 276, f 277, f 278, f 279, f 280, f 281, f 282, f 283, f 284, f 285, f 286, f 287, f 288, f 289, f 290, f 291, f 292, f 293, f 294, f 295, f 296, f 297, f 298, f 299, f 300, f 301, f 302, f 303, f 304, f 305, f 306, f 307, f 308, f 309, f 310, f 311, f 312, f 313, f 314, f 315, f 316, f 317, f 318, f 319, f 320, f 321, f 322, f 323, f 324, f 325, f 326, f 327, f 328, f 329, f 330, f 331, f 332, f 333, f 334, f 335, f 336, f 337, f 338, f 339, f 340, f 341, f 342, f 343, f 344, f 345, f 346, f 347, f 348, f 349, f 350, f 351, f 352, f 353, f 354, f 355, f 356, f 357, f 358, f 359, f 360, f 361, f 362, f 363, f 364, f 365, f 366, f 367, f 368, f 369, f 370, f 371, f 372, f 373, f 374, f 375, f 376, f 377, f 378, f 379, f 380, f 381, f 382, f 383, f 384, f 385], []⟩ wr := by
  conv => arg 2; whnf
  have hq1 : (q : Int) < 3 := by omega
  have hq2 : ¬ (2 : Int) < q := by omega
  have ht1 : (tq : Int) < 3 := by omega
  have ht2 : ¬ (2 : Int) < tq := by omega
  have hs2 : ¬ (100 : Int) < s.size := by omega
  have HSt := Lib.hid hst
  clear hst
  have hbX := (Below.refl _ wr).alloc (Nat.le_refl _) (.cells #[.int .i64 0, .int .i64 q, .int .i64 tq, .string s] 45)
  have hmX := (HSt.out.mid wb cb).below hbX
  have hxX := heap_new wr (.cells #[.int .i64 0, .int .i64 q, .int .i64 tq, .string s] 45) wr.heap.size rfl
  obtain ⟨v, hCe, hSV⟩ := hmX.cells hxX
  obtain ⟨x0, x1, x2, x3, hrd, _, _⟩ := hCe.rd
  obtain ⟨r1, r2, r3⟩ := hrd q hq
  obtain ⟨Aq, cq, hvq, hcq, _, _⟩ := hSV q hq
  have hSVq := hSV q hq
  rw [hvq] at r2 hSVq
  rw [hm2] at r3
  obtain ⟨nn, hnn⟩ : ∃ nn, nn = (ls q).length := ⟨_, rfl⟩
  obtain ⟨gp, hgp⟩ : ∃ gp, gp = g q := ⟨_, rfl⟩
  rw [← hnn] at r2 hcq hSVq hm1
  rw [← hgp] at r1
  have hlt1 : (nn : Int) < room := by omega
  have HMX := Lib.hid hmX; have HNN := Lib.hid hnn; have HGP := Lib.hid hgp; have HXX := Lib.hid hxX
  have HC : Hid (∀ W, TQ w.heap.size (wr.alloc (.cells #[.int .i64 0, .int .i64 q, .int .i64 tq, .string s] 45)).drew W → W.cell? ⟨wr.heap.size, 1, none⟩ = some (.int .i64 q) ∧ W.cell? ⟨wr.heap.size, 3, none⟩ = some (.string s) ∧ W.cell? ⟨gq, q, none⟩ = some (.pointer (some ⟨gp, 0, none⟩))) := Lib.hid fun W hW => by
    obtain ⟨_, y1, _, y3, yr, _, _⟩ := (hCe.tq ((Gb.tq _ _ ⟨Below.drew (Below.refl _ _), hmX.b.size⟩).trans _ _ _ hW)).rd
    refine ⟨y1, y3, ?_⟩
    rw [hgp]; exact (yr q hq).1
  have HCeW : Hid (∀ W, TQ w.heap.size (wr.alloc (.cells #[.int .i64 0, .int .i64 q, .int .i64 tq, .string s] 45)).drew W → W.heap[wr.heap.size]? = some (.cells #[.int .i64 0, .int .i64 q, .int .i64 tq, .string s] 45)) := Lib.hid fun W hW => (hCe.tq ((Gb.tq _ _ ⟨Below.drew (Below.refl _ _), hmX.b.size⟩).trans _ _ _ hW)).x
  clear hmX hbX hxX hCe hrd hSV hSVq hvq hnn hgp r1 x0 x2
  go_wp2_with fail
  refine Stu.wp_region_stu _ (Stu.mkT [(7, grS w.heap.size s.size s.data.toList), (8, spV w.heap.size (.bool true) (fun W => Mid w W gq gw gc g ch room (upq ls q (ls q ++ [s])) cl ls cl) (fun _ _ h hg => h.below hg.1))]) (fun W => Mid w W gq gw gc g ch room ls cl ls cl) [8] (TQ.refl _) TQ.trans Gb.tq (fun _ _ h hg => h.below hg.1) (HMX.out.below (Below.drew (Below.refl _ _))) (Stu.mkT_ks _ (by show List.Nodup [7, 8]; decide) _ rfl) (by kernel_rfl) (by kernel_rfl) (by kernel_rfl) ?_
  repeat (first
    | (refine Stu.wpR_plain ?_ (by rfl) (by rfl) (fun K hK => ?_); (focus (first | (simp only [Region.wanted]; done) | (go_simp; done))); apply Exists.intro; refine ⟨fun W hW => ?_, ?_⟩; (go_simp; (try simp only [Stu.plainUpon_value, true_and]); rfl); go_simp; refine hK _ ?_; clear hK K)
    | (refine Stu.wpR_plain ?_ (by rfl) (by rfl) (fun K hK => ?_); (focus (first | (simp only [Region.wanted]; done) | (go_simp; done))); apply Exists.intro; refine ⟨fun W hW => ?_, ?_⟩; (have hcw := HC.out W hW; go_simp; (try simp only [Stu.plainUpon_value, true_and]); rfl); go_simp; refine hK _ ?_; clear hK K)
    | (refine Stu.wpR_spg (by rfl) (by rfl) ?_ ?_ (fun W hW hF => ?_) (fun K v hv hK => ?_); (focus (first | (simp only [Region.wanted]; done) | (go_simp; done))); (focus (exact ⟨_, none, _, rfl, Nat.le_refl _⟩)); (go_simp; exact conv_rel W s hs (Nat.le_trans HMX.out.b.size hW.1.size)); (obtain ⟨A7, c7, rfl, hc7⟩ := hv); go_simp; refine hK _ ?_; clear hK K)
    | (refine Stu.wpR_spu (by rfl) (by rfl) ?_ ?_ (fun W hW hU hF => ?_) (fun K v hv hK => ?_); (focus (first | (simp only [Region.wanted]; done) | (go_simp; done))); (focus (exact ⟨_, rfl⟩)); (go_simp; simp only [Stu.relUpon_enter]; exact put_rel hU hD q hq s hs (hF 7 rfl) gp HGP.out true (by rw [hm2]; simp; rw [← HNN.out]; exact hm1)); (cases hv); go_simp; refine hK _ ?_; clear hK K))
  refine Stu.wpR_nil (fun W1 hW hU hF => ?_)
  have hMW : Mid w W1 gq gw gc g ch room (upq ls q (ls q ++ [s])) cl ls cl := hU
  have hxW := HCeW.out W1 hW
  obtain ⟨v2, hCe2, hSV2⟩ := hMW.cells hxW
  obtain ⟨_, y1, _, y3, yr, yf, _⟩ := hCe2.rd
  obtain ⟨_, z2, _⟩ := yr q hq
  obtain ⟨Aq2, cq2, hvq2, hcq2, _, _⟩ := hSV2 q hq
  have hSVq2 := hSV2 q hq
  rw [hvq2] at z2 hSVq2
  rw [← HNN.out] at z2 hSVq2 hcq2
  obtain ⟨S0, hS0⟩ : ∃ S0, S0 = W1.heap.size := ⟨_, rfl⟩
  have HS0 : Hid (Below S0 W1 W1.drew ∧ S0 ≤ W1.heap.size) := Lib.hid ⟨by rw [hS0]; exact Below.drew (Below.refl _ _), by omega⟩
  have hSz : Hid (∀ W, TQ S0 W1.drew W → S0 ≤ W.heap.size) := Lib.hid fun W h => by rw [hS0]; exact h.1.size
  have HC2 : Hid (∀ W, TQ S0 W1.drew W → W.cell? ⟨wr.heap.size, 1, none⟩ = some (.int .i64 q) ∧ W.cell? ⟨wr.heap.size, 3, none⟩ = some (.string s) ∧ W.cell? ⟨gw, q, none⟩ = some (.slice Aq2 nn cq2)) := Lib.hid fun W hW => by
    have hb : Below W1.heap.size W1 W := (Below.drew (Below.refl _ W1)).trans (by rw [← hS0]; exact hW.1)
    exact ⟨cell_below hb y1, cell_below hb y3, cell_below hb z2⟩
  have HSV2 : Hid (∀ W, TQ S0 W1.drew W → StrV W (.slice Aq2 nn cq2) (ls q)) := Lib.hid fun W hW => by
    have hb : Below W1.heap.size W1 W := (Below.drew (Below.refl _ W1)).trans (by rw [← hS0]; exact hW.1)
    exact hSVq2.chg (Chg.of_below (S := fun _ => False) hb) (fun _ h => h.elim)
  have HMW := Lib.hid hMW; have HXW := Lib.hid hxW; have HS00 := Lib.hid hS0
  have hn1 : nn ≤ 1000000 := by omega
  have hz1 : W1.cell? ⟨wr.heap.size, 1, none⟩ = some (.int .i64 q) := y1
  clear hU hF hW hMW hxW hCe2 hSV2 hSVq2 hvq2 hS0 y3 yr yf z2 HC HCeW y1
  go_wp2_with fail
  refine Stu.wp_region_stu_tail _ 12 (Stu.mkT [(2, lit0 S0), (7, sp1 S0 W1 nn (ls q)), (10, lit1 S0 s), (11, sp2 S0 W1 (nn + 1) (ls q ++ [s]))]) (fun W => Below S0 W1 W) [7, 11] (TQ.refl _) TQ.trans Gb.tq (fun _ _ h hg => h.trans (hg.1.mono hg.2)) (HS0.out.1) (Stu.mkT_ks _ (by show List.Nodup [2, 7, 10, 11]; decide) _ rfl) (by kernel_rfl) (by kernel_rfl) (by kernel_rfl) ?_
  simp only [List.take_succ_cons, List.take_zero, List.drop_succ_cons, List.drop_zero]
  repeat (first
    | (refine Stu.wpR_plain ?_ (by rfl) (by rfl) (fun K hK => ?_); (focus (first | (simp only [Region.wanted]; done) | (go_simp; done))); apply Exists.intro; refine ⟨fun W hW => ?_, ?_⟩; (go_simp; (try simp only [Stu.plainUpon_value, true_and]); rfl); go_simp; refine hK _ ?_; clear hK K)
    | (refine Stu.wpR_plain ?_ (by rfl) (by rfl) (fun K hK => ?_); (focus (first | (simp only [Region.wanted]; done) | (go_simp; done))); apply Exists.intro; refine ⟨fun W hW => ?_, ?_⟩; (have hcw := HC2.out W hW; go_simp; (try simp only [Stu.plainUpon_value, true_and]); rfl); go_simp; refine hK _ ?_; clear hK K)
    | (refine Stu.wpR_spg (by rfl) (by rfl) ?_ ?_ (fun W hW hF => ?_) (fun K v hv hK => ?_); (focus (first | (simp only [Region.wanted]; done) | (go_simp; done))); (focus (exact ⟨_, 0, rfl⟩)); (go_simp; exact lit_rel (hSz.out W hW) _ ⟨_, rfl⟩ ⟨_, rfl, hSz.out W hW, heap_new _ _ _ rfl⟩); (obtain ⟨g2, rfl⟩ := hv); go_simp; refine hK _ ?_; clear hK K)
    | (refine Stu.wpR_spg (by rfl) (by rfl) ?_ ?_ (fun W hW hF => ?_) (fun K v hv hK => ?_); (focus (first | (simp only [Region.wanted]; done) | (go_simp; done))); (focus (exact ⟨_, 0, rfl⟩)); (go_simp; exact lit_rel (hSz.out W hW) _ ⟨_, rfl⟩ ⟨_, rfl, heap_new _ _ _ rfl⟩); (obtain ⟨g10, rfl⟩ := hv); go_simp; refine hK _ ?_; clear hK K)
    | (refine Stu.wpR_spu (by rfl) (by rfl) ?_ ?_ (fun W hW hU hF => ?_) (fun K v hv hK => ?_); (focus (first | (simp only [Region.wanted]; done) | (go_simp; done))); (focus (exact ⟨_, none, _, rfl, Nat.le_refl _⟩)); (obtain ⟨g', e1, e2, e3⟩ := (show (lit0 S0).q [] (.slice (some ⟨g2, 0, none⟩) 0 0) W from hF 2 rfl); cases e1; exact app1_rel rfl rfl rfl e3 e2 (hSz.out W hW) (HSV2.out W hW) hn1 hU); (obtain ⟨A7, c7, rfl, hc7⟩ := hv); go_simp; refine hK _ ?_; clear hK K)
    | (refine Stu.wpR_spu (by rfl) (by rfl) ?_ ?_ (fun W hW hU hF => ?_) (fun K v hv hK => ?_); (focus (first | (simp only [Region.wanted]; done) | (go_simp; done))); (focus (exact ⟨_, none, _, rfl, Nat.le_refl _⟩)); (obtain ⟨g', e1, e3⟩ := (show (lit1 S0 s).q [] (.slice (some ⟨g10, 0, none⟩) 1 1) W from hF 10 rfl); cases e1; exact app2_rel rfl rfl rfl e3 (hSz.out W hW) hn1 hU); (obtain ⟨A11, c11, rfl, hc11⟩ := hv); go_simp; refine hK _ ?_; clear hK K))
  refine Stu.wpR_nil (fun W hW hU hF => ?_)
  have hU2 : App2 S0 W1 (nn + 1) (ls q ++ [s]) (.slice A11 (nn + 1) c11) W := hU
  have hbW : Below W1.heap.size W1 W := by rw [← HS00.out]; exact hU2.2
  have hMW := HMW.out.below hbW
  have hsv : StrV W (.slice A11 (nn + 1) c11) (ls q ++ [s]) := StrV.of_row hU2.1 (by rw [List.length_append, ← HNN.out]; rfl)
  obtain ⟨v3, hCe3, hSV3⟩ := hMW.cells ((hbW.block _ (Array.getElem?_eq_some_iff.1 HXW.out).1).trans HXW.out)
  obtain ⟨_, _, _, _, yr, yf, _⟩ := hCe3.rd
  obtain ⟨_, z2, _⟩ := yr q hq
  obtain ⟨Aq3, cq3, hvq3, _⟩ := hSV3 q hq
  rw [hvq3] at z2
  have fz := yf q
  have HM := Lib.hid (hMW.setw q hq hsv)
  obtain ⟨ls', hls'⟩ : ∃ l, l = upq ls q (ls q ++ [s]) := ⟨_, rfl⟩
  rw [← hls'] at HM
  clear hU hU2 hbW hMW hsv hCe3 hSV3 yr yf hvq3 hls' hF hW HC2 HSV2 hSz HS0 HMW HXW HSt HMX
  have hwk : IntKind.i64.wrap ((k : Int) + 1) = ((k + 1 : Nat) : Int) := by rw [IntKind.wrap_i64]; omega
  go_wp2_with fail
  rename World => wOld
  go_loopw [25] (fun i wr2 => ∃ p : Nat, p ≤ 3 ∧ i = .int .i64 p ∧ Mid w wr2 gq gw gc g ch room ls' cl ls' cl) (fun i _ => 3 - (intOf i).toNat)
  case atStart => exact ⟨0, by omega, rfl, HM.out⟩
  case round =>
    rename World => wL
    obtain ⟨p, hp, rfl, hm⟩ := hrel
    clear HM
    by_cases hlt2 : p < 3
    · have hltI : (p : Int) < 3 := by omega
      have hwp : IntKind.i64.wrap ((p : Int) + 1) = ((p + 1 : Nat) : Int) := by rw [IntKind.wrap_i64]; omega
      obtain ⟨v, h1, h2⟩ := hm.s
      obtain ⟨Ap, cp, hvp, hcp, _, _⟩ := h2 p hlt2
      have r1 := cells3 h1 p hlt2
      have r2 := cells3 (v := fun i => Value.pointer (some ⟨g i, 0, none⟩)) hm.p p hlt2
      have r3 := cells3 (v := fun i => Value.bool (cl i)) hm.c p hlt2
      rw [hvp] at r1
      have hQp := hm.q p hlt2
      have hM := Lib.hid hm
      obtain ⟨nn, hnn⟩ : ∃ nn, nn = (ls' p).length := ⟨_, rfl⟩
      obtain ⟨bb, hbb⟩ : ∃ bb, bb = cl p := ⟨_, rfl⟩
      obtain ⟨gp, hgp⟩ : ∃ gp, gp = g p := ⟨_, rfl⟩
      (try simp only at r2); (try simp only at r3)
      rw [← hnn] at r1; rw [← hbb] at r3; rw [← hgp] at r2
      rw [← hbb, ← hgp] at hQp
      have HQp := Lib.hid hQp
      have HNN : Hid (nn = (bys (ls' p)).length) := Lib.hid (by rw [hnn]; simp [bys])
      have HC : Hid (∀ W, Gr wL.heap.size wL.drew W → W.cell? ⟨gw, p, none⟩ = some (.slice Ap nn cp) ∧ W.cell? ⟨gq, p, none⟩ = some (.pointer (some ⟨gp, 0, none⟩)) ∧ W.cell? ⟨gc, p, none⟩ = some (.bool bb)) := Lib.hid fun W hW => by
        have h := Below.trans (Below.drew (Below.refl wL.heap.size wL)) hW.1
        exact ⟨cell_below h r1, cell_below h r2, cell_below h r3⟩
      clear hm h1 h2 r1 r2 r3 hQp hvp hnn hbb hgp
      go_wp2_with fail
      refine wp_region_tbl _ (chkTbl nn bb) (wL.heap.size) (by kernel_rfl) (by kernel_rfl) (by kernel_rfl) ?_
      repeat (first
        | (refine wpR_plain ?_ (by rfl) (fun K hK => ?_); (focus (first | (simp only [Region.wanted]; done) | (go_simp; done))); apply Exists.intro; refine ⟨fun W hW => ?_, ?_⟩; (go_simp; (try simp only [plainUpon_value, true_and]); rfl); go_simp; refine hK _ ?_; clear hK K)
        | (refine wpR_plain ?_ (by rfl) (fun K hK => ?_); (focus (first | (simp only [Region.wanted]; done) | (go_simp; done))); apply Exists.intro; refine ⟨fun W hW => ?_, ?_⟩; (have hcw := HC.out W hW; go_simp; (try simp only [plainUpon_value, true_and]); rfl); go_simp; refine hK _ ?_; clear hK K)
        | (refine wpR_val (by rfl) ?_ (fun W hW hF => ?_) (fun K hK => ?_); (focus (first | (simp only [Region.wanted]; done) | (go_simp; done))); (go_simp; simp only [relUpon_enter]; exact len_rel W gp _ _ _ _ (HQp.out.below (Below.trans (Below.drew (Below.refl wL.heap.size wL)) hW.1)) nn HNN.out); go_simp; refine hK _ ?_; clear hK K)
        | (refine wpR_val (by rfl) ?_ (fun W hW hF => ?_) (fun K hK => ?_); (focus (first | (simp only [Region.wanted]; done) | (go_simp; done))); (go_simp; simp only [relUpon_enter]; exact closed_rel W gp _ _ _ bb (HQp.out.below (Below.trans (Below.drew (Below.refl wL.heap.size wL)) hW.1))); go_simp; refine hK _ ?_; clear hK K))
      refine wpR_nil (fun W hW hF => ?_)
      have HM := Lib.hid (hM.out.below (Below.trans (Below.drew (Below.refl wL.heap.size wL)) hW.1))
      clear hF hW HC hM HQp
      go_wp2
      go_roundw
      case rel => exact ⟨p + 1, by omega, by go_num, HM.out⟩
      case measure => simp [intOf]; omega
    · have hltI : ¬ (p : Int) < 3 := by omega
      have HM := Lib.hid hm
      clear hm
      go_wp2
      refine ⟨⟨rfl, rfl, k + 1, ls', cl, ?_, by omega, HM.out.stt⟩, ?_⟩
      · unfold qpN
        simp only [List.forall_mem_cons, List.not_mem_nil, false_implies, implies_true, and_true]
        exact ⟨rfl, rfl, rfl, rfl, rfl, rfl, rfl, rfl, by first | rfl | (show Value.int _ _ = Value.int _ _; congr 1; omega)⟩
      · simp [qpMu, intOf]; omega
end Go.Proofs.Ythecekkophbceaa
