/- QueuePlays: the round of a Take of a queue that has something. -/
import Derived.Test.YthecekkophbceaaQApp
namespace Go.Proofs.Ythecekkophbceaa
open Go.RowKit Go.Conc
set_option linter.unusedVariables false
set_option linter.unusedSimpArgs false
attribute [local irreducible] wpR relOp Stu.wpR Stu.relOp
theorem str_back (s : ByteArray) : (⟨s.data.toList.toArray⟩ : ByteArray) = s := by cases s; simp
set_option maxRecDepth 1000000 in
set_option maxHeartbeats 2000000 in
theorem qp_case1h (w wr : World) (A : Addr) (c n room gq gw gc k : Nat) (g ch : Nat → Nat) (f : Nat → Value) (ls : Nat → List ByteArray) (cl : Nat → Bool) (q tq : Nat) (s : ByteArray)
    (hst : Stt w wr gq gw gc g ch room ls cl) (hD : Dst w.heap.size g ch) (wb : w.heap.size ≤ gw) (cb : w.heap.size ≤ gc) (hk : k < n) (hn80 : n ≤ 80) (hc : n ≤ c) (hr64 : room ≤ 64) (hq : q < 3) (ht : tq < 3) (hs : s.size ≤ 100)
    (c0 : wr.cell? (A.add (k * 4)) = some (.int .i64 1)) (c1 : wr.cell? ⟨(A.add (k * 4)).block, (A.add (k * 4)).off + 1, none⟩ = some (.int .i64 q)) (c2 : wr.cell? ⟨(A.add (k * 4)).block, (A.add (k * 4)).off + 2, none⟩ = some (.int .i64 tq)) (c3 : wr.cell? ⟨(A.add (k * 4)).block, (A.add (k * 4)).off + 3, none⟩ = some (.string s))
    (Q0 : Exit → Act → World → Prop)
    (s1 : ByteArray) (rest : List ByteArray) (hm : ls q = s1 :: rest) :
    Code.wp Try.prog qpBody (Exit.then (fun a' w' => QI w A c n room gq gw gc g ch a' w' ∧ qpMu n a' w' < qpMu n ⟨#[.int .i64 room, .slice (some A) n c, f 2, f 3, f 4, .pointer (some ⟨g 0, 0, none⟩), f 6, .pointer (some ⟨g 1, 0, none⟩), f 8, .pointer (some ⟨g 2, 0, none⟩), f 10, .slice (some ⟨gq, 0, none⟩) 3 3, .pointer (some ⟨gw, 0, none⟩), .pointer (some ⟨gc, 0, none⟩), .int .i64 k, f 15, f 16, f 17, f 18, f 19, f 20, f 21, f 22, f 23, f 24, f 25, f 26, f 27, f 28, f 29, f 30, f 31, f 32, f 33, f 34, f 35, f 36, f 37, f 38, f 39, f 40, f 41, f 42, f 43, f 44, f 45, f 46, f 47, f 48, f 49, f 50, f 51, f 52, f 53, f 54, f 55, f 56, f 57, f 58, f 59, f 60, f 61, f 62, f 63, f 64, f 65, f 66, f 67, f 68, f 69, f 70, f 71, f 72, f 73, f 74, f 75, f 76, f 77, f 78, f 79, f 80, f 81, f 82, f 83, f 84, f 85, f 86, f 87, f 88, f 89, f 90, f 91, f 92, f 93, f 94, f 95, f 96, f 97, f 98, f 99, f 100, f 101, f 102, f 103, f 104, f 105, f 106, f 107, f 108, f 109, f 110, f 111, f 112, f 113, f 114, f 115, f 116, f 117, f 118, f 119, f 120, f 121, f 122, f 123, f 124, f 125, f 126, f 127, f 128, f 129, f 130, f 131, f 132, f 133, f 134, f 135, f 136, f 137, f 138, f 139, f 140, f 141, f 142, f 143, f 144, f 145, f 146, f 147, f 148, f 149, f 150, f 151, f 152, f 153, f 154, f 155, f 156, f 157, f 158, f 159, f 160, f 161, f 162, f 163, f 164, f 165, f 166, f 167, f 168, f 169, f 170, f 171, f 172, f 173, f 174, f 175, f 176, f 177, f 178, f 179, f 180, f 181, f 182, f 183, f 184, f 185, f 186, f 187, f 188, f 189, f 190, f 191, f 192, f 193, f 194, f 195, f 196, f 197, f 198, f 199, f 200, f 201, f 202, f 203, f 204, f 205, f 206, f 207, f 208, f 209, f 210, f 211, f 212, f 213, f 214, f 215, f 216, f 217, f 218, f 219, f 220, f 221, f 222, f 223, f 224, f 225, f 226, f 227, f 228, f 229, f 230, f 231, f 232, f 233, f 234, f 235, f 236, f 237, f 238, f 239, f 240, f 241, f 242, f 243, f 244, f 245, f 246, f 247, f 248, f 249, f 250, f 251, f 252, f 253, f 254, f 255, f 256, f 257, f 258, f 259, f 260, f 261, f 262, f 263, f 264, f 265, f 266, f 267, f 268, f 269, f 270, f 271, f 272, f 273, f 274, f 275, f 276, f 277, f 278, f 279, f 280, f 281, f 282, f 283, f 284, f 285, f 286, f 287, f 288, f 289, f 290, f 291, f 292, f 293, f 294, f 295, f 296, f 297, f 298, f 299, f 300, f 301, f 302, f 303, f 304, f 305, f 306, f 307, f 308, f 309, f 310, f 311, f 312, f 313, f 314, f 315, f 316, f 317, f 318, f 319, f 320, f 321, f 322, f 323, f 324, f 325, f 326, f 327, f 328, f 329, f 330, f 331, f 332, f 333, f 334, f 335, f 336, f 337, f 338, f 339, f 340, f 341, f 342, f 343, f 344, f 345, f 346, f 347, f 348, f 349, f 350, f 351, f 352, f 353, f 354, f 355, f 356, f 357, f 358, f 359, f 360, f 361, f 362, f 363, f 364, f 365, f 366, f 367, f 368, f 369, f 370, f 371, f 372, f 373, f 374, f 375, f 376, f 377, f 378, f 379, f 380, f 381, f 382, f 383, f 384, f 385], []⟩ wr) Q0) ⟨#[.int .i64 room, .slice (some A) n c, f 2, f 3, f 4, .pointer (some ⟨g 0, 0, none⟩), f 6, .pointer (some ⟨g 1, 0, none⟩), f 8, .pointer (some ⟨g 2, 0, none⟩), f 10, .slice (some ⟨gq, 0, none⟩) 3 3, .pointer (some ⟨gw, 0, none⟩), .pointer (some ⟨gc, 0, none⟩), .int .i64 k, f 15, f 16, f 17, f 18, f 19, f 20, f 21, f 22, f 23, f 24, f 25, f 26, f 27, f 28, f 29, f 30, f 31, f 32, f 33, f 34, f 35, f 36, f 37, f 38, f 39, f 40, f 41, f 42, f 43, f 44, f 45, f 46, f 47, f 48, f 49, f 50, f 51, f 52, f 53, f 54, f 55, f 56, f 57, f 58, f 59, f 60, f 61, f 62, f 63, f 64, f 65, f 66, f 67, f 68, f 69, f 70, f 71, f 72, f 73, f 74, f 75, f 76, f 77, f 78, f 79, f 80, f 81, f 82, f 83, f 84, f 85, f 86, f 87, f 88, f 89, f 90, f 91, f 92, f 93, f 94, f 95, f 96, f 97, f 98, f 99, f 100, f 101, f 102, f 103, f 104, f 105, f 106, f 107, f 108, f 109, f 110, f 111, f 112, f 113, f 114, f 115, f 116, f 117, f 118, f 119, f 120, f 121, f 122, f 123, f 124, f 125, f 126, f 127, f 128, f 129, f 130, f 131, f 132, f 133, f 134, f 135, f 136, f 137, f 138, f 139, f 140, f 141, f 142, f 143, f 144, f 145, f 146, f 147, f 148, f 149, f 150, f 151, f 152, f 153, f 154, f 155, f 156, f 157, f 158, f 159, f 160, f 161, f 162, f 163, f 164, f 165, f 166, f 167, f 168, f 169, f 170, f 171, f 172, f 173, f 174, f 175, f 176, f 177, f 178, f 179, f 180, f 181, f 182, f 183, f 184, f 185, f 186, f 187, f 188, f 189, f 190, f 191, f 192, f 193, f 194, f 195, f 196, f 197, f 198, f 199, f 200, f 201, f 202, f 203, f 204, f 205, f 206, f 207, f 208, f 209, f 210, f 211, f 212, f 213, f 214, f 215, f 216, f 217, f 218, f 219, f 220, f 221, f 222, f 223, f 224, f 225, f 226, f 227, f 228, f 229, f 230, f 231, f 232, f 233, f 234, f 235, f 236, f 237, f 238, f 239, f 240, f 241, f 242, f 243, f 244, f 245, f 246, f 247, f 248, f 249, f 250, f 251, f 252, f 253, f 254, f 255, f 256, f 257, f 258, f 259, f 260, f 261, f 262, f 263, f 264, f 265, f 266, f 267, f 268, f 269, f 270, f 271, f 272, f 273, f 274, f 275, f 276, f 277, f 278, f 279, f 280, f 281, f 282, f 283, f 284, f 285, f 286, f 287, f 288, f 289, f 290, f 291, f 292, f 293, f 294, f 295, f 296, f 297, f 298, f 299, f 300, f 301, f 302, f 303, f 304, f 305, f 306, f 307, f 308, f 309, f 310, f 311, f 312, f 313, f 314, f 315, f 316, f 317, f 318, f 319, f 320, f 321, f 322, f 323, f 324, f 325, f 326, f 327, f 328, f 329, f 330, f 331, f 332, f 333, f 334, f 335, f 336, f 337, f 338, f 339, f 340, f 341, f 342, f 343, f 344, f 345, f 346, f 347, f 348, f 349, f 350, f 351, f 352, f 353, f 354, f 355, f 356, f 357, f 358, f 359, f 360, f 361, f 362, f 363, f 364, f 365, f 366, f 367, f 368, f 369, f 370, f 371, f 372, f 373, f 374, f 375, f 376, f 377, f 378, f 379, f 380, f 381, f 382, f 383, f 384, f 385], []⟩ wr := by
  conv => arg 2; whnf
  have hq1 : (q : Int) < 3 := by omega
  have hq2 : ¬ (2 : Int) < q := by omega
  have ht1 : (tq : Int) < 3 := by omega
  have ht2 : ¬ (2 : Int) < tq := by omega
  have hs2 : ¬ (100 : Int) < s.size := by omega
  have HSt := Lib.hid hst
  clear hst
  have hbX := (Below.refl _ wr).alloc (Nat.le_refl _) (.cells #[.int .i64 1, .int .i64 q, .int .i64 tq, .string s] 45)
  have hmX := (HSt.out.mid wb cb).below hbX
  have hxX := heap_new wr (.cells #[.int .i64 1, .int .i64 q, .int .i64 tq, .string s] 45) wr.heap.size rfl
  obtain ⟨v, hCe, hSV⟩ := hmX.cells hxX
  obtain ⟨x0, x1, x2, x3, hrd, _, _⟩ := hCe.rd
  obtain ⟨r1, r2, r3⟩ := hrd q hq
  obtain ⟨gp, hgp⟩ : ∃ gp, gp = g q := ⟨_, rfl⟩
  rw [← hgp] at r1
  have hcon := hmX.q q hq
  rw [hm, ← hgp] at hcon
  have hcon := Lib.hid (take_any _ gp (ch q) room s1.data.toList (bys rest) (cl q) hcon)
  have HMX := Lib.hid hmX; have HGP := Lib.hid hgp; have HXX := Lib.hid hxX; have HMM := Lib.hid hm
  clear hmX hbX hxX hCe hrd hSV hgp x0 x2 x3 r3 r2 hm
  go_wp2_with fail
  refine hcon.out.mono ?_
  rintro e w4 ⟨vt, rfl, hs4, hq4, hc4⟩
  rw [HGP.out] at hq4
  have hone := HMX.out.q.one hD q hq hc4 (fun k hk => .inr hk) hq4
  rw [show upq cl q (cl q) = cl by funext i; unfold upq; split <;> simp_all] at hone
  have hm4 : Mid w w4 gq gw gc g ch room (upq ls q rest) cl ls cl := HMX.out.turn hD hc4 (fun k hk => ⟨q, hq, .inr hk⟩) hone (fun i hi => by
    unfold upq; split
    · rename_i e
      subst e
      have := HMX.out.l i hi
      rw [HMM.out] at this
      exact ⟨by have := this.1; simp at this; omega, fun x hx => this.2 x (List.mem_cons_of_mem _ hx)⟩
    · exact HMX.out.l i hi)
  have hx4 : w4.heap[wr.heap.size]? = some (.cells #[.int .i64 1, .int .i64 q, .int .i64 tq, .string s] 45) := hc4.heap HXX.out (fun e => ((HMX.out.q q hq).obj.2 _ _ _ (by rw [← e]; exact HXX.out)))
  obtain ⟨v4, hCe4, hSV4⟩ := hm4.cells hx4
  obtain ⟨_, y1, _, _, yr, yf, _⟩ := hCe4.rd
  obtain ⟨_, z2, _⟩ := yr q hq
  have hSVq := hSV4 q hq
  rw [HMM.out] at hSVq
  have hST := hSVq
  obtain ⟨Aq, cq, hvq, hcq, _, hrds⟩ := hSVq
  rw [hvq] at z2 hST
  obtain ⟨a4, e4, hcell⟩ := hrds (by simp)
  subst e4
  have y4 := hcell 0 (by simp)
  simp only [List.getElem_cons_zero] at y4
  obtain ⟨nn, hnn⟩ : ∃ nn, nn = (s1 :: rest).length := ⟨_, rfl⟩
  rw [← hnn] at z2 hST hcq
  have hn1 : 1 ≤ nn := by rw [hnn]; simp
  have hn1i : (1 : Int) ≤ nn := by omega
  have hn0 : (0 : Int) < nn := by omega
  have hn0n : 0 < nn := hn1
  have hnc : (nn : Int) ≤ cq := by omega
  obtain ⟨At, ct, rfl, hct, hrt⟩ := hs4.rd
  have hcv : ∀ W, Below w4.heap.size w4 W → (convert 28 9 (.slice At s1.data.toList.length ct)).run Try.prog W = .ok (.string s1) W := fun W hb => by
    have := (hrt.below hb).str _ ct rfl
    rw [str_back] at this
    exact this
  obtain ⟨nt, hnt⟩ : ∃ nt, nt = s1.data.toList.length := ⟨_, rfl⟩
  rw [← hnt] at hcv ⊢
  have HC : Hid (∀ W, Gr w4.heap.size w4.drew W → W.cell? ⟨wr.heap.size, 1, none⟩ = some (.int .i64 q) ∧ W.cell? ⟨gw, q, none⟩ = some (.slice (some a4) nn cq) ∧ W.cell? a4 = some (.string s1) ∧ (convert 28 9 (.slice At nt ct)).run Try.prog W = .ok (.string s1) W) := Lib.hid fun W hW => by
    have h := Below.trans (Below.drew (Below.refl _ _)) hW.1
    exact ⟨cell_below h y1, cell_below h z2, cell_below h y4, hcv W h⟩
  have HM4 := Lib.hid hm4; have HST := Lib.hid hST; have HX4 := Lib.hid hx4; have HNN := Lib.hid hnn
  clear hs4 hq4 hc4 hone hm4 hx4 hCe4 hSV4 yr yf hST hvq hcell hcv hrt hnt hrds hnn y1 z2 y4 hcon r1 x1
  go_wp2_with fail
  refine wp_region_tbl _ (fun _ => none) (w4.heap.size) (by kernel_rfl) (by kernel_rfl) (by kernel_rfl) ?_
  repeat (first
    | (refine wpR_plain ?_ (by rfl) (fun K hK => ?_); (focus (first | (simp only [Region.wanted]; done) | (go_simp; done))); apply Exists.intro; refine ⟨fun W hW => ?_, ?_⟩; (go_simp; (try simp only [plainUpon_value, true_and]); rfl); go_simp; refine hK _ ?_; clear hK K)
    | (refine wpR_plain ?_ (by rfl) (fun K hK => ?_); (focus (first | (simp only [Region.wanted]; done) | (go_simp; done))); apply Exists.intro; refine ⟨fun W hW => ?_, ?_⟩; (have hcw := HC.out W hW; go_simp; (try simp only [plainUpon_value, true_and]); rfl); go_simp; refine hK _ ?_; clear hK K)
    | (refine wpR_skip ?_ (fun K hK => ?_); (focus (first | (simp only [Region.wanted]; done) | (go_simp; done))); go_simp; refine hK _ ?_; clear hK K))
  refine wpR_nil (fun W1 hW hF => ?_)
  have hbW := Below.trans (Below.drew (Below.refl _ _)) hW.1
  have HM5 := Lib.hid (HM4.out.below hbW); have HST5 := Lib.hid (HST.out.chg (Chg.of_below (S := fun _ => False) hbW) (fun _ h => h.elim))
  have HX5 : Hid (W1.heap[wr.heap.size]? = some (.cells #[.int .i64 1, .int .i64 q, .int .i64 tq, .string s] 45)) := Lib.hid ((hbW.block _ (Array.getElem?_eq_some_iff.1 HX4.out).1).trans HX4.out)
  obtain ⟨t1, t2, _, _⟩ := HC.out W1 hW
  have HC5 : Hid (∀ W, Gr W1.heap.size W1.drew W → W.cell? ⟨wr.heap.size, 1, none⟩ = some (.int .i64 q) ∧ W.cell? ⟨gw, q, none⟩ = some (.slice (some a4) nn cq)) := Lib.hid fun W hW => by
    have h := Below.trans (Below.drew (Below.refl _ _)) hW.1
    exact ⟨cell_below h t1, cell_below h t2⟩
  clear hF hW hbW HC HM4 HST HMX
  obtain ⟨A5, hA5⟩ : ∃ A5, (if cq = 1 then some a4 else some (⟨a4.block, a4.off + 1, none⟩ : Addr)) = A5 := ⟨_, rfl⟩
  go_wp2_with fail
  (refine wp_region_tbl_tail _ 7 (fun _ => none) W1.heap.size (by kernel_rfl) (by kernel_rfl) (by kernel_rfl) ?_; simp only [List.take_succ_cons, List.take_zero, List.drop_succ_cons, List.drop_zero])
  repeat (first
    | (refine wpR_plain ?_ (by rfl) (fun K hK => ?_); (focus (first | (simp only [Region.wanted]; done) | (go_simp; done))); apply Exists.intro; refine ⟨fun W hW => ?_, ?_⟩; (go_simp; (try simp only [plainUpon_value, true_and]); rfl); go_simp; refine hK _ ?_; clear hK K)
    | (refine wpR_plain ?_ (by rfl) (fun K hK => ?_); (focus (first | (simp only [Region.wanted]; done) | (go_simp; done))); apply Exists.intro; refine ⟨fun W hW => ?_, ?_⟩; (have hcw := HC5.out W hW; go_simp; (try simp only [plainUpon_value, true_and]); rfl); go_simp; refine hK _ ?_; clear hK K))
  refine wpR_nil (fun W hW hF => ?_)
  have hbW := Below.trans (Below.drew (Below.refl _ _)) hW.1
  have hMW := HM5.out.below hbW
  have hST6 := (HST5.out.chg (Chg.of_below (S := fun _ => False) hbW) (fun _ h => h.elim)).tail
  have hST7 : StrV W (.slice A5 (nn - 1) (cq - 1)) rest := by
    rw [← hA5]
    exact hST6
  obtain ⟨v6, hCe6, hSV6⟩ := hMW.cells ((Below.trans (Below.drew (Below.refl _ _)) hW.1).block _ (Array.getElem?_eq_some_iff.1 HX5.out).1 |>.trans HX5.out)
  obtain ⟨_, _, _, _, yr, yf, _⟩ := hCe6.rd
  obtain ⟨_, z2, _⟩ := yr q hq
  obtain ⟨Aq6, cq6, hvq6, _⟩ := hSV6 q hq
  rw [hvq6] at z2
  have fz := yf q
  have HM := Lib.hid (hMW.setw q hq hST7)
  obtain ⟨ls', hls'⟩ : ∃ l, l = upq ls q rest := ⟨_, rfl⟩
  rw [← hls'] at HM
  clear hbW hMW hST6 hST7 hCe6 hSV6 yr yf hvq6 hls' hF hW HC5 HM5 HST5 HX5 HSt hA5
  have hwk : IntKind.i64.wrap ((k : Int) + 1) = ((k + 1 : Nat) : Int) := by rw [IntKind.wrap_i64]; omega
  go_wp2_with fail
  rename World => wOld
  go_loopw [25] (fun i wr2 => ∃ p : Nat, p ≤ 3 ∧ i = .int .i64 p ∧ Mid w wr2 gq gw gc g ch room ls' cl ls' cl) (fun i _ => 3 - (intOf i).toNat)
  case atStart => exact ⟨0, by omega, rfl, HM.out⟩
  case round =>
    rename World => wL
    obtain ⟨p, hp, rfl, hm⟩ := hrel
    clear HM
    by_cases hlt2 : p < 3
    · have hltI : (p : Int) < 3 := by omega
      have hwp : IntKind.i64.wrap ((p : Int) + 1) = ((p + 1 : Nat) : Int) := by rw [IntKind.wrap_i64]; omega
      obtain ⟨v, h1, h2⟩ := hm.s
      obtain ⟨Ap, cp, hvp, hcp, _, _⟩ := h2 p hlt2
      have r1 := cells3 h1 p hlt2
      have r2 := cells3 (v := fun i => Value.pointer (some ⟨g i, 0, none⟩)) hm.p p hlt2
      have r3 := cells3 (v := fun i => Value.bool (cl i)) hm.c p hlt2
      rw [hvp] at r1
      have hQp := hm.q p hlt2
      have hM := Lib.hid hm
      obtain ⟨nn, hnn⟩ : ∃ nn, nn = (ls' p).length := ⟨_, rfl⟩
      obtain ⟨bb, hbb⟩ : ∃ bb, bb = cl p := ⟨_, rfl⟩
      obtain ⟨gp, hgp⟩ : ∃ gp, gp = g p := ⟨_, rfl⟩
      (try simp only at r2); (try simp only at r3)
      rw [← hnn] at r1; rw [← hbb] at r3; rw [← hgp] at r2
      rw [← hbb, ← hgp] at hQp
      have HQp := Lib.hid hQp
      have HNN : Hid (nn = (bys (ls' p)).length) := Lib.hid (by rw [hnn]; simp [bys])
      have HC : Hid (∀ W, Gr wL.heap.size wL.drew W → W.cell? ⟨gw, p, none⟩ = some (.slice Ap nn cp) ∧ W.cell? ⟨gq, p, none⟩ = some (.pointer (some ⟨gp, 0, none⟩)) ∧ W.cell? ⟨gc, p, none⟩ = some (.bool bb)) := Lib.hid fun W hW => by
        have h := Below.trans (Below.drew (Below.refl wL.heap.size wL)) hW.1
        exact ⟨cell_below h r1, cell_below h r2, cell_below h r3⟩
      clear hm h1 h2 r1 r2 r3 hQp hvp hnn hbb hgp
      go_wp2_with fail
      refine wp_region_tbl _ (chkTbl nn bb) (wL.heap.size) (by kernel_rfl) (by kernel_rfl) (by kernel_rfl) ?_
      repeat (first
        | (refine wpR_plain ?_ (by rfl) (fun K hK => ?_); (focus (first | (simp only [Region.wanted]; done) | (go_simp; done))); apply Exists.intro; refine ⟨fun W hW => ?_, ?_⟩; (go_simp; (try simp only [plainUpon_value, true_and]); rfl); go_simp; refine hK _ ?_; clear hK K)
        | (refine wpR_plain ?_ (by rfl) (fun K hK => ?_); (focus (first | (simp only [Region.wanted]; done) | (go_simp; done))); apply Exists.intro; refine ⟨fun W hW => ?_, ?_⟩; (have hcw := HC.out W hW; go_simp; (try simp only [plainUpon_value, true_and]); rfl); go_simp; refine hK _ ?_; clear hK K)
        | (refine wpR_val (by rfl) ?_ (fun W hW hF => ?_) (fun K hK => ?_); (focus (first | (simp only [Region.wanted]; done) | (go_simp; done))); (go_simp; simp only [relUpon_enter]; exact len_rel W gp _ _ _ _ (HQp.out.below (Below.trans (Below.drew (Below.refl wL.heap.size wL)) hW.1)) nn HNN.out); go_simp; refine hK _ ?_; clear hK K)
        | (refine wpR_val (by rfl) ?_ (fun W hW hF => ?_) (fun K hK => ?_); (focus (first | (simp only [Region.wanted]; done) | (go_simp; done))); (go_simp; simp only [relUpon_enter]; exact closed_rel W gp _ _ _ bb (HQp.out.below (Below.trans (Below.drew (Below.refl wL.heap.size wL)) hW.1))); go_simp; refine hK _ ?_; clear hK K))
      refine wpR_nil (fun W hW hF => ?_)
      have HM := Lib.hid (hM.out.below (Below.trans (Below.drew (Below.refl wL.heap.size wL)) hW.1))
      clear hF hW HC hM HQp
      go_wp2
      go_roundw
      case rel => exact ⟨p + 1, by omega, by go_num, HM.out⟩
      case measure => simp [intOf]; omega
    · have hltI : ¬ (p : Int) < 3 := by omega
      have HM := Lib.hid hm
      clear hm
      go_wp2
      refine ⟨⟨rfl, rfl, k + 1, ls', cl, ?_, by omega, HM.out.stt⟩, ?_⟩
      · unfold qpN
        simp only [List.forall_mem_cons, List.not_mem_nil, false_implies, implies_true, and_true]
        exact ⟨rfl, rfl, rfl, rfl, rfl, rfl, rfl, rfl, by first | rfl | (show Value.int _ _ = Value.int _ _; congr 1; omega)⟩
      · simp [qpMu, intOf]; omega
end Go.Proofs.Ythecekkophbceaa
