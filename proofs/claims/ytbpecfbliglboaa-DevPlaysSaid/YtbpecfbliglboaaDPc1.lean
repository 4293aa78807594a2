/- DevPlays: the round of a Read. -/
import Derived.Test.YtbpecfbliglboaaDPb
namespace Go.Proofs.Ytbpecfbliglboaa
open Go.RowKit Go.Maps
set_option linter.unusedVariables false
set_option linter.unusedSimpArgs false
attribute [local irreducible] wpR relOp
set_option maxRecDepth 1000000 in
set_option maxHeartbeats 2000000 in
theorem dp_case1 (w wr : World) (A : Addr) (n m c B g r k ck : Nat) (vs : Value) (f : Nat → Value) (d : DevMath.Dev) (at_ torn : Int) (cc : UInt8) (Ak : Option Addr) (keep : List Int)
    (hst : P2 w wr B g r vs (2 * k) d d) (hn : d.sectors = n) (hk : k < m) (hm : m ≤ 60) (hc : m ≤ c) (hB : w.heap.size ≤ B) (hkv : IntR w (.slice Ak keep.length ck) keep) (hkl : keep.length ≤ 60) (wfa : (Lit.int .i64 at_).wf = true) (wft : (Lit.int .i64 torn).wf = true)
    (c0 : wr.cell? (A.add (k * 5)) = some (.int .i64 1)) (c1 : wr.cell? ⟨(A.add (k * 5)).block, (A.add (k * 5)).off + 1, none⟩ = some (.int .i64 at_)) (c2 : wr.cell? ⟨(A.add (k * 5)).block, (A.add (k * 5)).off + 2, none⟩ = some (.int .i64 torn)) (c3 : wr.cell? ⟨(A.add (k * 5)).block, (A.add (k * 5)).off + 3, none⟩ = some (.int .u8 (cc.toNat : Int))) (c4 : wr.cell? ⟨(A.add (k * 5)).block, (A.add (k * 5)).off + 4, none⟩ = some (.slice Ak keep.length ck))
    (Q0 : Exit → Act → World → Prop) :
    Code.wp Try.prog dpBody (Exit.then (fun a' w' => DI w A n m c B g r vs a' w' ∧ dpMu m a' w' < dpMu m ⟨#[.int .i64 n, .slice (some A) m c, f 2, f 3, f 4, .pointer (some ⟨g, 0, none⟩), f 6, .pointer (some ⟨r, 0, none⟩), .int .i64 k, f 9, f 10, f 11, f 12, f 13, f 14, f 15, f 16, f 17, f 18, f 19, f 20, f 21, f 22, f 23, f 24, f 25, f 26, f 27, f 28, f 29, f 30, f 31, f 32, f 33, f 34, f 35, f 36, f 37, f 38, f 39, f 40, f 41, f 42, f 43, f 44, f 45, f 46, f 47, f 48, f 49, f 50, f 51, f 52, f 53, f 54, f 55, f 56, f 57, f 58, f 59, f 60, f 61, f 62, f 63, f 64, f 65, f 66, f 67, f 68, f 69, f 70, f 71, f 72, f 73, f 74, f 75, f 76, f 77, f 78, f 79, f 80, f 81, f 82, f 83, f 84, f 85, f 86, f 87, f 88, f 89, f 90, f 91, f 92, f 93, f 94, f 95, f 96, f 97, f 98, f 99, f 100, f 101, f 102, f 103, f 104, f 105, f 106, f 107, f 108, f 109, f 110, f 111, f 112, f 113, f 114, f 115, f 116, f 117, f 118, f 119, f 120, f 121, f 122, f 123, f 124, f 125, f 126, f 127, f 128, f 129, f 130, f 131, f 132, f 133, f 134, f 135, f 136, f 137, f 138, f 139, f 140, f 141, f 142, f 143, f 144, f 145, f 146, f 147, f 148, f 149, f 150, f 151, f 152, f 153, f 154, f 155, f 156, f 157, f 158, f 159, f 160, f 161, f 162, f 163, f 164, f 165, f 166, f 167, f 168, f 169, f 170, f 171, f 172, f 173, f 174, f 175, f 176, f 177, f 178, f 179, f 180, f 181, f 182, f 183, f 184, f 185, f 186, f 187, f 188, f 189, f 190, f 191, f 192, f 193, f 194, f 195, f 196, f 197, f 198, f 199, f 200, f 201, f 202, f 203, f 204, f 205, f 206, f 207, f 208, f 209, f 210, f 211, f 212, f 213, f 214, f 215, f 216, f 217, f 218, f 219, f 220, f 221, f 222, f 223, f 224, f 225, f 226, f 227, f 228, f 229, f 230, f 231, f 232, f 233, f 234, f 235, f 236, f 237, f 238, f 239], []⟩ wr) Q0) ⟨#[.int .i64 n, .slice (some A) m c, f 2, f 3, f 4, .pointer (some ⟨g, 0, none⟩), f 6, .pointer (some ⟨r, 0, none⟩), .int .i64 k, f 9, f 10, f 11, f 12, f 13, f 14, f 15, f 16, f 17, f 18, f 19, f 20, f 21, f 22, f 23, f 24, f 25, f 26, f 27, f 28, f 29, f 30, f 31, f 32, f 33, f 34, f 35, f 36, f 37, f 38, f 39, f 40, f 41, f 42, f 43, f 44, f 45, f 46, f 47, f 48, f 49, f 50, f 51, f 52, f 53, f 54, f 55, f 56, f 57, f 58, f 59, f 60, f 61, f 62, f 63, f 64, f 65, f 66, f 67, f 68, f 69, f 70, f 71, f 72, f 73, f 74, f 75, f 76, f 77, f 78, f 79, f 80, f 81, f 82, f 83, f 84, f 85, f 86, f 87, f 88, f 89, f 90, f 91, f 92, f 93, f 94, f 95, f 96, f 97, f 98, f 99, f 100, f 101, f 102, f 103, f 104, f 105, f 106, f 107, f 108, f 109, f 110, f 111, f 112, f 113, f 114, f 115, f 116, f 117, f 118, f 119, f 120, f 121, f 122, f 123, f 124, f 125, f 126, f 127, f 128, f 129, f 130, f 131, f 132, f 133, f 134, f 135, f 136, f 137, f 138, f 139, f 140, f 141, f 142, f 143, f 144, f 145, f 146, f 147, f 148, f 149, f 150, f 151, f 152, f 153, f 154, f 155, f 156, f 157, f 158, f 159, f 160, f 161, f 162, f 163, f 164, f 165, f 166, f 167, f 168, f 169, f 170, f 171, f 172, f 173, f 174, f 175, f 176, f 177, f 178, f 179, f 180, f 181, f 182, f 183, f 184, f 185, f 186, f 187, f 188, f 189, f 190, f 191, f 192, f 193, f 194, f 195, f 196, f 197, f 198, f 199, f 200, f 201, f 202, f 203, f 204, f 205, f 206, f 207, f 208, f 209, f 210, f 211, f 212, f 213, f 214, f 215, f 216, f 217, f 218, f 219, f 220, f 221, f 222, f 223, f 224, f 225, f 226, f 227, f 228, f 229, f 230, f 231, f 232, f 233, f 234, f 235, f 236, f 237, f 238, f 239], []⟩ wr := by
  conv => arg 2; whnf
  obtain ⟨kl, hkl0⟩ : ∃ kl, kl = keep.length := ⟨_, rfl⟩
  rw [← hkl0] at c4
  obtain ⟨WX, hWX⟩ : ∃ WX, WX = wr.alloc (.cells #[.int .i64 1, .int .i64 at_, .int .i64 torn, .int .u8 (cc.toNat : Int), .slice Ak kl ck] 32) := ⟨_, rfl⟩
  have hbX : Below wr.heap.size wr WX := by rw [hWX]; exact (Below.refl _ wr).alloc (Nat.le_refl _) _
  have hx := heap_new wr (.cells #[.int .i64 1, .int .i64 at_, .int .i64 torn, .int .u8 (cc.toNat : Int), .slice Ak kl ck] 32) wr.heap.size rfl
  have x0 : (wr.alloc (.cells #[.int .i64 1, .int .i64 at_, .int .i64 torn, .int .u8 (cc.toNat : Int), .slice Ak kl ck] 32)).cell? ⟨wr.heap.size, 0, none⟩ = some (.int .i64 1) := by rw [cell_of_row _ wr.heap.size 0 _ _ _ hx]; rfl
  have x1 : (wr.alloc (.cells #[.int .i64 1, .int .i64 at_, .int .i64 torn, .int .u8 (cc.toNat : Int), .slice Ak kl ck] 32)).cell? ⟨wr.heap.size, 1, none⟩ = some (.int .i64 at_) := by rw [cell_of_row _ wr.heap.size 1 _ _ _ hx]; rfl
  have x2 : (wr.alloc (.cells #[.int .i64 1, .int .i64 at_, .int .i64 torn, .int .u8 (cc.toNat : Int), .slice Ak kl ck] 32)).cell? ⟨wr.heap.size, 2, none⟩ = some (.int .i64 torn) := by rw [cell_of_row _ wr.heap.size 2 _ _ _ hx]; rfl
  have x3 : (wr.alloc (.cells #[.int .i64 1, .int .i64 at_, .int .i64 torn, .int .u8 (cc.toNat : Int), .slice Ak kl ck] 32)).cell? ⟨wr.heap.size, 3, none⟩ = some (.int .u8 (cc.toNat : Int)) := by rw [cell_of_row _ wr.heap.size 3 _ _ _ hx]; rfl
  have x4 : (wr.alloc (.cells #[.int .i64 1, .int .i64 at_, .int .i64 torn, .int .u8 (cc.toNat : Int), .slice Ak kl ck] 32)).cell? ⟨wr.heap.size, 4, none⟩ = some (.slice Ak kl ck) := by rw [cell_of_row _ wr.heap.size 4 _ _ _ hx]; rfl
  have HX : Hid (WX.heap[wr.heap.size]? = some (.cells #[.int .i64 1, .int .i64 at_, .int .i64 torn, .int .u8 (cc.toNat : Int), .slice Ak kl ck] 32)) := Lib.hid (by rw [hWX]; exact hx)
  have HP := Lib.hid (hst.below hbX)
  have HWX := Lib.hid hWX; have HKL := Lib.hid hkl0; have HNS := Lib.hid hn
  rw [← hkl0] at hkl hkv
  have HKV := Lib.hid hkv
  have hkl2 : ¬ (60 : Int) < kl := by omega
  clear hst hbX hWX hkl0 hn hx
  have hcon := Lib.hid (p_read HP.out (by omega) at_ wfa)
  go_wp2_with fail
  rw [← HWX.out]
  refine hcon.out.mono ?_
  rintro e w2 ⟨v1, rfl, hs1, hp2, hb2⟩
  clear hcon x0 x1 x2 x3 x4
  have hx2 : w2.heap[wr.heap.size]? = _ := (hb2.block _ (Array.getElem?_eq_some_iff.1 HX.out).1).trans HX.out
  have y0 : w2.cell? ⟨wr.heap.size, 0, none⟩ = some (.int .i64 1) := by rw [cell_of_row _ wr.heap.size 0 _ _ _ hx2]; rfl
  have y1 : w2.cell? ⟨wr.heap.size, 1, none⟩ = some (.int .i64 at_) := by rw [cell_of_row _ wr.heap.size 1 _ _ _ hx2]; rfl
  have y2 : w2.cell? ⟨wr.heap.size, 2, none⟩ = some (.int .i64 torn) := by rw [cell_of_row _ wr.heap.size 2 _ _ _ hx2]; rfl
  have y3 : w2.cell? ⟨wr.heap.size, 3, none⟩ = some (.int .u8 (cc.toNat : Int)) := by rw [cell_of_row _ wr.heap.size 3 _ _ _ hx2]; rfl
  have y4 : w2.cell? ⟨wr.heap.size, 4, none⟩ = some (.slice Ak kl ck) := by rw [cell_of_row _ wr.heap.size 4 _ _ _ hx2]; rfl
  have hcon2 := Lib.hid (q_read hp2 (by omega) at_)
  obtain ⟨A1, c1, rfl, hc1, hr1⟩ := hs1.rd
  have HS1 := Lib.hid hs1
  obtain ⟨n1, hn1⟩ : ∃ n1, n1 = ((d.read at_).1.getD []).length := ⟨_, rfl⟩
  rw [← hn1] at HS1 hc1 ⊢
  have HN1 := Lib.hid hn1
  clear hx2 hb2 hp2 hs1 hr1 hn1
  go_wp2_with fail
  refine hcon2.out.mono ?_
  rintro e w3 ⟨v2, rfl, hs2, hp3, hb3⟩
  obtain ⟨A2, c2, rfl, hc2, hr2⟩ := hs2.rd
  have hs1 := HS1.out.below hb3
  rw [← HN1.out] at hs2 hc2 ⊢
  have k1 := hs1.str
  have k2 := hs2.str
  clear hcon2 y0 y1 y2 y3 y4 hs1 hs2 hr2 hb3 HS1 HN1
  have HND := HNS
  have HPd := Lib.hid hp3.next.next
  generalize (d.read at_).2 = e2 at *
  generalize (d.read at_).1.getD [] = l at *
  obtain ⟨dd, hdd⟩ : ∃ dd, dd = d := ⟨_, rfl⟩
  rw [← hdd] at HPd HND
  clear hp3 hdd HX HWX HKL HP HKV HNS
  have HPW : Hid (∀ W, Gr w3.heap.size w3.drew W → P2 w W B g r vs (2 * k + 1 + 1) dd dd) := Lib.hid fun W hW => HPd.out.below (Below.trans (Below.drew (Below.refl w3.heap.size w3)) hW.1)
  have HC : Hid (∀ W, Gr w3.heap.size w3.drew W → W.cell? ⟨r, 1, none⟩ = some (.bool dd.off)) := Lib.hid fun W hW => (HPW.out W hW).isoff
  have hwk : IntKind.i64.wrap ((k : Int) + 1) = ((k + 1 : Nat) : Int) := by rw [IntKind.wrap_i64]; omega
  clear HPd
  go_wp2_with fail
  refine wp_region_tbl _ (dchkTbl n dd.cache.length dd.off) (w3.heap.size) (by kernel_rfl) (by kernel_rfl) (by kernel_rfl) ?_
  repeat (first
    | (refine wpR_plain ?_ (by rfl) (fun K hK => ?_); (focus (first | (simp only [Region.wanted]; done) | (go_simp; done))); apply Exists.intro; refine ⟨fun W hW => ?_, ?_⟩; (go_simp; (try simp only [plainUpon_value, true_and]); rfl); go_simp; refine hK _ ?_; clear hK K)
    | (refine wpR_plain ?_ (by rfl) (fun K hK => ?_); (focus (first | (simp only [Region.wanted]; done) | (go_simp; done))); apply Exists.intro; refine ⟨fun W hW => ?_, ?_⟩; (have hcw := HC.out W hW; go_simp; (try simp only [plainUpon_value, true_and]); rfl); go_simp; refine hK _ ?_; clear hK K)
    | (refine wpR_val (by rfl) ?_ (fun W hW hF => ?_) (fun K hK => ?_); (focus (first | (simp only [Region.wanted]; done) | (go_simp; done))); (go_simp; simp only [relUpon_enter]; refine (ds_off (HPW.out W hW).a).mono ?_; rintro e w' ⟨rfl, rfl⟩; exact ⟨_, rfl, Gr.refl _ _, rfl⟩); go_simp; refine hK _ ?_; clear hK K)
    | (refine wpR_val (by rfl) ?_ (fun W hW hF => ?_) (fun K hK => ?_); (focus (first | (simp only [Region.wanted]; done) | (go_simp; done))); (go_simp; simp only [relUpon_enter]; refine (ds_unsafe (HPW.out W hW).a).mono ?_; rintro e w' ⟨rfl, rfl⟩; exact ⟨_, rfl, Gr.refl _ _, rfl⟩); go_simp; refine hK _ ?_; clear hK K)
    | (refine wpR_val (by rfl) ?_ (fun W hW hF => ?_) (fun K hK => ?_); (focus (first | (simp only [Region.wanted]; done) | (go_simp; done))); (go_simp; simp only [relUpon_enter]; refine (q_unsafe (HPW.out W hW)).mono ?_; rintro e w' ⟨rfl, rfl⟩; exact ⟨_, rfl, Gr.refl _ _, rfl⟩); go_simp; refine hK _ ?_; clear hK K)
    | (refine wpR_val (by rfl) ?_ (fun W hW hF => ?_) (fun K hK => ?_); (focus (first | (simp only [Region.wanted]; done) | (go_simp; done))); (go_simp; simp only [relUpon_enter]; refine (ds_sectors (HPW.out W hW).a).mono ?_; rintro e w' ⟨rfl, rfl⟩; exact ⟨_, rfl, Gr.refl _ _, by rw [HND.out]⟩); go_simp; refine hK _ ?_; clear hK K))
  refine wpR_nil (fun W hW hF => ?_)
  have HM := Lib.hid (HPW.out W hW)
  clear hF hW HC HPW
  go_wp2
  refine ⟨⟨rfl, rfl, k + 1, dd, ?_, by omega, HND.out, HM.out⟩, ?_⟩
  · unfold dpN
    simp only [List.forall_mem_cons, List.not_mem_nil, false_implies, implies_true, and_true]
    exact ⟨rfl, rfl, rfl, rfl, by first | rfl | (show Value.int _ _ = Value.int _ _; congr 1; omega)⟩
  · simp [dpMu, intOf]; omega
end Go.Proofs.Ytbpecfbliglboaa
