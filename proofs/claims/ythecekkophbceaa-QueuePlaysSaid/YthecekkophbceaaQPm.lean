/- QueuePlays: the loop's round, from the cases. -/
import Derived.Test.YthecekkophbceaaQPc0y
import Derived.Test.YthecekkophbceaaQPc0n
import Derived.Test.YthecekkophbceaaQPc1e
import Derived.Test.YthecekkophbceaaQPc1h
import Derived.Test.YthecekkophbceaaQPc2
import Derived.Test.YthecekkophbceaaQPc3a
import Derived.Test.YthecekkophbceaaQPc3b
import Derived.Test.YthecekkophbceaaQPc3c
import Derived.Test.YthecekkophbceaaQPc3d
import Derived.Test.YthecekkophbceaaQPc3y
import Derived.Test.YthecekkophbceaaQPc4h
import Derived.Test.YthecekkophbceaaQPc4z
import Derived.Test.YthecekkophbceaaQPc4e
import Derived.Test.YthecekkophbceaaQPr
namespace Go.Proofs.Ythecekkophbceaa
open Go.RowKit Go.Conc
set_option linter.unusedVariables false
set_option linter.unusedSimpArgs false
set_option maxRecDepth 1000000 in
set_option maxHeartbeats 2000000 in
theorem frame_lit (A : Addr) (n c room gq gw gc k : Nat) (g : Nat → Nat) (f : Nat → Value) : (frame (qpN room n c gq gw gc A g k) f 386).toArray = #[.int .i64 room, .slice (some A) n c, f 2, f 3, f 4, .pointer (some ⟨g 0, 0, none⟩), f 6, .pointer (some ⟨g 1, 0, none⟩), f 8, .pointer (some ⟨g 2, 0, none⟩), f 10, .slice (some ⟨gq, 0, none⟩) 3 3, .pointer (some ⟨gw, 0, none⟩), .pointer (some ⟨gc, 0, none⟩), .int .i64 k, f 15, f 16, f 17, f 18, f 19, f 20, f 21, f 22, f 23, f 24, f 25, f 26, f 27, f 28, f 29, f 30, f 31, f 32, f 33, f 34, f 35, f 36, f 37, f 38, f 39, f 40, f 41, f 42, f 43, f 44, f 45, f 46, f 47, f 48, f 49, f 50, f 51, f 52, f 53, f 54, f 55, f 56, f 57, f 58, f 59, f 60, f 61, f 62, f 63, f 64, f 65, f 66, f 67, f 68, f 69, f 70, f 71, f 72, f 73, f 74, f 75, f 76, f 77, f 78, f 79, f 80, f 81, f 82, f 83, f 84, f 85, f 86, f 87, f 88, f 89, f 90, f 91, f 92, f 93, f 94, f 95, f 96, f 97, f 98, f 99, f 100, f 101, f 102, f 103, f 104, f 105, f 106, f 107, f 108, f 109, f 110, f 111, f 112, f 113, f 114, f 115, f 116, f 117, f 118, f 119, f 120, f 121, f 122, f 123, f 124, f 125, f 126, f 127, f 128, f 129, f 130, f 131, f 132, f 133, f 134, f 135, f 136, f 137, f 138, f 139, f 140, f 141, f 142, f 143, f 144, f 145, f 146, f 147, f 148, f 149, f 150, f 151, f 152, f 153, f 154, f 155, f 156, f 157, f 158, f 159, f 160, f 161, f 162, f 163, f 164, f 165, f 166, f 167, f 168, f 169, f 170, f 171, f 172, f 173, f 174, f 175, f 176, f 177, f 178, f 179, f 180, f 181, f 182, f 183, f 184, f 185, f 186, f 187, f 188, f 189, f 190, f 191, f 192, f 193, f 194, f 195, f 196, f 197, f 198, f 199, f 200, f 201, f 202, f 203, f 204, f 205, f 206, f 207, f 208, f 209, f 210, f 211, f 212, f 213, f 214, f 215, f 216, f 217, f 218, f 219, f 220, f 221, f 222, f 223, f 224, f 225, f 226, f 227, f 228, f 229, f 230, f 231, f 232, f 233, f 234, f 235, f 236, f 237, f 238, f 239, f 240, f 241, f 242, f 243, f 244, f 245, f 246, f 247, f 248, f 249, f 250, f 251, f 252, f 253, f 254, f 255, f 256, f 257, f 258, f 259, f 260, f 261, f 262, f 263, f 264, f 265, f 266, f 267, f 268, f 269, f 270, f 271, f 272, f 273, f 274, f 275, f 276, f 277, f 278, f 279, f 280, f 281, f 282, f 283, f 284, f 285, f 286, f 287, f 288, f 289, f 290, f 291, f 292, f 293, f 294, f 295, f 296, f 297, f 298, f 299, f 300, f 301, f 302, f 303, f 304, f 305, f 306, f 307, f 308, f 309, f 310, f 311, f 312, f 313, f 314, f 315, f 316, f 317, f 318, f 319, f 320, f 321, f 322, f 323, f 324, f 325, f 326, f 327, f 328, f 329, f 330, f 331, f 332, f 333, f 334, f 335, f 336, f 337, f 338, f 339, f 340, f 341, f 342, f 343, f 344, f 345, f 346, f 347, f 348, f 349, f 350, f 351, f 352, f 353, f 354, f 355, f 356, f 357, f 358, f 359, f 360, f 361, f 362, f 363, f 364, f 365, f 366, f 367, f 368, f 369, f 370, f 371, f 372, f 373, f 374, f 375, f 376, f 377, f 378, f 379, f 380, f 381, f 382, f 383, f 384, f 385] := by
  rfl
theorem head_of {α : Type} (l : List α) (h : 0 < l.length) : ∃ x r, l = x :: r := by
  cases l with
  | nil => simp at h
  | cons x r => exact ⟨x, r, rfl⟩
set_option maxHeartbeats 4000000 in
theorem qp_round (w : World) (A : Addr) (c n room gq gw gc : Nat) (g ch : Nat → Nat) (acts : List (Int × Int × Int × ByteArray × Unit)) (hA : Row KAct 4 w (some A) acts) (hn : n = acts.length)
    (hD : Dst w.heap.size g ch) (wb : w.heap.size ≤ gw) (cb : w.heap.size ≤ gc) (hn80 : n ≤ 80) (hc : n ≤ c) (hr64 : room ≤ 64)
    (Q0 : Exit → Act → World → Prop) (hret : ∀ a' w', a'.tmps.getD 4 undef = .bool true → a'.defers = [] → Below w.heap.size w w' → Q0 .ret a' w')
    (hexit : ∀ a' W, QI w A c n room gq gw gc g ch a' W → Q0 (.exit 0) a' W) (a : Act) (wr : World) (hI : QI w A c n room gq gw gc g ch a wr) :
    Code.wp Try.prog qpBody (Exit.then (fun a' w' => QI w A c n room gq gw gc g ch a' w' ∧ qpMu n a' w' < qpMu n a wr) Q0) a wr := by
  obtain ⟨hd, hsz, k, ls, cl, hnm, hkn, hst⟩ := hI
  obtain ⟨tm, df⟩ := a
  simp only at hd hsz hnm
  subst hd
  have he := frame_eq (qpN room n c gq gw gc A g k) tm 386 hsz hnm
  generalize (fun i => tm.getD i undef) = f at he
  rw [frame_lit] at he
  subst he
  clear hsz hnm
  by_cases hk : k < n
  · obtain ⟨a, hae, hrow⟩ := hA (by rw [← hn]; omega)
    injection hae with hae
    subst hae
    obtain ⟨cs, hcl, hKA, hcell⟩ := hrow k (by rw [← hn]; exact hk)
    generalize acts[k]'(by rw [← hn]; exact hk) = act at hKA
    obtain ⟨rfl, wf1, wf2, wf3, hsz⟩ := hKA.open
    obtain ⟨op, q, tq, s, u⟩ := act
    dsimp only at *
    have c0 : wr.cell? (A.add (k * 4)) = some (.int .i64 op) := cell_below hst.b (hcell 0 (by simp))
    have c1 : wr.cell? ⟨(A.add (k * 4)).block, (A.add (k * 4)).off + 1, none⟩ = some (.int .i64 q) := by
      have h := cell_below hst.b (hcell 1 (by simp))
      rw [← Go.Deep.add_add] at h
      exact h
    have c2 : wr.cell? ⟨(A.add (k * 4)).block, (A.add (k * 4)).off + 2, none⟩ = some (.int .i64 tq) := by
      have h := cell_below hst.b (hcell 2 (by simp))
      rw [← Go.Deep.add_add] at h
      exact h
    have c3 : wr.cell? ⟨(A.add (k * 4)).block, (A.add (k * 4)).off + 3, none⟩ = some (.string s) := by
      have h := cell_below hst.b (hcell 3 (by simp))
      rw [← Go.Deep.add_add] at h
      exact h
    clear hrow hcl hKA hcell hA hn wf1 wf2 wf3 hsz
    by_cases hbad : q < 0 ∨ 2 < q ∨ tq < 0 ∨ 2 < tq ∨ 100 < s.size
    · exact qp_caseR w wr A c n room gq gw gc k g ch f ls cl op q tq s hst hk hn80 hc c0 c1 c2 c3 hbad Q0 hret
    · obtain ⟨q, rfl⟩ : ∃ m : Nat, q = m := ⟨q.toNat, by omega⟩
      obtain ⟨tq, rfl⟩ : ∃ m : Nat, tq = m := ⟨tq.toNat, by omega⟩
      have hq : q < 3 := by omega
      have ht : tq < 3 := by omega
      have hs : s.size ≤ 100 := by omega
      clear hbad hret hexit
      by_cases o0 : op = 0
      · subst o0
        by_cases hm : (ls q).length < room ∧ cl q = false
        · exact qp_case0y w wr A c n room gq gw gc k g ch f ls cl q tq s hst hD wb cb hk hn80 hc hr64 hq ht hs c0 c1 c2 c3 Q0 hm.1 hm.2
        · exact qp_case0n w wr A c n room gq gw gc k g ch f ls cl q tq s hst hD wb cb hk hn80 hc hr64 hq ht hs c0 c1 c2 c3 Q0 hm
      by_cases o1 : op = 1
      · subst o1
        cases hm : ls q with
        | nil => exact qp_case1e w wr A c n room gq gw gc k g ch f ls cl q tq s hst hD wb cb hk hn80 hc hr64 hq ht hs c0 c1 c2 c3 Q0 hm
        | cons s1 rest => exact qp_case1h w wr A c n room gq gw gc k g ch f ls cl q tq s hst hD wb cb hk hn80 hc hr64 hq ht hs c0 c1 c2 c3 Q0 s1 rest hm
      by_cases o2 : op = 2
      · subst o2
        exact qp_case2 w wr A c n room gq gw gc k g ch f ls cl q tq s hst hD wb cb hk hn80 hc hq ht hs c0 c1 c2 c3 Q0
      by_cases o3 : op = 3
      · subst o3
        by_cases hqt : q = tq
        · exact qp_case3a w wr A c n room gq gw gc k g ch f ls cl q tq s hst hD wb cb hk hn80 hc hr64 hq ht hs c0 c1 c2 c3 Q0 hqt
        · by_cases h0 : 0 < (ls q).length
          · by_cases hf : (ls tq).length < room
            · by_cases hcl : cl tq = true
              · exact qp_case3d w wr A c n room gq gw gc k g ch f ls cl q tq s hst hD wb cb hk hn80 hc hr64 hq ht hs c0 c1 c2 c3 Q0 hqt h0 hf hcl
              · have hcl' : cl tq = false := by revert hcl; cases cl tq <;> simp
                obtain ⟨s1, rest, hl1⟩ := head_of _ h0
                exact qp_case3y w wr A c n room gq gw gc k g ch f ls cl q tq s hst hD wb cb hk hn80 hc hr64 hq ht hs c0 c1 c2 c3 Q0 s1 rest hqt hl1 hf hcl'
            · exact qp_case3c w wr A c n room gq gw gc k g ch f ls cl q tq s hst hD wb cb hk hn80 hc hr64 hq ht hs c0 c1 c2 c3 Q0 hqt h0 hf
          · have hm : ls q = [] := List.length_eq_zero_iff.1 (by omega)
            exact qp_case3b w wr A c n room gq gw gc k g ch f ls cl q tq s hst hD wb cb hk hn80 hc hr64 hq ht hs c0 c1 c2 c3 Q0 hqt hm
      · cases e0 : ls 0 with
        | cons s1 rest => exact qp_case4h w wr A c n room gq gw gc k g ch f ls cl q tq s op hst hD wb cb hk hn80 hc hr64 hq ht hs c0 c1 c2 c3 Q0 o0 o1 o2 o3 0 (by omega) (by omega) (fun p hp => by omega) s1 rest e0
        | nil =>
          have e00 : ∀ p, p < 1 → ls p = [] := fun p hp => by
            have : p = 0 := by omega
            rw [this]; exact e0
          cases e1 : ls 1 with
          | cons s1 rest => exact qp_case4h w wr A c n room gq gw gc k g ch f ls cl q tq s op hst hD wb cb hk hn80 hc hr64 hq ht hs c0 c1 c2 c3 Q0 o0 o1 o2 o3 1 (by omega) (by omega) e00 s1 rest e1
          | nil =>
            have e01 : ∀ p, p < 2 → ls p = [] := fun p hp => by
              have : p = 0 ∨ p = 1 := by omega
              rcases this with rfl | rfl
              · exact e0
              · exact e1
            cases e2 : ls 2 with
            | cons s1 rest => exact qp_case4z w wr A c n room gq gw gc k g ch f ls cl q tq s op hst hD wb cb hk hn80 hc hr64 hq ht hs c0 c1 c2 c3 Q0 o0 o1 o2 o3 2 (by omega) (by omega) e01 s1 rest e2
            | nil =>
              have e012 : ∀ p, p < 3 → ls p = [] := fun p hp => by
                by_cases hp2 : p < 2
                · exact e01 p hp2
                · have : p = 2 := by omega
                  rw [this]; exact e2
              exact qp_case4e w wr A c n room gq gw gc k g ch f ls cl q tq s op hst hD wb cb hk hn80 hc hr64 hq ht hs c0 c1 c2 c3 Q0 o0 o1 o2 o3 2 rfl e012
  · exact qp_caseX w wr A c n room gq gw gc k g ch f ls cl hst hk hkn hn80 Q0 hexit
end Go.Proofs.Ythecekkophbceaa
