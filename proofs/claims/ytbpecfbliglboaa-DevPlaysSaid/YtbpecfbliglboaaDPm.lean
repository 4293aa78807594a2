/- DevPlays: the loop's round, from the cases. -/
import Derived.Test.YtbpecfbliglboaaDPc0
import Derived.Test.YtbpecfbliglboaaDPc1
import Derived.Test.YtbpecfbliglboaaDPc3
import Derived.Test.YtbpecfbliglboaaDPc5
import Derived.Test.YtbpecfbliglboaaDPc6
import Derived.Test.YtbpecfbliglboaaDPr
namespace Go.Proofs.Ytbpecfbliglboaa
open Go.RowKit Go.Maps
set_option linter.unusedVariables false
set_option linter.unusedSimpArgs false
set_option maxRecDepth 1000000 in
set_option maxHeartbeats 2000000 in
theorem frame_lit (A : Addr) (n m c g r k : Nat) (f : Nat → Value) : (frame (dpN n m c g r A k) f 240).toArray = #[.int .i64 n, .slice (some A) m c, f 2, f 3, f 4, .pointer (some ⟨g, 0, none⟩), f 6, .pointer (some ⟨r, 0, none⟩), .int .i64 k, f 9, f 10, f 11, f 12, f 13, f 14, f 15, f 16, f 17, f 18, f 19, f 20, f 21, f 22, f 23, f 24, f 25, f 26, f 27, f 28, f 29, f 30, f 31, f 32, f 33, f 34, f 35, f 36, f 37, f 38, f 39, f 40, f 41, f 42, f 43, f 44, f 45, f 46, f 47, f 48, f 49, f 50, f 51, f 52, f 53, f 54, f 55, f 56, f 57, f 58, f 59, f 60, f 61, f 62, f 63, f 64, f 65, f 66, f 67, f 68, f 69, f 70, f 71, f 72, f 73, f 74, f 75, f 76, f 77, f 78, f 79, f 80, f 81, f 82, f 83, f 84, f 85, f 86, f 87, f 88, f 89, f 90, f 91, f 92, f 93, f 94, f 95, f 96, f 97, f 98, f 99, f 100, f 101, f 102, f 103, f 104, f 105, f 106, f 107, f 108, f 109, f 110, f 111, f 112, f 113, f 114, f 115, f 116, f 117, f 118, f 119, f 120, f 121, f 122, f 123, f 124, f 125, f 126, f 127, f 128, f 129, f 130, f 131, f 132, f 133, f 134, f 135, f 136, f 137, f 138, f 139, f 140, f 141, f 142, f 143, f 144, f 145, f 146, f 147, f 148, f 149, f 150, f 151, f 152, f 153, f 154, f 155, f 156, f 157, f 158, f 159, f 160, f 161, f 162, f 163, f 164, f 165, f 166, f 167, f 168, f 169, f 170, f 171, f 172, f 173, f 174, f 175, f 176, f 177, f 178, f 179, f 180, f 181, f 182, f 183, f 184, f 185, f 186, f 187, f 188, f 189, f 190, f 191, f 192, f 193, f 194, f 195, f 196, f 197, f 198, f 199, f 200, f 201, f 202, f 203, f 204, f 205, f 206, f 207, f 208, f 209, f 210, f 211, f 212, f 213, f 214, f 215, f 216, f 217, f 218, f 219, f 220, f 221, f 222, f 223, f 224, f 225, f 226, f 227, f 228, f 229, f 230, f 231, f 232, f 233, f 234, f 235, f 236, f 237, f 238, f 239] := by
  rfl
set_option maxHeartbeats 4000000 in
theorem dp_round (w : World) (A : Addr) (n m c B g r : Nat) (vs : Value) (acts : List ActD) (hA : Row KAct 5 w (some A) acts) (hmm : m = acts.length) (hm : m ≤ 60) (hc : m ≤ c) (hB : w.heap.size ≤ B)
    (Q0 : Exit → Act → World → Prop) (hret : ∀ a' w', a'.tmps.getD 4 undef = .bool true → a'.defers = [] → Below w.heap.size w w' → Q0 .ret a' w')
    (hexit : ∀ a' W, DI w A n m c B g r vs a' W → Q0 (.exit 0) a' W) (a : Act) (wr : World) (hI : DI w A n m c B g r vs a wr) :
    Code.wp Try.prog dpBody (Exit.then (fun a' w' => DI w A n m c B g r vs a' w' ∧ dpMu m a' w' < dpMu m a wr) Q0) a wr := by
  obtain ⟨hd, hsz, k, d, hnm, hkm, hn, hst⟩ := hI
  obtain ⟨tm, df⟩ := a
  simp only at hd hsz hnm
  subst hd
  have he := frame_eq (dpN n m c g r A k) tm 240 hsz hnm
  generalize (fun i => tm.getD i undef) = f at he
  rw [frame_lit] at he
  subst he
  clear hsz hnm
  by_cases hk : k < m
  · have hkx : k < acts.length := by omega
    obtain ⟨a, hae, c0, c1, c2, c3, kv, c4, hkv, _, wfa, wft, _⟩ := act_at hA k hkx
    injection hae with hae
    subst hae
    generalize acts[k] = x at *
    obtain ⟨op, at_, torn, cc, keep⟩ := x
    dsimp only at *
    obtain ⟨Ak, ck, rfl, hck, hkr⟩ := hkv
    have hkv : IntR w (.slice Ak keep.length ck) keep := ⟨Ak, ck, rfl, hck, hkr⟩
    have hbw := hst.a.bel.mono hB
    have c0 := cell_below hbw c0
    have c1 := cell_below hbw c1
    have c2 := cell_below hbw c2
    have c3 := cell_below hbw c3
    have c4 := cell_below hbw c4
    by_cases hkl : 60 < keep.length
    · exact dp_caseK w wr A n m c B g r k ck vs f d op at_ torn cc Ak keep.length hst hk hm hc hB hkl c0 c1 c2 c3 c4 Q0 hret
    have hkl : keep.length ≤ 60 := by omega
    by_cases o0 : op = 0
    · subst o0
      exact dp_case0 w wr A n m c B g r k ck vs f d at_ torn cc Ak keep hst hn hk hm hc hB hkv hkl wfa wft c0 c1 c2 c3 c4 Q0
    by_cases o1 : op = 1
    · subst o1
      exact dp_case1 w wr A n m c B g r k ck vs f d at_ torn cc Ak keep hst hn hk hm hc hB hkv hkl wfa wft c0 c1 c2 c3 c4 Q0
    by_cases o2 : op = 2
    · subst o2
      exact dp_case2 w wr A n m c B g r k ck vs f d at_ torn cc Ak keep hst hn hk hm hc hB hkv hkl wfa wft c0 c1 c2 c3 c4 Q0
    by_cases o3 : op = 3
    · subst o3
      exact dp_case3 w wr A n m c B g r k ck vs f d at_ torn cc Ak keep hst hn hk hm hc hB hkv hkl wfa wft c0 c1 c2 c3 c4 Q0
    by_cases o4 : op = 4
    · subst o4
      exact dp_case4 w wr A n m c B g r k ck vs f d at_ torn cc Ak keep hst hn hk hm hc hB hkv hkl wfa wft c0 c1 c2 c3 c4 Q0
    by_cases o5 : op = 5
    · subst o5
      exact dp_case5 w wr A n m c B g r k ck vs f d at_ torn cc Ak keep hst hn hk hm hc hB hkv hkl wfa wft c0 c1 c2 c3 c4 Q0
    by_cases hbad : at_ < 0 ∨ 600 < at_
    · exact dp_caseA w wr A n m c B g r k ck vs f d op at_ torn cc Ak keep.length hst hk hm hc hB hkl o0 o1 o2 o3 o4 o5 hbad c0 c1 c2 c3 c4 Q0 hret
    · exact dp_case6 w wr A n m c B g r k ck vs f d op at_ torn cc Ak keep hst hn hk hm hc hB hkv hkl wfa wft c0 c1 c2 c3 c4 Q0 o0 o1 o2 o3 o4 o5 (by omega) (by omega)
  · exact dp_caseX w wr A n m c B g r k vs f d hst hn hk hkm hm Q0 hexit
end Go.Proofs.Ytbpecfbliglboaa
