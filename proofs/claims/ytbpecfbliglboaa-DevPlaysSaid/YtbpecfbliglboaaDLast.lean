/- The law DevLast, walked. -/
import Derived.Test.YtbpecfbliglboaaDAct
import Derived.Laws.BitsLemmas
namespace Go.Proofs.Ytbpecfbliglboaa
open Go.RowKit Go.Maps
set_option linter.unusedVariables false
set_option linter.unusedSimpArgs false
attribute [local irreducible] wpR relOp
theorem and7 (n : Int) : bits .and .i64 n 7 = n % 8 := by
  have h7 : (BitVec.ofInt 64 7).toNat = 2 ^ 3 - 1 := by decide
  have key : (BitVec.ofInt 64 n &&& BitVec.ofInt 64 7).toNat = (n % ((2 ^ 64 : Nat) : Int)).toNat % 2 ^ 3 := by
    rw [BitVec.toNat_and, BitVec.toNat_ofInt, h7, Nat.and_two_pow_sub_one_eq_mod]
  show IntKind.i64.wrap ((BitVec.ofInt 64 n &&& BitVec.ofInt 64 7).toNat : Nat) = n % 8
  rw [key, IntKind.wrap_i64]
  omega
/-- a device of eight sectors that reads as L -/
structure Reads (d : DevMath.Dev) (k : Nat) (L : List UInt8) : Prop where
  off : d.off = false
  fuse : d.fuse = 0
  sec : d.sectors = 8
  ca : d.cache.length ≤ k
  len : L.length = 8
  val : ∀ j, (h : j < L.length) → d.val j = DevMath.sec L[j]
theorem Reads.has {d : DevMath.Dev} {k : Nat} {L : List UInt8} (h : Reads d k L) (j : Nat) (hj : j < 8) : d.has j = true := by
  simp [DevMath.Dev.has, h.sec]; omega
theorem Reads.write {d : DevMath.Dev} {k : Nat} {L : List UInt8} (h : Reads d k L) (j : Nat) (hj : j < 8) (c : UInt8) : ∃ d', d.write j (DevMath.sec c) = (d', 0) ∧ Reads d' (k + 1) (L.set j c) := by
  refine ⟨_, DevMath.write_plain d j _ h.off h.fuse (h.has j hj) (DevMath.sec_len c), h.off, h.fuse, h.sec, ?_, by rw [List.length_set]; exact h.len, fun i hi => ?_⟩
  · show (d.cache ++ [((j : Int), DevMath.sec c)]).length ≤ k + 1
    rw [List.length_append]
    have := h.ca
    simp only [List.length_cons, List.length_nil]
    omega
  · rw [List.length_set] at hi
    rw [DevMath.val_write, List.getElem_set]
    by_cases e : j = i
    · subst e
      rw [if_pos rfl, if_pos rfl]
    · rw [if_neg (by omega), if_neg e]
      exact h.val i hi
theorem Reads.flush {d : DevMath.Dev} {k : Nat} {L : List UInt8} (h : Reads d k L) : ∃ d', d.flush = (d', 0) ∧ Reads d' k L := by
  refine ⟨_, DevMath.flush_plain d h.off h.fuse, h.off, h.fuse, h.sec, Nat.zero_le _, h.len, fun i hi => ?_⟩
  rw [DevMath.val_flush]
  exact h.val i hi
theorem Reads.new : Reads (DevMath.Dev.new 8) 0 (List.replicate 8 0) := by
  refine ⟨rfl, rfl, rfl, Nat.le_refl _, rfl, fun j hj => ?_⟩
  rw [List.getElem_replicate]
  rfl
def lastTbl (c : UInt8) : Nat → Option Sp
  | 12 => some (slSp 512 (DevMath.sec c))
  | _ => none
def lastTbl2 (c : UInt8) : Nat → Option Sp
  | 4 => some (.val (.string ⟨(DevMath.sec c).toArray⟩))
  | 8 => some (slSp 512 (DevMath.sec c))
  | 9 => some (.val (.string ⟨(DevMath.sec c).toArray⟩))
  | _ => none
set_option maxRecDepth 20000 in
set_option maxHeartbeats 1000000 in
theorem DevLast_ok (A : Option Addr) (c : Nat) (xs : List ActD) (w : World) (hr : Row KAct 5 w A xs) (hc : xs.length ≤ c) (h : xs.length ≤ 40) :
    Calls Try.prog 3 #[.slice A xs.length c] w fun e w' => e = .returned (.bool true) ∧ Below w.heap.size w w' := by
  obtain ⟨n, hn⟩ : ∃ n, n = xs.length := ⟨_, rfl⟩
  rw [← hn] at hc h ⊢
  have HN := Lib.hid hn; have HR := Lib.hid hr
  clear hn hr
  go_enter Try.func3, Try.ntmps3
  go_wp2_with fail
  refine (awake4_any w).mono ?_
  rintro e w1 ⟨rfl, hb1⟩
  have HB1 := Lib.hid hb1
  clear hb1
  go_wp2_with fail
  refine (ds_new w1 8 (by decide) (by decide)).mono ?_
  rintro e w2 ⟨g, rfl, hd2, -⟩
  have hd2b : DS w1 w2 w1.heap.size g (DevMath.Dev.new 8) := hd2
  have HD := Lib.hid hd2b
  clear hd2 hd2b
  obtain ⟨gl, hgl⟩ : ∃ gl, gl = w2.heap.size := ⟨_, rfl⟩
  have hM : Mb (w2.alloc (.cells #[.int .u8 0, .int .u8 0, .int .u8 0, .int .u8 0, .int .u8 0, .int .u8 0, .int .u8 0, .int .u8 0] 28)) gl 28 (List.replicate 8 0) := ⟨by simp, _, heap_new _ _ _ hgl, by simp, fun j hj => by
    rw [List.getElem_replicate]
    have : j = 0 ∨ j = 1 ∨ j = 2 ∨ j = 3 ∨ j = 4 ∨ j = 5 ∨ j = 6 ∨ j = 7 := by rw [List.length_replicate] at hj; omega
    rcases this with rfl | rfl | rfl | rfl | rfl | rfl | rfl | rfl <;> rfl⟩
  have HM := Lib.hid hM
  have HGL : Hid (w1.heap.size ≤ gl) := Lib.hid (by rw [hgl]; exact HD.out.sz)
  have HD2 := Lib.hid (HD.out.below ((Below.refl _ w2).alloc (Nat.le_refl _) (.cells #[.int .u8 0, .int .u8 0, .int .u8 0, .int .u8 0, .int .u8 0, .int .u8 0, .int .u8 0, .int .u8 0] 28)))
  clear hM
  go_wp2_with fail
  rw [← hgl]
  clear hgl HD
  go_loopw [6] (fun i wr => ∃ k : Nat, k ≤ n ∧ i = .int .i64 k ∧ ∃ d L, DS w1 wr w1.heap.size g d ∧ Reads d k L ∧ Mb wr gl 28 L) (fun i _ => n - (intOf i).toNat)
  case atStart => exact ⟨0, by omega, rfl, _, _, HD2.out, Reads.new, HM.out⟩
  case round =>
    obtain ⟨k, hk, rfl, d, L, hd, hL, hm⟩ := hrel
    by_cases hlt : k < n
    · have hkx : k < xs.length := by rw [← HN.out]; exact hlt
      have hbw : Below w.heap.size w wr := below_then HB1.out HB1.out.size hd.bel
      obtain ⟨a, rfl, c0, c1, _, c3, _⟩ := act_at (acts_below HR.out hbw) k hkx
      change wr.cell? (a.add (k * 5)) = some (.int .i64 (xs[k]'hkx).op) at c0
      change wr.cell? ⟨(a.add (k * 5)).block, (a.add (k * 5)).off + 1, none⟩ = some (.int .i64 (xs[k]'hkx).at_) at c1
      change wr.cell? ⟨(a.add (k * 5)).block, (a.add (k * 5)).off + 3, none⟩ = some (.int .u8 ((xs[k]'hkx).c.toNat : Int)) at c3
      obtain ⟨x, hx⟩ : ∃ x, xs[k]'hkx = x := ⟨_, rfl⟩
      rw [hx] at c0 c1 c3
      obtain ⟨op, at_, torn, cb, keep⟩ := x
      have HX := Lib.hid hx
      clear hx
      have hL8 := hL.len
      simp only at c0 c1 c3
      obtain ⟨q, hq⟩ : ∃ q : Nat, at_ % 8 = (q : Int) := ⟨(at_ % 8).toNat, by omega⟩
      have hq8 : q < 8 := by omega
      have hq8i : (q : Int) < 8 := by omega
      have hand : bits .and .i64 at_ 7 = (q : Int) := by rw [and7, hq]
      have HD := Lib.hid hd; have HL := Lib.hid hL; have HM := Lib.hid hm; have HBW := Lib.hid hbw
      clear hd hL hm hbw hq HD2
      have HC : Hid (∀ W, Gr wr.heap.size wr.drew W → W.cell? (a.add (k * 5)) = some (.int .i64 op) ∧ W.cell? ⟨(a.add (k * 5)).block, (a.add (k * 5)).off + 1, none⟩ = some (.int .i64 at_) ∧ W.cell? ⟨(a.add (k * 5)).block, (a.add (k * 5)).off + 3, none⟩ = some (.int .u8 (cb.toNat : Int))) := Lib.hid fun W hW => by
        have h := Below.trans (Below.drew (Below.refl wr.heap.size wr)) hW.1
        exact ⟨cell_below h c0, cell_below h c1, cell_below h c3⟩
      go_wp2_with fail
      (refine wp_region_tbl_tail _ 13 (lastTbl cb) wr.heap.size (by kernel_rfl) (by kernel_rfl) (by kernel_rfl) ?_; simp only [List.take_succ_cons, List.take_zero, List.drop_succ_cons, List.drop_zero])
      repeat (first
        | (refine wpR_plain ?_ (by rfl) (fun K hK => ?_); (focus (first | (simp only [Region.wanted]; done) | (go_simp; done))); apply Exists.intro; refine ⟨fun W hW => ?_, ?_⟩; (go_simp; (try simp only [plainUpon_value, true_and]); rfl); go_simp; refine hK _ ?_; clear hK K)
        | (refine wpR_plain ?_ (by rfl) (fun K hK => ?_); (focus (first | (simp only [Region.wanted]; done) | (go_simp; done))); apply Exists.intro; refine ⟨fun W hW => ?_, ?_⟩; (have hcw := HC.out W hW; go_simp; (try simp only [plainUpon_value, true_and]); rfl); go_simp; refine hK _ ?_; clear hK K)
        | (refine wpR_prop (by rfl) ?_ (fun W hW hF => ?_) (fun K v hv hK => ?_); (focus (first | (simp only [Region.wanted]; done) | (go_simp; done))); (go_simp; simp only [relUpon_enter]; exact sect_rel W _ cb rfl hW.size); obtain ⟨A12, c12, rfl, hc12⟩ := hv; go_simp; refine hK _ ?_; clear hK K))
      refine wpR_nil (fun W hW hF => ?_)
      have hbW := Below.trans (Below.drew (Below.refl wr.heap.size wr)) hW.1
      have hs12 : Sl W (.slice A12 512 c12) (DevMath.sec cb) := hF 12
      have hMW : Mb W gl 28 L := by
        obtain ⟨h0, cur, h1, h2⟩ := HM.out
        exact ⟨h0, cur, (hbW.block _ (Array.getElem?_eq_some_iff.1 h1).1).trans h1, h2⟩
      obtain ⟨d1, he1, hL1⟩ := HL.out.write q hq8 cb
      have hcon := ds_write (HD.out.below hbW) (by have := HL.out.ca; omega) q hs12 (by rw [DevMath.sec_len]; decide)
      rw [he1] at hcon
      have hcon := Lib.hid hcon; have HMW := Lib.hid hMW; have HL1 := Lib.hid hL1
      clear hF hW hbW hs12 hMW he1 hL1 c0 c1 c3 HC HD HL HM HBW
      go_wp2_with fail
      refine hcon.out.mono ?_
      rintro e w4 ⟨rfl, hd4, htk⟩
      have hm4 := HMW.out.tk htk (by decide) (by decide)
      have hbw4 : Below w.heap.size w w4 := below_then HB1.out HB1.out.size hd4.bel
      obtain ⟨a', e', c0, c1, _, c3, _⟩ := act_at (acts_below HR.out hbw4) k hkx
      injection e' with e'
      subst e'
      have hxk : xs[k]'hkx = ⟨op, at_, torn, cb, keep⟩ := HX.out
      rw [hxk] at c0 c1 c3
      simp only at c0 c1 c3
      have hlen : q < L.length := by rw [hL8]; exact hq8
      obtain ⟨hcl, hfz⟩ := hm4.cell q hlen
      generalize L[q]'hlen = old at hcl
      have HM4 := Lib.hid hm4; have HD4 := Lib.hid hd4
      have HC : Hid (∀ W, Gr w4.heap.size w4.drew W → W.cell? (a.add (k * 5)) = some (.int .i64 op) ∧ W.cell? ⟨(a.add (k * 5)).block, (a.add (k * 5)).off + 1, none⟩ = some (.int .i64 at_) ∧ W.cell? ⟨(a.add (k * 5)).block, (a.add (k * 5)).off + 3, none⟩ = some (.int .u8 (cb.toNat : Int))) := Lib.hid fun W hW => by
        have h := Below.trans (Below.drew (Below.refl w4.heap.size w4)) hW.1
        exact ⟨cell_below h c0, cell_below h c1, cell_below h c3⟩
      clear hm4 hd4 htk hcon HMW hbw4 c1 c3
      go_wp2_with fail
      (refine wp_region_tbl_tail _ 12 (fun _ => none) w4.heap.size (by kernel_rfl) (by kernel_rfl) (by kernel_rfl) ?_; simp only [List.take_succ_cons, List.take_zero, List.drop_succ_cons, List.drop_zero])
      repeat (first
        | (refine wpR_plain ?_ (by rfl) (fun K hK => ?_); (focus (first | (simp only [Region.wanted]; done) | (go_simp; done))); apply Exists.intro; refine ⟨fun W hW => ?_, ?_⟩; (go_simp; (try simp only [plainUpon_value, true_and]); rfl); go_simp; refine hK _ ?_; clear hK K)
        | (refine wpR_plain ?_ (by rfl) (fun K hK => ?_); (focus (first | (simp only [Region.wanted]; done) | (go_simp; done))); apply Exists.intro; refine ⟨fun W hW => ?_, ?_⟩; (have hcw := HC.out W hW; go_simp; (try simp only [plainUpon_value, true_and]); rfl); go_simp; refine hK _ ?_; clear hK K))
      refine wpR_nil (fun W hW hF => ?_)
      have hbW := Below.trans (Below.drew (Below.refl w4.heap.size w4)) hW.1
      have hMW : Mb W gl 28 L := by
        obtain ⟨h0, cur, h1, h2⟩ := HM4.out
        exact ⟨h0, cur, (hbW.block _ (Array.getElem?_eq_some_iff.1 h1).1).trans h1, h2⟩
      obtain ⟨hclW, hfzW⟩ := hMW.cell q (by rw [hL8]; exact hq8)
      generalize L[q]'(by rw [hL8]; exact hq8) = old at hclW
      have HMS := Lib.hid (hMW.set q cb)
      have HDS : Hid (DS w1 (W.setCell ⟨gl, q, none⟩ (.int .u8 (cb.toNat : Int))) w1.heap.size g d1) := Lib.hid (by
        obtain ⟨h0, cur, h1, h2⟩ := hMW
        exact (HD4.out.below hbW).set h1 HGL.out)
      have hbwS : Below w.heap.size w (W.setCell ⟨gl, q, none⟩ (.int .u8 (cb.toNat : Int))) := below_then HB1.out HB1.out.size HDS.out.bel
      obtain ⟨a', e', c0S, _⟩ := act_at (acts_below HR.out hbwS) k hkx
      injection e' with e'
      subst e'
      have hxk : xs[k]'hkx = ⟨op, at_, torn, cb, keep⟩ := HX.out
      rw [hxk] at c0S
      simp only at c0S
      have hwk : IntKind.i64.wrap ((k : Int) + 1) = ((k + 1 : Nat) : Int) := by rw [IntKind.wrap_i64]; omega
      clear hF hW hbW hMW hbwS c0 HC HM4 HD4 hcl
      by_cases hop : op = 2
      · subst hop
        obtain ⟨WS, hWS⟩ : ∃ WS, WS = W.setCell ⟨gl, q, none⟩ (.int .u8 (cb.toNat : Int)) := ⟨_, rfl⟩
        rw [← hWS] at HDS HMS
        obtain ⟨d2, he2, hL2⟩ := HL1.out.flush
        have hcon := ds_flush HDS.out (by have := HL1.out.ca; omega)
        rw [he2] at hcon
        have hcon := Lib.hid hcon; have HL2 := Lib.hid hL2; have HMS1 := Lib.hid HMS.out
        clear he2 hL2 HDS HMS
        go_wp2_with fail
        rw [← hWS]
        clear hWS hclW hfzW
        refine hcon.out.mono ?_
        rintro e w5 ⟨rfl, hd5, htk⟩
        have HMS := Lib.hid (HMS1.out.tk htk (by decide) (by decide)); have HDS := Lib.hid hd5
        clear hd5 htk hcon HMS1 c0S
        go_wp2_with fail
        rename World => wOld
        go_loopw [7] (fun i wr2 => ∃ p : Nat, p ≤ 8 ∧ i = .int .i64 p ∧ DS w1 wr2 w1.heap.size g d2 ∧ Mb wr2 gl 28 (L.set q cb)) (fun i _ => 8 - (intOf i).toNat)
        case atStart => exact ⟨0, by omega, rfl, HDS.out, HMS.out⟩
        case round =>
          obtain ⟨p, hp, rfl, hd, hm⟩ := hrel
          by_cases hlt2 : p < 8
          · have hcon := ds_read hd (by have := HL2.out.ca; omega) p (by simp [Lit.wf, IntKind.min, IntKind.max, IntKind.signed, IntKind.bits]; omega)
            have hpl : p < (L.set q cb).length := by rw [List.length_set, hL8]; exact hlt2
            rw [DevMath.read_val _ _ HL2.out.off (HL2.out.has p hlt2), HL2.out.val p hpl] at hcon
            obtain ⟨hcl, hfz⟩ := hm.cell p hpl
            generalize (L.set q cb)[p]'hpl = cx at hcon hcl
            have hcon := Lib.hid hcon; have HM2 := Lib.hid hm
            clear hd hm hpl HDS HMS
            have hltI : (p : Int) < 8 := by omega
            have hwp : IntKind.i64.wrap ((p : Int) + 1) = ((p + 1 : Nat) : Int) := by rw [IntKind.wrap_i64]; omega
            go_wp2_with fail
            refine hcon.out.mono ?_
            rintro e w6 ⟨v, rfl, hs6, hd6, hb6⟩
            obtain ⟨A6, c6, rfl, hc6, hr6⟩ := hs6.rd
            have hlen6 : ((some (DevMath.sec cx)).getD []).length = 512 := DevMath.sec_len cx
            rw [hlen6] at hs6 hc6 ⊢
            have hs6' : Sl w6 (.slice A6 512 c6) (DevMath.sec cx) := hs6
            have hm6 : Mb w6 gl 28 (L.set q cb) := by
              obtain ⟨h0, cur, h1, h2⟩ := HM2.out
              exact ⟨h0, cur, (hb6.block _ (Array.getElem?_eq_some_iff.1 h1).1).trans h1, h2⟩
            have hcl6 : w6.cell? ⟨gl, p, none⟩ = some (.int .u8 (cx.toNat : Int)) := cell_below hb6 hcl
            have HD6 := Lib.hid hd6; have HM6 := Lib.hid hm6
            have HC : Hid (∀ W, Gr w6.heap.size w6.drew W → W.cell? ⟨gl, p, none⟩ = some (.int .u8 (cx.toNat : Int))) := Lib.hid fun W hW => cell_below (Below.trans (Below.drew (Below.refl w6.heap.size w6)) hW.1) hcl6
            have HCs : Hid (∀ W, Gr w6.heap.size w6.drew W → (convert 33 9 (.slice A6 512 c6)).run Try.prog W = .ok (.string ⟨(DevMath.sec cx).toArray⟩) W) := Lib.hid fun W hW => (hs6'.below (Below.trans (Below.drew (Below.refl w6.heap.size w6)) hW.1)).str
            clear hs6 hs6' hd6 hb6 hr6 hm6 hcl6 hcl hfz hlen6 hcon HM2
            go_wp2_with fail
            refine wp_region_tbl _ (lastTbl2 cx) (w6.heap.size) (by kernel_rfl) (by kernel_rfl) (by kernel_rfl) ?_
            repeat (first
              | (refine wpR_plain ?_ (by rfl) (fun K hK => ?_); (focus (first | (simp only [Region.wanted]; done) | (go_simp; done))); apply Exists.intro; refine ⟨fun W hW => ?_, ?_⟩; (go_simp; (try simp only [plainUpon_value, true_and]); rfl); go_simp; refine hK _ ?_; clear hK K)
              | (refine wpR_plain ?_ (by rfl) (fun K hK => ?_); (focus (first | (simp only [Region.wanted]; done) | (go_simp; done))); apply Exists.intro; refine ⟨fun W hW => ?_, ?_⟩; (have hcw := HC.out W hW; go_simp; (try simp only [plainUpon_value, true_and]); rfl); go_simp; refine hK _ ?_; clear hK K)
              | (refine wpR_val (by rfl) ?_ (fun W hW hF => ?_) (fun K hK => ?_); (focus (first | (simp only [Region.wanted]; done) | (go_simp; done))); (have hcw := HCs.out W hW; go_simp; (try simp only [relUpon_value]); (first | exact ⟨Gr.refl _ _, rfl⟩ | exact ⟨Gr.refl _ _, trivial⟩)); go_simp; refine hK _ ?_; clear hK K)
              | (refine wpR_prop (by rfl) ?_ (fun W hW hF => ?_) (fun K v hv hK => ?_); (focus (first | (simp only [Region.wanted]; done) | (go_simp; done))); (go_simp; simp only [relUpon_enter]; exact sect_rel W _ cx rfl hW.size); obtain ⟨A8, c8, rfl, hc8⟩ := hv; go_simp; refine hK _ ?_; clear hK K)
              | (refine wpR_val (by rfl) ?_ (fun W hW hF => ?_) (fun K hK => ?_); (focus (first | (simp only [Region.wanted]; done) | (go_simp; done))); (have hcw := (show Sl W (.slice A8 512 c8) (DevMath.sec cx) from hF 8 rfl).str; go_simp; (try simp only [relUpon_value]); (first | exact ⟨Gr.refl _ _, rfl⟩ | exact ⟨Gr.refl _ _, trivial⟩)); go_simp; refine hK _ ?_; clear hK K))
            refine wpR_nil (fun W hW hF => ?_)
            have hbW := Below.trans (Below.drew (Below.refl w6.heap.size w6)) hW.1
            have HDW := Lib.hid (HD6.out.below hbW)
            have HMW : Hid (Mb W gl 28 (L.set q cb)) := Lib.hid (by
              obtain ⟨h0, cur, h1, h2⟩ := HM6.out
              exact ⟨h0, cur, (hbW.block _ (Array.getElem?_eq_some_iff.1 h1).1).trans h1, h2⟩)
            clear hF hW hbW HC HCs HD6 HM6
            go_wp2
            go_roundw
            case rel => exact ⟨p + 1, by omega, by go_num, HDW.out, HMW.out⟩
            case measure => simp [intOf]; omega
          · obtain rfl : p = 8 := by omega
            have HDS := Lib.hid hd; have HMS := Lib.hid hm
            clear hd hm
            go_wp2
            go_roundw
            case rel => exact ⟨k + 1, by omega, by go_num, _, _, HDS.out, HL2.out, HMS.out⟩
            case measure => simp [intOf]; omega
      · have hop1 : decide (op = 2) = false := decide_eq_false hop
        have hop2 : (op == 2) = false := by rw [beq_eq_false_iff_ne]; exact hop
        go_wp2_with fail
        rename World => wOld
        go_loopw [7] (fun i wr2 => ∃ p : Nat, p ≤ 8 ∧ i = .int .i64 p ∧ DS w1 wr2 w1.heap.size g d1 ∧ Mb wr2 gl 28 (L.set q cb)) (fun i _ => 8 - (intOf i).toNat)
        case atStart => exact ⟨0, by omega, rfl, HDS.out, HMS.out⟩
        case round =>
          obtain ⟨p, hp, rfl, hd, hm⟩ := hrel
          by_cases hlt2 : p < 8
          · have hcon := ds_read hd (by have := HL1.out.ca; omega) p (by simp [Lit.wf, IntKind.min, IntKind.max, IntKind.signed, IntKind.bits]; omega)
            have hpl : p < (L.set q cb).length := by rw [List.length_set, hL8]; exact hlt2
            rw [DevMath.read_val _ _ HL1.out.off (HL1.out.has p hlt2), HL1.out.val p hpl] at hcon
            obtain ⟨hcl, hfz⟩ := hm.cell p hpl
            generalize (L.set q cb)[p]'hpl = cx at hcon hcl
            have hcon := Lib.hid hcon; have HM2 := Lib.hid hm
            clear hd hm hpl HDS HMS
            have hltI : (p : Int) < 8 := by omega
            have hwp : IntKind.i64.wrap ((p : Int) + 1) = ((p + 1 : Nat) : Int) := by rw [IntKind.wrap_i64]; omega
            go_wp2_with fail
            refine hcon.out.mono ?_
            rintro e w6 ⟨v, rfl, hs6, hd6, hb6⟩
            obtain ⟨A6, c6, rfl, hc6, hr6⟩ := hs6.rd
            have hlen6 : ((some (DevMath.sec cx)).getD []).length = 512 := DevMath.sec_len cx
            rw [hlen6] at hs6 hc6 ⊢
            have hs6' : Sl w6 (.slice A6 512 c6) (DevMath.sec cx) := hs6
            have hm6 : Mb w6 gl 28 (L.set q cb) := by
              obtain ⟨h0, cur, h1, h2⟩ := HM2.out
              exact ⟨h0, cur, (hb6.block _ (Array.getElem?_eq_some_iff.1 h1).1).trans h1, h2⟩
            have hcl6 : w6.cell? ⟨gl, p, none⟩ = some (.int .u8 (cx.toNat : Int)) := cell_below hb6 hcl
            have HD6 := Lib.hid hd6; have HM6 := Lib.hid hm6
            have HC : Hid (∀ W, Gr w6.heap.size w6.drew W → W.cell? ⟨gl, p, none⟩ = some (.int .u8 (cx.toNat : Int))) := Lib.hid fun W hW => cell_below (Below.trans (Below.drew (Below.refl w6.heap.size w6)) hW.1) hcl6
            have HCs : Hid (∀ W, Gr w6.heap.size w6.drew W → (convert 33 9 (.slice A6 512 c6)).run Try.prog W = .ok (.string ⟨(DevMath.sec cx).toArray⟩) W) := Lib.hid fun W hW => (hs6'.below (Below.trans (Below.drew (Below.refl w6.heap.size w6)) hW.1)).str
            clear hs6 hs6' hd6 hb6 hr6 hm6 hcl6 hcl hfz hlen6 hcon HM2
            go_wp2_with fail
            refine wp_region_tbl _ (lastTbl2 cx) (w6.heap.size) (by kernel_rfl) (by kernel_rfl) (by kernel_rfl) ?_
            repeat (first
              | (refine wpR_plain ?_ (by rfl) (fun K hK => ?_); (focus (first | (simp only [Region.wanted]; done) | (go_simp; done))); apply Exists.intro; refine ⟨fun W hW => ?_, ?_⟩; (go_simp; (try simp only [plainUpon_value, true_and]); rfl); go_simp; refine hK _ ?_; clear hK K)
              | (refine wpR_plain ?_ (by rfl) (fun K hK => ?_); (focus (first | (simp only [Region.wanted]; done) | (go_simp; done))); apply Exists.intro; refine ⟨fun W hW => ?_, ?_⟩; (have hcw := HC.out W hW; go_simp; (try simp only [plainUpon_value, true_and]); rfl); go_simp; refine hK _ ?_; clear hK K)
              | (refine wpR_val (by rfl) ?_ (fun W hW hF => ?_) (fun K hK => ?_); (focus (first | (simp only [Region.wanted]; done) | (go_simp; done))); (have hcw := HCs.out W hW; go_simp; (try simp only [relUpon_value]); (first | exact ⟨Gr.refl _ _, rfl⟩ | exact ⟨Gr.refl _ _, trivial⟩)); go_simp; refine hK _ ?_; clear hK K)
              | (refine wpR_prop (by rfl) ?_ (fun W hW hF => ?_) (fun K v hv hK => ?_); (focus (first | (simp only [Region.wanted]; done) | (go_simp; done))); (go_simp; simp only [relUpon_enter]; exact sect_rel W _ cx rfl hW.size); obtain ⟨A8, c8, rfl, hc8⟩ := hv; go_simp; refine hK _ ?_; clear hK K)
              | (refine wpR_val (by rfl) ?_ (fun W hW hF => ?_) (fun K hK => ?_); (focus (first | (simp only [Region.wanted]; done) | (go_simp; done))); (have hcw := (show Sl W (.slice A8 512 c8) (DevMath.sec cx) from hF 8 rfl).str; go_simp; (try simp only [relUpon_value]); (first | exact ⟨Gr.refl _ _, rfl⟩ | exact ⟨Gr.refl _ _, trivial⟩)); go_simp; refine hK _ ?_; clear hK K))
            refine wpR_nil (fun W hW hF => ?_)
            have hbW := Below.trans (Below.drew (Below.refl w6.heap.size w6)) hW.1
            have HDW := Lib.hid (HD6.out.below hbW)
            have HMW : Hid (Mb W gl 28 (L.set q cb)) := Lib.hid (by
              obtain ⟨h0, cur, h1, h2⟩ := HM6.out
              exact ⟨h0, cur, (hbW.block _ (Array.getElem?_eq_some_iff.1 h1).1).trans h1, h2⟩)
            clear hF hW hbW HC HCs HD6 HM6
            go_wp2
            go_roundw
            case rel => exact ⟨p + 1, by omega, by go_num, HDW.out, HMW.out⟩
            case measure => simp [intOf]; omega
          · obtain rfl : p = 8 := by omega
            have HDS := Lib.hid hd; have HMS := Lib.hid hm
            clear hd hm
            go_wp2
            go_roundw
            case rel => exact ⟨k + 1, by omega, by go_num, _, _, HDS.out, HL1.out, HMS.out⟩
            case measure => simp [intOf]; omega
    · obtain rfl : k = n := by omega
      have HB := Lib.hid (below_then HB1.out HB1.out.size hd.bel)
      clear hd hm hL
      go_wp2
      go_ret
      exact ⟨rfl, HB.out⟩
set_option maxRecDepth 20000 in
theorem DevLast_walk (A : Option Addr) (c : Nat) (xs : List ActD) (w : World) (hr : Row KAct 5 w A xs) (hc : xs.length ≤ c) (hl : xs.length * 56 ≤ 140737488351232) :
    Calls Try.prog 3 #[.slice A xs.length c] w fun e w' => e = .returned (.bool true) ∧ Below w.heap.size w w' := by
  by_cases h : xs.length ≤ 40
  · exact DevLast_ok A c xs w hr hc h
  · clear hr
    generalize xs.length = n at *
    have h1 : 40 < n := by omega
    clear h
    go_enter Try.func3, Try.ntmps3
    go_wp2_with fail
    refine (awake4_any _).mono ?_
    rintro e w1 ⟨rfl, hb1⟩
    have HB1 := Lib.hid hb1
    clear hb1
    go_wp2_with fail
    go_ret
    exact ⟨rfl, HB1.out⟩
end Go.Proofs.Ytbpecfbliglboaa
