/- Encode. -/
import Derived.Test.YtgaccogekmaijaaKvNum
namespace KvMath
def encP (x : ByteArray × List UInt8 × Bool) : List UInt8 := if x.2.2 then [0] ++ numB x.1.size 2 ++ x.1.data.toList else [1] ++ numB x.1.size 2 ++ x.1.data.toList ++ numB x.2.1.length 4 ++ x.2.1
def encB (xs : List (ByteArray × List UInt8 × Bool)) : List UInt8 := xs.flatMap encP
theorem encB_snoc (xs : List (ByteArray × List UInt8 × Bool)) (x : ByteArray × List UInt8 × Bool) : encB (xs ++ [x]) = encB xs ++ encP x := by simp [encB]
theorem encP_len (x : ByteArray × List UInt8 × Bool) (h1 : x.1.size ≤ 200) (h2 : x.2.1.length ≤ 200000) : 1 ≤ (encP x).length ∧ (encP x).length ≤ 200300 := by
  have hs : x.1.data.toList.length = x.1.size := by rw [Array.length_toList]; rfl
  unfold encP
  split <;> simp only [List.length_append, numB_len, hs, List.length_cons, List.length_nil] <;> omega
theorem encB_len (xs : List (ByteArray × List UInt8 × Bool)) (h : ∀ x ∈ xs, x.1.size ≤ 200 ∧ x.2.1.length ≤ 200000) : xs.length ≤ (encB xs).length ∧ (encB xs).length ≤ xs.length * 200300 := by
  induction xs with
  | nil => exact ⟨Nat.le_refl _, Nat.le_refl _⟩
  | cons x xs ih =>
    have h1 := ih (fun y hy => h y (List.mem_cons_of_mem _ hy))
    have h2 := encP_len x (h x (List.mem_cons_self ..)).1 (h x (List.mem_cons_self ..)).2
    have e : encB (x :: xs) = encP x ++ encB xs := by simp [encB]
    rw [e, List.length_append, List.length_cons]
    omega
end KvMath
namespace Go.Proofs.Ytgaccogekmaijaa
open Go.RowKit
set_option linter.unusedVariables false
set_option linter.unusedSimpArgs false
attribute [local irreducible] wpR relOp Stu.wpR Stu.relOp
theorem Ob.shpn {W : World} {base e : Nat} {v : Value} {l : List UInt8} (h : Ob W base e v l) {n : Nat} (hn : l.length = n) : ∃ A c, v = .slice A n c ∧ n ≤ c := by
  obtain ⟨A, c, rfl, h1, _⟩ := h.rd
  subst hn
  exact ⟨_, _, rfl, h1⟩
def svO (base n : Nat) (l : List UInt8) : Stu.SpU (TS base) (Gs base) := ⟨true, fun _ v => ∃ A c, v = .slice A n c ∧ n ≤ c, fun _ _ _ => True, fun v W => Ob W base 5 v l, fun _ _ _ _ _ _ => trivial, fun _ _ _ h hg => h.below hg.1⟩
def slO (base : Nat) (b : UInt8) : Stu.SpU (TS base) (Gs base) := ⟨false, fun _ v => ∃ g, v = .slice (some ⟨g, 0, none⟩) 1 1, fun _ v W => ∃ g, v = .slice (some ⟨g, 0, none⟩) 1 1 ∧ W.heap[g]? = some (.cells #[.int .u8 (b.toNat : Int)] 5), fun _ _ => True, fun _ _ W W' h hg => by
  obtain ⟨g, h1, h3⟩ := h
  exact ⟨g, h1, hg.2 _ _ _ _ (.inr (by simp)) h3⟩, fun _ _ _ _ _ => trivial⟩
theorem appb_rel {o : Oper} {a : Act} {W : World} {base m c nn : Nat} {v : Value} {l news : List UInt8} {A : Option Addr} {s x : Operand}
    (ho : o.op = .call { callee := .builtin .append, args := #[s, x], argTypes := #[32, 32] }) (hty : o.type = 32) (hs : a.eval s = v) (hx : a.eval x = .slice A m c)
    (HO : Ob W base 5 v l) (hz : l = [] → v = .slice none 0 0) (HR : Rd W A news) (hm : m = news.length) (hB : base ≤ W.heap.size) (hlen : l.length + news.length ≤ 1000000000) {l2 : List UInt8} (hl2 : l2 = l ++ news) (hnn : l2.length = nn) :
    Stu.relUpon Try.prog (TS base) W (fun v W' => ((∃ A c, v = .slice A nn c ∧ nn ≤ c) ∧ True) ∧ Ob W' base 5 v l2) ((execOp a.eval o).run Try.prog W) := by
  subst hl2
  obtain ⟨v', W', hr, ho2, hts⟩ := appb_run (c := c) HO hz HR hm hB hlen
  unfold execOp
  simp only [ho, hty, resolve, invoke, builtin, Sem.run_bind, Sem.run_pure, Result.andThen_ok, List.map_toArray, List.map_cons, List.map_nil, hs, hx, hr]
  exact ⟨hts, ⟨ho2.shpn hnn, trivial⟩, ho2⟩
theorem apps_rel {o : Oper} {a : Act} {W : World} {base nn : Nat} {v : Value} {l : List UInt8} {k : ByteArray} {s x : Operand}
    (ho : o.op = .call { callee := .builtin .append, args := #[s, x], argTypes := #[32, 9] }) (hty : o.type = 32) (hs : a.eval s = v) (hx : a.eval x = .string k)
    (HO : Ob W base 5 v l) (hl : 1 ≤ l.length) (hB : base ≤ W.heap.size) (hlen : l.length + k.size ≤ 1000000000) {l2 : List UInt8} (hl2 : l2 = l ++ k.data.toList) (hnn : l2.length = nn) :
    Stu.relUpon Try.prog (TS base) W (fun v W' => ((∃ A c, v = .slice A nn c ∧ nn ≤ c) ∧ True) ∧ Ob W' base 5 v l2) ((execOp a.eval o).run Try.prog W) := by
  subst hl2
  obtain ⟨v', W', hr, ho2, hts⟩ := apps_run HO hl hB hlen
  unfold execOp
  simp only [ho, hty, resolve, invoke, builtin, Sem.run_bind, Sem.run_pure, Result.andThen_ok, List.map_toArray, List.map_cons, List.map_nil, hs, hx, hr]
  exact ⟨hts, ⟨ho2.shpn hnn, trivial⟩, ho2⟩
theorem num_rel {W : World} {base nn n size : Nat} {v : Value} {l : List UInt8} (HO : Ob W base 5 v l) (hl : 1 ≤ l.length) (hB : base ≤ W.heap.size) (hn : n ≤ 1000000) (hs : size ≤ 4) (hlen : l.length ≤ 900000000) {l2 : List UInt8} (hl2 : l2 = l ++ KvMath.numB n size) (hnn : l2.length = nn) :
    Calls Try.prog 33 #[v, .int .i64 n, .int .i64 size] W fun e w' => ∃ v, e = .returned v ∧ TS base W w' ∧ ((∃ A c, v = .slice A nn c ∧ nn ≤ c) ∧ True) ∧ Ob w' base 5 v l2 := by
  subst hl2
  refine (kv_number W base v l n size HO hl hB hn hs hlen).mono ?_
  rintro e w1 ⟨v', rfl, h1, h2⟩
  exact ⟨_, rfl, h2, ⟨h1.shpn hnn, trivial⟩, h1⟩
set_option maxRecDepth 20000 in
set_option maxHeartbeats 4000000 in
theorem kv_encode (w : World) (A : Option Addr) (c : Nat) (xs : List PutD) (hr : Row KPut 3 w A xs) (hl : xs.length ≤ c) (hn : xs.length ≤ 1000) :
    Calls Try.prog 17 #[.slice A xs.length c] w fun e w' => ∃ v, e = .returned v ∧ Ob w' w.heap.size 5 v (if xs.all PutD.good then KvMath.encB (xs.map PutD.ent) else []) ∧ Below w.heap.size w w' := by
  have hal := kv_all w A c xs hr hl (by omega)
  obtain ⟨n, hnn⟩ : ∃ n, n = xs.length := ⟨_, rfl⟩
  rw [← hnn] at hl hn hal ⊢
  have HN := Lib.hid hnn; have HR := Lib.hid hr
  have hal := Lib.hid hal
  clear hnn hr
  cases hg : xs.all PutD.good with
  | false =>
    rw [hg] at hal
    rw [if_neg (by decide)]
    clear hg
    go_enter Try.func17, Try.ntmps17
    go_wp2_with fail
    refine hal.out.mono ?_
    rintro e w1 ⟨rfl, hb⟩
    have HB := Lib.hid hb
    clear hb hal
    go_wp2
    go_ret
    exact ⟨_, rfl, Ob.nil _ _ _, HB.out⟩
  | true =>
    rw [hg] at hal
    rw [if_pos rfl]
    have HG := Lib.hid hg
    clear hg
    go_enter Try.func17, Try.ntmps17
    go_wp2_with fail
    refine hal.out.mono ?_
    rintro e w1 ⟨rfl, hb⟩
    have HB := Lib.hid hb
    clear hb hal
    go_wp2_with fail
    rename World => wA
    go_loopw [3, 11] (fun vb i wr => ∃ p : Nat, p ≤ n ∧ i = .int .i64 p ∧ Ob wr w.heap.size 5 vb (KvMath.encB ((xs.take p).map PutD.ent)) ∧ (KvMath.encB ((xs.take p).map PutD.ent) = [] → vb = .slice none 0 0) ∧ Below w.heap.size w wr) (fun _ i _ => n - (intOf i).toNat)
    case atStart => exact ⟨0, by omega, rfl, Ob.nil _ _ _, fun _ => rfl, HB.out⟩
    case round =>
      rename World => wL
      obtain ⟨p, hp, rfl, ho, hz, hb⟩ := hrel
      clear HB
      have hgood : ∀ x ∈ xs, x.key.size ≤ 200 ∧ x.val.length ≤ 200000 := fun x hx => by
        have := List.all_eq_true.1 HG.out x hx
        simp only [PutD.good, Bool.and_eq_true, decide_eq_true_eq] at this
        exact ⟨this.1.1.2, this.1.2⟩
      have hle := (KvMath.encB_len ((xs.take p).map PutD.ent) (fun y hy => by
        obtain ⟨x, hx, rfl⟩ := List.mem_map.1 hy
        exact hgood x (List.mem_of_mem_take hx))).2
      rw [List.length_map, List.length_take] at hle
      by_cases hlt : p < n
      · have hpx : p < xs.length := by rw [← HN.out]; exact hlt
        have hxg := hgood xs[p] (List.getElem_mem hpx)
        have hta : KvMath.encB ((xs.take (p + 1)).map PutD.ent) = KvMath.encB ((xs.take p).map PutD.ent) ++ KvMath.encP (xs[p].key, xs[p].val, xs[p].gone) := by
          rw [List.take_add_one, List.getElem?_eq_getElem hpx]
          simp only [Option.toList, List.map_append, List.map_cons, List.map_nil]
          rw [KvMath.encB_snoc]
          rfl
        obtain ⟨a, Aj, cj, rfl, c0, c1, c2, hcj, hrd, _⟩ := put_at HR.out p hpx
        replace c0 := cell_below hb c0
        replace c1 := cell_below hb c1
        replace c2 := cell_below hb c2
        generalize xs[p] = x at *
        generalize KvMath.encB ((xs.take p).map PutD.ent) = b at *
        obtain ⟨xk, xv, xg⟩ := x
        dsimp only at *
        obtain ⟨bl, hbl⟩ : ∃ bl, bl = b.length := ⟨_, rfl⟩
        obtain ⟨A0, c00, hvb, hc00, _⟩ := ho.rd
        rw [← hbl] at hvb hc00
        subst hvb
        obtain ⟨nv, hnv⟩ : ∃ nv, nv = xv.length := ⟨_, rfl⟩
        rw [← hnv] at c1 hcj
        have hks : xk.data.toList.length = xk.size := by rw [Array.length_toList]; rfl
        have hbl9 : bl ≤ 250000000 := by
          have : min p xs.length ≤ 1000 := by omega
          have := Nat.mul_le_mul_right 200300 this
          omega
        have HBL := Lib.hid hbl; have HNV := Lib.hid hnv; have HKS := Lib.hid hks; have HZ := Lib.hid hz; have HTA := Lib.hid hta
        have hwp : IntKind.i64.wrap ((p : Int) + 1) = ((p + 1 : Nat) : Int) := by rw [IntKind.wrap_i64]; omega
        have hBw : w.heap.size ≤ wL.heap.size := hb.size
        obtain ⟨k1, k2⟩ := hxg
        rw [← hnv] at k2
        obtain ⟨W1, hW1⟩ : ∃ W1, W1 = wL.alloc (.cells #[.string xk, .slice Aj nv cj, .bool xg] 38) := ⟨_, rfl⟩
        have hb1 : Below wL.heap.size wL W1 := by rw [hW1]; exact (Below.refl _ wL).alloc (Nat.le_refl _) _
        have hx1 := heap_new wL (.cells #[.string xk, .slice Aj nv cj, .bool xg] 38) wL.heap.size rfl
        have x2 : (wL.alloc (.cells #[.string xk, .slice Aj nv cj, .bool xg] 38)).cell? ⟨wL.heap.size, 2, none⟩ = some (.bool xg) := by rw [cell_of_row _ wL.heap.size 2 _ _ _ hx1]; rfl
        have hB1 : w.heap.size ≤ W1.heap.size := Nat.le_trans hBw hb1.size
        have hbw1 : Below w.heap.size w W1 := below_then hb hBw hb1
        have hx1W : W1.heap[wL.heap.size]? = some (.cells #[.string xk, .slice Aj nv cj, .bool xg] 38) := by rw [hW1]; exact hx1
        have HX1 := Lib.hid hx1W
        have HO1 := Lib.hid (ho.below hb1)
        have HRd : Hid (∀ W, Below w.heap.size w W → Rd W Aj xv) := Lib.hid fun W hW => hrd.below hW
        have HBW1 := Lib.hid hbw1
        have hdr : ∀ W, TS w.heap.size W1.drew W → TS w.heap.size W1 W := fun W hW => (Gs.ts _ _ ⟨Below.drew (Below.refl _ W1), hB1⟩).trans _ _ _ hW
        have HC : Hid (∀ W, TS w.heap.size W1.drew W → W.cell? ⟨wL.heap.size, 0, none⟩ = some (.string xk) ∧ W.cell? ⟨wL.heap.size, 1, none⟩ = some (.slice Aj nv cj) ∧ W.cell? ⟨wL.heap.size, 2, none⟩ = some (.bool xg)) := Lib.hid fun W hW => by
          have hh := (hdr W hW).2 _ _ _ _ (.inl (by decide)) HX1.out
          exact ⟨by rw [cell_of_row _ wL.heap.size 0 _ _ _ hh]; rfl, by rw [cell_of_row _ wL.heap.size 1 _ _ _ hh]; rfl, by rw [cell_of_row _ wL.heap.size 2 _ _ _ hh]; rfl⟩
        have HSz : Hid (∀ W, TS w.heap.size W1.drew W → w.heap.size ≤ W.heap.size) := Lib.hid fun W hW => Nat.le_trans hB1 (hdr W hW).1.size
        have HBWW : Hid (∀ W, TS w.heap.size W1.drew W → Below w.heap.size w W) := Lib.hid fun W hW => HBW1.out.trans (hdr W hW).1
        have HDR := Lib.hid hdr
        have HW1 := Lib.hid hW1
        clear ho hz hta hbl hnv hks hrd hle hgood hb hb1 hx1 hx1W hbw1 hdr hW1 hpx
        have HB' : Hid (w.heap.size ≤ W1.heap.size) := Lib.hid hB1
        cases xg with
        | true =>
          obtain ⟨b1, hb1⟩ : ∃ b1, b1 = b ++ [0] := ⟨_, rfl⟩
          obtain ⟨b2, hb2⟩ : ∃ b2, b2 = b1 ++ KvMath.numB xk.size 2 := ⟨_, rfl⟩
          obtain ⟨b3, hb3⟩ : ∃ b3, b3 = b2 ++ xk.data.toList := ⟨_, rfl⟩
          have hl1 : b1.length = bl + 1 := by rw [hb1, List.length_append, ← HBL.out]; rfl
          have hl2 : b2.length = bl + 3 := by rw [hb2, List.length_append, hl1, KvMath.numB_len]
          have hl3 : b3.length = bl + 3 + xk.size := by rw [hb3, List.length_append, hl2, HKS.out]
          have H1 := Lib.hid hb1; have H2 := Lib.hid hb2; have H3 := Lib.hid hb3
          have L1 := Lib.hid hl1; have L2 := Lib.hid hl2; have L3 := Lib.hid hl3
          have HNe : Hid (KvMath.encB ((xs.take (p + 1)).map PutD.ent) = b3) := Lib.hid (by rw [HTA.out, hb3, hb2, hb1]; unfold KvMath.encP; simp [List.append_assoc])
          clear hb1 hb2 hb3 hl1 hl2 hl3
          go_wp2_with fail
          rw [← HW1.out]
          refine Stu.wp_region_stu _ (Stu.mkT [(1, slO w.heap.size 0), (2, svO w.heap.size (bl + 1) b1), (6, svO w.heap.size (bl + 3) b2), (9, svO w.heap.size (bl + 3 + xk.size) b3)]) (fun W => Ob W w.heap.size 5 (.slice A0 bl c00) b) [2, 6, 9] (TS.refl _) TS.trans Gs.ts (fun _ _ h hg => h.below hg.1) (HO1.out.below (Below.drew (Below.refl _ _))) (Stu.mkT_ks _ (by show List.Nodup [1, 2, 6, 9]; decide) _ rfl) (by kernel_rfl) (by kernel_rfl) (by kernel_rfl) ?_
          repeat (first
            | (refine Stu.wpR_plain ?_ (by rfl) (by rfl) (fun K hK => ?_); (focus (first | (simp only [Region.wanted]; done) | (go_simp; done))); apply Exists.intro; refine ⟨fun W hW => ?_, ?_⟩; (go_simp; (try simp only [Stu.plainUpon_value, true_and]); rfl); go_simp; refine hK _ ?_; clear hK K)
            | (refine Stu.wpR_plain ?_ (by rfl) (by rfl) (fun K hK => ?_); (focus (first | (simp only [Region.wanted]; done) | (go_simp; done))); apply Exists.intro; refine ⟨fun W hW => ?_, ?_⟩; (have hcw := HC.out W hW; go_simp; (try simp only [Stu.plainUpon_value, true_and]); rfl); go_simp; refine hK _ ?_; clear hK K)
            | (refine Stu.wpR_spg (by rfl) (by rfl) ?_ ?_ (fun W hW hF => ?_) (fun K v hv hK => ?_); (focus (first | (simp only [Region.wanted]; done) | (go_simp; done))); (focus (exact ⟨_, 0, rfl⟩)); (go_simp; exact ⟨⟨(Below.refl _ W).alloc (Nat.le_refl _) _, HSz.out W hW⟩, ⟨_, rfl⟩, ⟨_, rfl, heap_new _ _ _ rfl⟩⟩); (obtain ⟨g2, rfl⟩ := hv); go_simp; refine hK _ ?_; clear hK K)
            | (refine Stu.wpR_spu (by rfl) (by rfl) ?_ ?_ (fun W hW hU hF => ?_) (fun K v hv hK => ?_); (focus (first | (simp only [Region.wanted]; done) | (go_simp; done))); (focus (exact ⟨_, none, _, rfl, Nat.le_refl _⟩)); (obtain ⟨g', e1, e3⟩ := (show (slO w.heap.size 0).q [] (.slice (some ⟨g2, 0, none⟩) 1 1) W from hF 1 rfl); cases e1; exact appb_rel rfl rfl rfl rfl hU HZ.out (Rd.of_block (l := [0]) e3 (by simp)) rfl (HSz.out W hW) (by rw [← HBL.out]; simp; omega) H1.out L1.out); (obtain ⟨A2, c2', rfl, hc2'⟩ := hv); go_simp; refine hK _ ?_; clear hK K)
            | (refine Stu.wpR_spu (by rfl) (by rfl) ?_ ?_ (fun W hW hU hF => ?_) (fun K v hv hK => ?_); (focus (first | (simp only [Region.wanted]; done) | (go_simp; done))); (focus (exact ⟨_, none, _, rfl, Nat.le_refl _⟩)); (go_simp; simp only [Stu.relUpon_enter]; exact num_rel hU (by rw [L1.out]; omega) (HSz.out W hW) (by omega) (by decide) (by rw [L1.out]; omega) H2.out L2.out); (obtain ⟨A6, c6', rfl, hc6'⟩ := hv); go_simp; refine hK _ ?_; clear hK K)
            | (refine Stu.wpR_spu (by rfl) (by rfl) ?_ ?_ (fun W hW hU hF => ?_) (fun K v hv hK => ?_); (focus (first | (simp only [Region.wanted]; done) | (go_simp; done))); (focus (exact ⟨_, none, _, rfl, Nat.le_refl _⟩)); (exact apps_rel (v := .slice A6 (bl + 3) c6') (l := b2) (base := w.heap.size) rfl rfl rfl rfl hU (by rw [L2.out]; omega) (HSz.out W hW) (by rw [L2.out]; omega) H3.out L3.out); (obtain ⟨A9, c9', rfl, hc9'⟩ := hv); go_simp; refine hK _ ?_; clear hK K))
          refine Stu.wpR_nil (fun W hW hU hF => ?_)
          have ho3 : Ob W w.heap.size 5 (.slice A9 (bl + 3 + xk.size) c9') b3 := hU
          have HO3 := Lib.hid ho3
          have HB3 := Lib.hid (HBWW.out W hW)
          clear hF hW hU HC HSz HBWW HDR ho3 x2 c0 c1 c2
          go_wp2
          go_roundw
          case rel =>
            refine ⟨p + 1, by omega, by go_num, by rw [HNe.out]; exact HO3.out, fun e => ?_, HB3.out⟩
            rw [HNe.out] at e
            have := L3.out
            rw [e] at this
            simp at this
            omega
          case measure => simp [intOf]; omega
        | false =>
          obtain ⟨b1, hb1⟩ : ∃ b1, b1 = b ++ [1] := ⟨_, rfl⟩
          obtain ⟨b2, hb2⟩ : ∃ b2, b2 = b1 ++ KvMath.numB xk.size 2 := ⟨_, rfl⟩
          obtain ⟨b3, hb3⟩ : ∃ b3, b3 = b2 ++ xk.data.toList := ⟨_, rfl⟩
          obtain ⟨b4, hb4⟩ : ∃ b4, b4 = b3 ++ KvMath.numB nv 4 := ⟨_, rfl⟩
          obtain ⟨b5, hb5⟩ : ∃ b5, b5 = b4 ++ xv := ⟨_, rfl⟩
          have hl1 : b1.length = bl + 1 := by rw [hb1, List.length_append, ← HBL.out]; rfl
          have hl2 : b2.length = bl + 3 := by rw [hb2, List.length_append, hl1, KvMath.numB_len]
          have hl3 : b3.length = bl + 3 + xk.size := by rw [hb3, List.length_append, hl2, HKS.out]
          have hl4 : b4.length = bl + 7 + xk.size := by rw [hb4, List.length_append, hl3, KvMath.numB_len]; omega
          have hl5 : b5.length = bl + 7 + xk.size + nv := by rw [hb5, List.length_append, hl4, HNV.out]
          have H1 := Lib.hid hb1; have H2 := Lib.hid hb2; have H3 := Lib.hid hb3; have H4 := Lib.hid hb4; have H5 := Lib.hid hb5
          have L1 := Lib.hid hl1; have L2 := Lib.hid hl2; have L3 := Lib.hid hl3; have L4 := Lib.hid hl4; have L5 := Lib.hid hl5
          have HNe : Hid (KvMath.encB ((xs.take (p + 1)).map PutD.ent) = b5) := Lib.hid (by rw [HTA.out, hb5, hb4, hb3, hb2, hb1, HNV.out]; unfold KvMath.encP; simp [List.append_assoc])
          clear hb1 hb2 hb3 hb4 hb5 hl1 hl2 hl3 hl4 hl5
          go_wp2_with fail
          rw [← HW1.out]
          refine Stu.wp_region_stu _ (Stu.mkT [(1, slO w.heap.size 1), (2, svO w.heap.size (bl + 1) b1), (6, svO w.heap.size (bl + 3) b2), (9, svO w.heap.size (bl + 3 + xk.size) b3)]) (fun W => Ob W w.heap.size 5 (.slice A0 bl c00) b) [2, 6, 9] (TS.refl _) TS.trans Gs.ts (fun _ _ h hg => h.below hg.1) (HO1.out.below (Below.drew (Below.refl _ _))) (Stu.mkT_ks _ (by show List.Nodup [1, 2, 6, 9]; decide) _ rfl) (by kernel_rfl) (by kernel_rfl) (by kernel_rfl) ?_
          repeat (first
            | (refine Stu.wpR_plain ?_ (by rfl) (by rfl) (fun K hK => ?_); (focus (first | (simp only [Region.wanted]; done) | (go_simp; done))); apply Exists.intro; refine ⟨fun W hW => ?_, ?_⟩; (go_simp; (try simp only [Stu.plainUpon_value, true_and]); rfl); go_simp; refine hK _ ?_; clear hK K)
            | (refine Stu.wpR_plain ?_ (by rfl) (by rfl) (fun K hK => ?_); (focus (first | (simp only [Region.wanted]; done) | (go_simp; done))); apply Exists.intro; refine ⟨fun W hW => ?_, ?_⟩; (have hcw := HC.out W hW; go_simp; (try simp only [Stu.plainUpon_value, true_and]); rfl); go_simp; refine hK _ ?_; clear hK K)
            | (refine Stu.wpR_spg (by rfl) (by rfl) ?_ ?_ (fun W hW hF => ?_) (fun K v hv hK => ?_); (focus (first | (simp only [Region.wanted]; done) | (go_simp; done))); (focus (exact ⟨_, 0, rfl⟩)); (go_simp; exact ⟨⟨(Below.refl _ W).alloc (Nat.le_refl _) _, HSz.out W hW⟩, ⟨_, rfl⟩, ⟨_, rfl, heap_new _ _ _ rfl⟩⟩); (obtain ⟨g2, rfl⟩ := hv); go_simp; refine hK _ ?_; clear hK K)
            | (refine Stu.wpR_spu (by rfl) (by rfl) ?_ ?_ (fun W hW hU hF => ?_) (fun K v hv hK => ?_); (focus (first | (simp only [Region.wanted]; done) | (go_simp; done))); (focus (exact ⟨_, none, _, rfl, Nat.le_refl _⟩)); (obtain ⟨g', e1, e3⟩ := (show (slO w.heap.size 1).q [] (.slice (some ⟨g2, 0, none⟩) 1 1) W from hF 1 rfl); cases e1; exact appb_rel rfl rfl rfl rfl hU HZ.out (Rd.of_block (l := [1]) e3 (by simp)) rfl (HSz.out W hW) (by rw [← HBL.out]; simp; omega) H1.out L1.out); (obtain ⟨A2, c2', rfl, hc2'⟩ := hv); go_simp; refine hK _ ?_; clear hK K)
            | (refine Stu.wpR_spu (by rfl) (by rfl) ?_ ?_ (fun W hW hU hF => ?_) (fun K v hv hK => ?_); (focus (first | (simp only [Region.wanted]; done) | (go_simp; done))); (focus (exact ⟨_, none, _, rfl, Nat.le_refl _⟩)); (go_simp; simp only [Stu.relUpon_enter]; exact num_rel hU (by rw [L1.out]; omega) (HSz.out W hW) (by omega) (by decide) (by rw [L1.out]; omega) H2.out L2.out); (obtain ⟨A6, c6', rfl, hc6'⟩ := hv); go_simp; refine hK _ ?_; clear hK K)
            | (refine Stu.wpR_spu (by rfl) (by rfl) ?_ ?_ (fun W hW hU hF => ?_) (fun K v hv hK => ?_); (focus (first | (simp only [Region.wanted]; done) | (go_simp; done))); (focus (exact ⟨_, none, _, rfl, Nat.le_refl _⟩)); (exact apps_rel (v := .slice A6 (bl + 3) c6') (l := b2) (base := w.heap.size) rfl rfl rfl rfl hU (by rw [L2.out]; omega) (HSz.out W hW) (by rw [L2.out]; omega) H3.out L3.out); (obtain ⟨A9, c9', rfl, hc9'⟩ := hv); go_simp; refine hK _ ?_; clear hK K))
          refine Stu.wpR_nil (fun W hW hU hF => ?_)
          have ho3 : Ob W w.heap.size 5 (.slice A9 (bl + 3 + xk.size) c9') b3 := hU
          obtain ⟨V, hV⟩ : ∃ V, V = W := ⟨_, rfl⟩
          rw [← hV] at ho3 hW ⊢
          have hVd : ∀ W, TS w.heap.size V.drew W → TS w.heap.size W1.drew W := fun W' h => hW.trans _ _ _ ((Gs.ts _ _ ⟨Below.drew (Below.refl _ V), HSz.out V hW⟩).trans _ _ _ h)
          have HC2 : Hid (∀ W, TS w.heap.size V.drew W → W.cell? ⟨wL.heap.size, 1, none⟩ = some (.slice Aj nv cj)) := Lib.hid fun W' h => (HC.out W' (hVd W' h)).2.1
          have HSz2 : Hid (∀ W, TS w.heap.size V.drew W → w.heap.size ≤ W.heap.size) := Lib.hid fun W' h => HSz.out W' (hVd W' h)
          have HBW2 : Hid (∀ W, TS w.heap.size V.drew W → Below w.heap.size w W) := Lib.hid fun W' h => HBWW.out W' (hVd W' h)
          have HRd2 : Hid (∀ W, TS w.heap.size V.drew W → Rd W Aj xv) := Lib.hid fun W' h => HRd.out W' (by have := HBWW.out W' (hVd W' h); exact this)
          have HO3 := Lib.hid ho3
          clear hF hW hU HC HSz HBWW HDR ho3 x2 c0 c1 c2 hV hVd W
          go_wp2_with fail
          refine Stu.wp_region_stu _ (Stu.mkT [(4, svO w.heap.size (bl + 7 + xk.size) b4), (7, svO w.heap.size (bl + 7 + xk.size + nv) b5)]) (fun W => Ob W w.heap.size 5 (.slice A9 (bl + 3 + xk.size) c9') b3) [4, 7] (TS.refl _) TS.trans Gs.ts (fun _ _ h hg => h.below hg.1) (HO3.out.below (Below.drew (Below.refl _ _))) (Stu.mkT_ks _ (by show List.Nodup [4, 7]; decide) _ rfl) (by kernel_rfl) (by kernel_rfl) (by kernel_rfl) ?_
          repeat (first
            | (refine Stu.wpR_plain ?_ (by rfl) (by rfl) (fun K hK => ?_); (focus (first | (simp only [Region.wanted]; done) | (go_simp; done))); apply Exists.intro; refine ⟨fun W hW => ?_, ?_⟩; (go_simp; (try simp only [Stu.plainUpon_value, true_and]); rfl); go_simp; refine hK _ ?_; clear hK K)
            | (refine Stu.wpR_plain ?_ (by rfl) (by rfl) (fun K hK => ?_); (focus (first | (simp only [Region.wanted]; done) | (go_simp; done))); apply Exists.intro; refine ⟨fun W hW => ?_, ?_⟩; (have hcw := HC2.out W hW; go_simp; (try simp only [Stu.plainUpon_value, true_and]); rfl); go_simp; refine hK _ ?_; clear hK K)
            | (refine Stu.wpR_spu (by rfl) (by rfl) ?_ ?_ (fun W hW hU hF => ?_) (fun K v hv hK => ?_); (focus (first | (simp only [Region.wanted]; done) | (go_simp; done))); (focus (exact ⟨_, none, _, rfl, Nat.le_refl _⟩)); (go_simp; simp only [Stu.relUpon_enter]; exact num_rel hU (by rw [L3.out]; omega) (HSz2.out W hW) (by omega) (by decide) (by rw [L3.out]; omega) H4.out L4.out); (obtain ⟨A6, c6', rfl, hc6'⟩ := hv); go_simp; refine hK _ ?_; clear hK K)
            | (refine Stu.wpR_spu (by rfl) (by rfl) ?_ ?_ (fun W hW hU hF => ?_) (fun K v hv hK => ?_); (focus (first | (simp only [Region.wanted]; done) | (go_simp; done))); (focus (exact ⟨_, none, _, rfl, Nat.le_refl _⟩)); (exact appb_rel (v := .slice A6 (bl + 7 + xk.size) c6') (l := b4) (base := w.heap.size) (A := Aj) (c := cj) rfl rfl rfl rfl hU (fun e => by have := L4.out; rw [e] at this; simp at this; omega) (HRd2.out W hW) HNV.out (HSz2.out W hW) (by rw [L4.out, ← HNV.out]; omega) H5.out L5.out); (obtain ⟨A8, c8', rfl, hc8'⟩ := hv); go_simp; refine hK _ ?_; clear hK K))
          refine Stu.wpR_nil (fun W hW hU hF => ?_)
          have ho5 : Ob W w.heap.size 5 (.slice A8 (bl + 7 + xk.size + nv) c8') b5 := hU
          have HO5 := Lib.hid ho5
          have HB5 := Lib.hid (HBW2.out W hW)
          clear hF hW hU HC2 HSz2 HBW2 HRd2 ho5
          go_wp2
          go_roundw
          case rel =>
            refine ⟨p + 1, by omega, by go_num, by rw [HNe.out]; exact HO5.out, fun e => ?_, HB5.out⟩
            rw [HNe.out] at e
            have := L5.out
            rw [e] at this
            simp at this
            omega
          case measure => simp [intOf]; omega
      · have hpn : p = n := by omega
        have hfull : xs.take n = xs := by rw [HN.out]; exact List.take_length
        rw [hpn, hfull] at ho
        obtain ⟨A1, c1, rfl, _⟩ := ho.rd
        generalize (KvMath.encB (xs.map PutD.ent)).length = nn at *
        have HO := Lib.hid ho; have HB := Lib.hid hb
        clear ho hz hb hfull hpn hle hgood
        go_wp2
        go_ret
        exact ⟨_, rfl, HO.out, HB.out⟩
end Go.Proofs.Ytgaccogekmaijaa
