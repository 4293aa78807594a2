/- The document's own: numbers in bytes; appending a struct in a region that draws. -/
import Derived.Test.YtgaccogekmaijaaKvEnc
import Derived.Test.YtgaccogekmaijaaKvRdr
import Derived.Test.YtgaccogekmaijaaRelApp
import Derived.Test.YtgaccogekmaijaaStu
namespace Go.Proofs.Ytgaccogekmaijaa
open Go.RowKit Go.Maps
set_option linter.unusedVariables false
set_option linter.unusedSimpArgs false
theorem rd_lt8 (l : List UInt8) (h : l.length ≤ 8) : KvMath.rd l < 18446744073709551616 := by
  have h1 := KvMath.rd_lt l
  have h2 : (256 : Nat) ^ l.length ≤ 256 ^ 8 := Nat.pow_le_pow_right (by decide) h
  have h3 : (256 : Nat) ^ 8 = 18446744073709551616 := by decide
  omega
theorem wraps_u64' : ∀ n : Int, 0 ≤ n → n < 2 ^ 64 → IntKind.u64.wrap n = n := by
  intro n h0 h1
  rw [IntKind.wrap_u64]
  omega
theorem rd_step8 (n : Nat) (b : UInt8) (h : n * 256 + b.toNat < 18446744073709551616) : bits .or .u64 ((n : Int) * 256) (b.toNat : Int) = ((n * 256 + b.toNat : Nat) : Int) := by
  have hb := b.toNat_lt
  rw [bits_join .u64 64 (by decide) wraps_u64' 8 _ _ (by omega) (by omega) (by omega) (by omega) (by omega) (by omega)]
  simp
theorem ref_from (w : World) (A : Option Addr) (c : Nat) (l : List UInt8) (hr : Rd w A l) (h8 : l.length ≤ 8) :
    Calls Try.prog 37 #[.slice A l.length c] w fun e w' => e = .returned (.int .u64 (KvMath.rd l)) ∧ w' = w := by
  have hn := hr.1
  obtain ⟨n, hnn⟩ : ∃ n, n = l.length := ⟨_, rfl⟩
  rw [← hnn] at hn h8 ⊢
  have HN := Lib.hid hnn; clear hnn
  go_enter Try.func37, Try.ntmps37
  go_wp2
  go_loopw [3, 4] (fun x i wr => ∃ k : Nat, k ≤ n ∧ i = .int .i64 k ∧ x = .int .u64 (KvMath.rd (l.take k)) ∧ wr = w) (fun _ i _ => n - (intOf i).toNat)
  case atStart => exact ⟨0, by omega, rfl, rfl, rfl⟩
  case round =>
    obtain ⟨k, hk, rfl, rfl, rfl⟩ := hrel
    by_cases hlt : k < n
    · obtain ⟨a, rfl, hcell⟩ := hr.at_ k (by rw [← HN.out]; exact hlt)
      obtain ⟨b, hb⟩ : ∃ b, b = l[k]'(by rw [← HN.out]; exact hlt) := ⟨_, rfl⟩
      rw [← hb] at hcell
      have h2 : KvMath.rd (l.take (k + 1)) = KvMath.rd (l.take k) * 256 + b.toNat := by
        rw [take_succ_at l k (by rw [← HN.out]; exact hlt), KvMath.rd_snoc, hb]
      have h3 : KvMath.rd (l.take k) * 256 + b.toNat < 18446744073709551616 := by
        rw [← h2]; exact rd_lt8 _ (by rw [List.length_take, ← HN.out]; omega)
      generalize KvMath.rd (l.take k) = X at h2 h3 ⊢
      have HB := Lib.hid hb; clear hb
      have H2 := Lib.hid h2; clear h2
      have hb8 : b.toNat < 256 := b.toNat_lt
      go_wp2
      go_roundw
      case rel => exact ⟨k + 1, by omega, by go_num, by rw [H2.out]; exact val_int (rd_step8 X b h3), by first | rfl | trivial⟩
      case measure => simp [intOf]; omega
    · have e : l.take k = l := List.take_of_length_le (by rw [← HN.out]; omega)
      rw [e]
      go_wp2
      go_ret
      exact ⟨rfl, rfl⟩
set_option maxRecDepth 20000 in
set_option maxHeartbeats 2000000 in
theorem ref_big (w : World) (base : Nat) (v : Value) (b : List UInt8) (n size : Nat) (HO : Ob w base 5 v b) (hb : 1 ≤ b.length) (hB : base ≤ w.heap.size) (hn : n ≤ 1000000) (hs : size ≤ 4) (hlen : b.length ≤ 900000000) :
    Calls Try.prog 36 #[v, .int .u64 n, .int .i64 size] w fun e w' => ∃ v', e = .returned v' ∧ Ob w' base 5 v' (b ++ KvMath.numB n size) ∧ TS base w w' := by
  obtain ⟨A, c, rfl, hc, _⟩ := HO.rd
  obtain ⟨bl, hbl⟩ : ∃ bl, bl = b.length := ⟨_, rfl⟩
  rw [← hbl] at HO hc ⊢
  have HOh := Lib.hid HO; have HBL := Lib.hid hbl
  clear HO hbl
  go_enter Try.func36, Try.ntmps36
  go_wp2
  go_loopw [0, 7] (fun vb i wr => ∃ j : Nat, j ≤ size ∧ i = .int .i64 j ∧ Ob wr base 5 vb (b ++ (KvMath.numB n size).take j) ∧ TS base w wr) (fun _ i _ => size - (intOf i).toNat)
  case atStart => exact ⟨0, by omega, rfl, by simpa using HOh.out, TS.refl _ _⟩
  case round =>
    obtain ⟨j, hj, rfl, ho, hts⟩ := hrel
    by_cases hlt : j < size
    · obtain ⟨m, hm⟩ : ∃ m, m = size - 1 - j := ⟨_, rfl⟩
      have e2 : (size : Int) - 1 - j = m := by omega
      have hm3 : m ≤ 3 := by omega
      obtain ⟨byte, hby⟩ : ∃ byte, byte = UInt8.ofNat (n / 2 ^ (8 * (size - 1 - j))) := ⟨_, rfl⟩
      have e1 : (n : Int) / 2 ^ (8 * m) % 256 = (byte.toNat : Int) := by
        rw [hby, hm]
        have e : (UInt8.ofNat (n / 2 ^ (8 * (size - 1 - j)))).toNat = (n / 2 ^ (8 * (size - 1 - j))) % 256 := rfl
        rw [e]
        push_cast
        rfl
      have hsucc := KvMath.numB_succ n size j hlt
      rw [← hby] at hsucc
      obtain ⟨W1, hW1⟩ : ∃ W1, W1 = wr.alloc (.cells #[.int .u8 (byte.toNat : Int)] 5) := ⟨_, rfl⟩
      have hb1 : Below wr.heap.size wr W1 := by rw [hW1]; exact (Below.refl _ wr).alloc (Nat.le_refl _) _
      have hBr : base ≤ wr.heap.size := Nat.le_trans hB hts.1.size
      have hrd : Rd W1 (some ⟨wr.heap.size, 0, none⟩) [byte] := Rd.of_block (t := 5) (fr := (0, 0)) (by rw [hW1]; exact heap_new wr _ _ rfl) (by simp)
      have hlj : (b ++ (KvMath.numB n size).take j).length = b.length + j := by rw [List.length_append, List.length_take, KvMath.numB_len, Nat.min_eq_left (by omega)]
      obtain ⟨A1, c1, hv1, _⟩ := ho.rd
      rw [hlj] at hv1
      obtain ⟨v2, w2, hrun, ho2, hts2⟩ := appb_run (m := 1) (c := 1) (ho.below hb1) (fun e => by rw [e] at hlj; simp at hlj; omega) hrd rfl (Nat.le_trans hBr hb1.size) (by rw [hlj]; simp; omega)
      subst hv1
      have HO2 := Lib.hid ho2; have HTS := Lib.hid (hts.trans _ _ _ ((Gs.ts _ _ ⟨hb1, hBr⟩).trans _ _ _ hts2)); have HW1 := Lib.hid hW1; have HSC := Lib.hid hsucc
      obtain ⟨A2, c2, hv2, _⟩ := ho2.rd
      have hl2 : (b ++ (KvMath.numB n size).take j ++ [byte]).length = b.length + j + 1 := by rw [List.length_append, hlj]; rfl
      rw [hl2] at hv2
      subst hv2
      have hrun := Lib.hid hrun
      obtain ⟨q, hq⟩ : ∃ q, q = b.length + j := ⟨_, rfl⟩
      rw [← hq] at hrun HO2 ⊢
      have HM := Lib.hid hm
      have hszn : size ≤ 8 := by omega
      have hmn : 0 ≤ 8 * (m : Int) := by omega
      clear ho hts hm hby hsucc hW1 hb1 hrd hlj ho2 hts2 hl2 hq
      go_wp2_with (at_builtin; (rw [← HW1.out]); refine Lib.wpList_append_run _ rfl _ _ _ _ rfl _ _ rfl rfl _ _ hrun.out ?_)
      go_roundw
      case rel =>
        refine ⟨j + 1, by omega, by go_num, ?_, HTS.out⟩
        rw [HSC.out, ← List.append_assoc]
        exact HO2.out
      case measure => simp [intOf]; omega
    · have hjs : j = size := by omega
      rw [hjs, List.take_of_length_le (by rw [KvMath.numB_len]; exact Nat.le_refl _)] at ho
      have hlti : ¬ (j : Int) < size := by omega
      obtain ⟨A1, c1, rfl, _⟩ := ho.rd
      generalize (b ++ KvMath.numB n size).length = nn at *
      have HO := Lib.hid ho; have HT := Lib.hid hts
      clear ho hts
      go_wp2
      go_ret
      exact ⟨_, rfl, HO.out, HT.out⟩
theorem big_rel {W : World} {base nn n size : Nat} {v : Value} {l : List UInt8} (HO : Ob W base 5 v l) (hl : 1 ≤ l.length) (hB : base ≤ W.heap.size) (hn : n ≤ 1000000) (hs : size ≤ 4) (hlen : l.length ≤ 900000000) {l2 : List UInt8} (hl2 : l2 = l ++ KvMath.numB n size) (hnn : l2.length = nn) :
    Calls Try.prog 36 #[v, .int .u64 n, .int .i64 size] W fun e w' => ∃ v, e = .returned v ∧ TS base W w' ∧ ((∃ A c, v = .slice A nn c ∧ nn ≤ c) ∧ True) ∧ Ob w' base 5 v l2 := by
  subst hl2
  refine (ref_big W base v l n size HO hl hB hn hs hlen).mono ?_
  rintro e w1 ⟨v', rfl, h1, h2⟩
  exact ⟨_, rfl, h2, ⟨h1.shpn hnn, trivial⟩, h1⟩
/-- all but blocks of the type e with more than one element stays -/
def TE (e sz S0 : Nat) (w w' : World) : Prop := Below S0 w w' ∧ ∀ (k : Nat) cs (t : Nat) fr, (t ≠ e ∨ cs.size ≤ sz) → w.heap[k]? = some (.cells cs t fr) → w'.heap[k]? = some (.cells cs t fr)
theorem TE.refl (e sz S0 : Nat) (w : World) : TE e sz S0 w w := ⟨Below.refl _ _, fun _ _ _ _ _ h => h⟩
theorem TE.trans {e sz S0 : Nat} (a b c : World) (h : TE e sz S0 a b) (k : TE e sz S0 b c) : TE e sz S0 a c := ⟨h.1.trans k.1, fun i cs t fr h1 h3 => k.2 i cs t fr h1 (h.2 i cs t fr h1 h3)⟩
theorem Gs.te {e sz S0 : Nat} (W W' : World) (h : Gs S0 W W') : TE e sz S0 W W' := ⟨h.1.mono h.2, fun k _ _ _ _ h3 => (h.1.block k (Array.getElem?_eq_some_iff.1 h3).1).trans h3⟩
theorem TE.drew {e sz S0 : Nat} {w W : World} (h : TE e sz S0 w.drew W) (hS : S0 ≤ w.heap.size) : TE e sz S0 w W := (Gs.te _ _ ⟨Below.drew (Below.refl _ w), hS⟩).trans _ _ _ h
def shpn (nn : Nat) (v : Value) : Prop := ∃ A c, v = .slice A nn c ∧ nn ≤ c
theorem shpn.of_row {W : World} {base e size n : Nat} {v : Value} {xs : List Value} (h : W.ownsRow base e size v n xs) : shpn n v := by
  rcases h.2 with ⟨rfl, h0⟩ | ⟨g, cap, cur, rfl, _, _, hc, _⟩
  · exact ⟨none, 0, by rw [h0], by omega⟩
  · exact ⟨_, cap, rfl, hc⟩
set_option maxRecDepth 20000 in
/-- append(v, x), x a struct in a block of its own -/
theorem app1_run {W : World} {S0 gl n t ty e sz bytes : Nat} {z : Value} {xs : List Value} {ys : Array Value} {v : Value} {fr : Nat × Nat}
    (ht : Try.prog.underlying t = some (.slice e)) (hi : (Try.prog.info? e).map (fun i => (i.zero, i.size, i.bytes)) = some (some z, sz, bytes)) (hzs : z.cells.size = sz) (hsz : 0 < sz) (hb0 : 0 < bytes) (hb1 : bytes ≤ 1000)
    (h10 : W.heap[gl]? = some (.cells ys e fr)) (hys : ys.size = sz) (hone : ∀ u ∈ ys.toList, u.oneCell' = true) (hS : S0 ≤ W.heap.size) (hn : n ≤ 1000000) (hO : W.ownsRow S0 e sz v n xs) (hz : n = 0 → ∀ g, v.ownBlock = some g → W.heap[g]? = some (.cells #[] e)) :
    ∃ v' W', (Builtin.append_ #[t, t] ty #[v, .slice (some ⟨gl, 0, none⟩) 1 1]).run Try.prog W = .ok v' W' ∧ W'.ownsRow S0 e sz v' (n + 1) (xs ++ ys.toList) ∧ TE e sz S0 W W' := by
  have hsrc : Src W (some ⟨gl, 0, none⟩) ys.toList := fun _ => ⟨_, rfl, fun j u hu => by
    have ha : (⟨gl, 0, none⟩ : Addr).add j = ⟨gl, j, none⟩ := by unfold Addr.add; split <;> simp_all
    rw [ha, cell_of_row _ gl j _ _ _ h10, ← Array.getElem?_toList]
    exact hu⟩
  obtain ⟨i0, hi2, hzz⟩ := Option.map_eq_some_iff.1 hi
  simp only [Prod.mk.injEq] at hzz
  obtain ⟨v1, W', hr, k1, k2⟩ := append_dicho (P := Try.prog) W S0 t ty e i0 z sz bytes ht hi2 hzz.1 hzz.2.1 hzz.2.2 hzs hsz hb0 v n xs hO (some ⟨gl, 0, none⟩) 1 1 ys.toList (by rw [Array.length_toList, hys, Nat.one_mul]) hsrc hone (by
    have : (n + 1) * bytes ≤ 1000001 * 1000 := Nat.mul_le_mul (by omega) hb1
    omega) hS
  refine ⟨v1, W', hr, k1, ?_⟩
  rcases k2 with ⟨g, cur, q1, q2, q3, q4, q5, q6⟩ | ⟨q1, q2⟩
  · have hgS : S0 ≤ g := (hO.lt g q1).1
    have hbig : sz < cur.size := by
      rw [Array.length_toList, hys] at q4
      rcases Nat.eq_zero_or_pos n with h0 | h0
      · exfalso
        have e2 := hz h0 g q1
        rw [e2] at q3
        injection q3 with q3
        injection q3 with q3
        subst q3
        simp at q4
        omega
      · have : 1 * sz ≤ n * sz := Nat.mul_le_mul h0 (Nat.le_refl _)
        omega
    have hbl : Below S0 W W' := ⟨q6.os, q6.tape, q6.output, q6.size, fun k hk => q6.block k (Nat.lt_of_lt_of_le hk hS) (fun e => by injection e with e; omega)⟩
    refine ⟨hbl, fun k cs t' fr' hd hk => (q6.block k (Array.getElem?_eq_some_iff.1 hk).1 (fun e => ?_)).trans hk⟩
    injection e with e
    subst e
    rw [q3] at hk
    injection hk with hk
    injection hk with e1 e2 e3
    subst e1
    rcases hd with hd | hd
    · exact hd e2.symm
    · omega
  · exact Gs.te _ _ ⟨q1, hS⟩
theorem app1_rel {o : Oper} {a : Act} {W : World} {S0 gl n t e sz bytes : Nat} {z : Value} {xs : List Value} {ys : Array Value} {v : Value} {fr : Nat × Nat} {s x : Operand}
    (ht : Try.prog.underlying t = some (.slice e)) (hi : (Try.prog.info? e).map (fun i => (i.zero, i.size, i.bytes)) = some (some z, sz, bytes)) (hzs : z.cells.size = sz) (hsz : 0 < sz) (hb0 : 0 < bytes) (hb1 : bytes ≤ 1000)
    (ho : o.op = .call { callee := .builtin .append, args := #[s, x], argTypes := #[t, t] }) (hs : a.eval s = v) (hx : a.eval x = .slice (some ⟨gl, 0, none⟩) 1 1)
    (h10 : W.heap[gl]? = some (.cells ys e fr)) (hys : ys.size = sz) (hone : ∀ u ∈ ys.toList, u.oneCell' = true) (hS : S0 ≤ W.heap.size) (hn : n ≤ 1000000) (hO : W.ownsRow S0 e sz v n xs) (hz : n = 0 → ∀ g, v.ownBlock = some g → W.heap[g]? = some (.cells #[] e))
    {R : Value → World → Prop} (hR : ∀ v' W', W'.ownsRow S0 e sz v' (n + 1) (xs ++ ys.toList) → TE e sz S0 W W' → R v' W') :
    Stu.relUpon Try.prog (TE e sz S0) W (fun v W' => (shpn (n + 1) v ∧ True) ∧ R v W') ((execOp a.eval o).run Try.prog W) := by
  obtain ⟨v', W', hr, k1, k2⟩ := app1_run (ty := o.type) ht hi hzs hsz hb0 hb1 h10 hys hone hS hn hO hz
  unfold execOp
  simp only [ho, resolve, invoke, builtin, Sem.run_bind, Sem.run_pure, Result.andThen_ok, List.map_toArray, List.map_cons, List.map_nil, hs, hx, hr]
  exact ⟨k2, ⟨shpn.of_row k1, trivial⟩, hR _ _ k1 k2⟩
end Go.Proofs.Ytgaccogekmaijaa
