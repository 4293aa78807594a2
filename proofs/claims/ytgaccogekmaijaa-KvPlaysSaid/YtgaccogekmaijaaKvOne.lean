/- One change of a table. -/
import Derived.Test.YtgaccogekmaijaaKvTab
import Derived.Test.YtgaccogekmaijaaStu
namespace Go.Proofs.Ytgaccogekmaijaa
open Go.RowKit Go.Lib
set_option linter.unusedVariables false
set_option linter.unusedSimpArgs false
attribute [local irreducible] wpR relOp Stu.wpR Stu.relOp
theorem TbM.fin {W W5 : World} {B g m n n' q : Nat} {vk v : Value} {f f' : ByteArray → Option Value} {L : List KvMath.Ent} (h : TbM W B g m vk f n L) (k : ByteArray) (l : List UInt8) (gone : Bool) (hN : TbN W5 B g m v f' n' (fun j => if j = k then (if gone then none else some l) else KvMath.get L j)) {keys : List ByteArray} (hrow : W5.ownsRow B 9 1 v q (svl keys)) (hk : (KvMath.one L k l gone).map (·.1) = keys) (hks : k.size ≤ 200) (hls : l.length ≤ 200000) : TbM W5 B g m v f' n' (KvMath.one L k l gone) := by
  have hq : q = keys.length := by have := hrow.1; rw [svl_len] at this; omega
  have hl : (KvMath.one L k l gone).length = keys.length := by rw [← hk]; simp
  refine ⟨?_, by rw [hl, hk, ← hq]; exact hrow, h.ri.one k l gone, fun p hp => ?_⟩
  · have : (fun j => if j = k then (if gone then none else some l) else KvMath.get L j) = KvMath.get (KvMath.one L k l gone) := by
      funext j
      rw [KvMath.get_one L h.ri]
    rw [← this]
    exact hN
  · rcases KvMath.mem_one hp with hp | rfl
    · exact h.kz p hp
    · exact ⟨hks, hls⟩
def Gb0 (W W' : World) : Prop := Below W.heap.size W W'
theorem Gb0.refl (W : World) : Gb0 W W := Below.refl _ _
theorem Gb0.trans (a b c : World) (h : Gb0 a b) (k : Gb0 b c) : Gb0 a c := below_add h k
/-- a value that a call yields -/
def kvV (v0 : Value) : Stu.SpU Gb0 Gb0 := ⟨false, fun _ v => v = v0, fun _ _ _ => True, fun _ _ => True, fun _ _ _ _ _ _ => trivial, fun _ _ _ _ _ => trivial⟩
theorem Sl.gb0 {W W' : World} (h : Gb0 W W') {v : Value} {l : List UInt8} (hs : Sl W v l) : Sl W' v l := hs.below h
/-- bytes that a call yields -/
def kvS (n : Nat) (l : List UInt8) : Stu.SpU Gb0 Gb0 := ⟨false, fun _ v => ∃ A c, v = .slice A n c ∧ n ≤ c, fun _ v W => Sl W v l, fun _ _ => True, fun _ _ _ _ h hg => h.gb0 hg, fun _ _ _ _ _ => trivial⟩
theorem bs_rel (w : World) (B : Nat) (L : List KvMath.Ent) (hr : KvMath.Rise L) (k : ByteArray) (A : Option Addr) (c : Nat) (hown : w.ownsRow B 9 1 (.slice A L.length c) L.length (svl (L.map (·.1)))) (hl : L.length ≤ 1000000) :
    Calls Try.prog 30 #[.slice A L.length c, .string k] w fun e w' => ∃ v, e = .returned v ∧ Gb0 w w' ∧ v = .tuple #[.int .i64 (KvMath.pos L k), .bool (KvMath.has L k)] ∧ True := by
  refine (bs_any w B L hr k A c hown hl).mono ?_
  rintro e w1 ⟨rfl, hb⟩
  exact ⟨_, rfl, hb, rfl, trivial⟩
theorem ins_rel {W : World} {B q c gl p S0 : Nat} {A : Option Addr} {keys keys' : List ByteArray} {k : ByteArray} {S : Nat → Prop} (hk' : keys' = keys.take p ++ [k] ++ keys.drop p) (hU : W.ownsRow B 9 1 (.slice A q c) q (svl keys)) (hp : p ≤ q) (hl : q ≤ 1000000) (hgl : W.heap[gl]? = some (.cells #[.string k] 9)) (hg : S0 ≤ gl) (hS0 : ∀ i, S i → i < S0) (hS : S = fun b => (Value.slice A q c).ownBlock = some b) (hB : B ≤ W.heap.size) (hS0W : S0 ≤ W.heap.size) :
    Calls Try.prog 42 #[.slice A q c, .int .i64 p, .slice (some ⟨gl, 0, none⟩) 1 1] W fun e w' => ∃ v, e = .returned v ∧ Chg S W w' ∧ ((∃ A c, v = .slice A (q + 1) c ∧ q + 1 ≤ c) ∧ True) ∧ w'.ownsRow B 9 1 v (q + 1) (svl keys') ∧ ∀ b, v.ownBlock = some b → S b ∨ S0 ≤ b := by
  have hq : q = keys.length := by have := hU.1; rw [svl_len] at this; omega
  have hne : ∀ a, A = some a → a.block ≠ gl := by
    intro a e
    rcases hU.2 with ⟨e0, _⟩ | ⟨g, cap, cur, e0, _⟩
    · rw [e] at e0; cases e0
    · rw [e] at e0
      injection e0 with e0
      injection e0 with e0
      subst e0
      have : S g := by rw [hS, e]; rfl
      have := hS0 g this
      show g ≠ gl
      omega
  subst hq
  subst hk'
  refine (ins_any W B keys p k A c gl hB hU hl hp hgl hne).mono ?_
  rintro e w1 ⟨v, rfl, ho, hc, hf⟩
  refine ⟨v, rfl, by rw [hS]; exact hc, ⟨orow_shape ho, trivial⟩, ho, fun b hb => ?_⟩
  rcases hf b hb with h | h
  · exact .inl (by rw [hS]; exact h)
  · exact .inr (Nat.le_trans hS0W h)
theorem clone_rel0 (w : World) (A : Option Addr) (n c : Nat) (l : List UInt8) (hr : Rd w A l) (hn : n = l.length) (hl : n ≤ 200000) :
    Calls Try.prog 31 #[.slice A n c] w fun e w' => ∃ v, e = .returned v ∧ Gb0 w w' ∧ (∃ A c, v = .slice A n c ∧ n ≤ c) ∧ Sl w' v l := by
  subst hn
  refine (clone_any w A c l hr (by omega)).mono ?_
  rintro e w1 ⟨v, rfl, ho, hb⟩
  obtain ⟨A1, c1, rfl, h1, _⟩ := ho.rd
  exact ⟨_, rfl, hb, ⟨_, _, rfl, h1⟩, ho.sl⟩
/-- the chain of an Insert: what is below S0 but for the table's own stays -/
def kvL (S0 : Nat) (S : Nat → Prop) (hS : ∀ i, S i → i < S0) (k : ByteArray) : Stu.SpU (Chg S) Gb0 := ⟨false, fun _ v => ∃ g, v = .slice (some ⟨g, 0, none⟩) 1 1, fun _ v W => ∃ g, v = .slice (some ⟨g, 0, none⟩) 1 1 ∧ S0 ≤ g ∧ W.heap[g]? = some (.cells #[.string k] 9), fun _ _ => True, fun _ _ W W' h hg => by
  obtain ⟨g, h1, h2, h3⟩ := h
  exact ⟨g, h1, h2, hg.heap h3 (fun hs => by have := hS g hs; omega)⟩, fun _ _ _ _ _ => trivial⟩
def kvI (S : Nat → Prop) (n : Nat) (u : Value → World → Prop) (hu : ∀ v W W', u v W → Gb0 W W' → u v W') : Stu.SpU (Chg S) Gb0 := ⟨true, fun _ v => ∃ A c, v = .slice A n c ∧ n ≤ c, fun _ _ _ => True, u, fun _ _ _ _ _ _ => trivial, hu⟩
/-- a table that has turned since w: its row is its own still, or new -/
def TbK (w w' : World) (B g N m : Nat) (vk : Value) (L : List KvMath.Ent) : Prop := ∃ vk' f' n', TbM w' B g m vk' f' n' L ∧ n' ≤ N ∧ Chg (OwnT g m vk) w w' ∧ ∀ b, vk'.ownBlock = some b → vk.ownBlock = some b ∨ w.heap.size ≤ b
set_option maxRecDepth 20000 in
set_option maxHeartbeats 2000000 in
theorem kv_one_m (w : World) (B g N m n : Nat) (vk : Value) (f : ByteArray → Option Value) (L : List KvMath.Ent) (hT : TbM w B g m vk f n L) (hnN : n ≤ N) (hBs : B ≤ w.heap.size) (hN : N ≤ 900000) (hL : L.length ≤ 900000) (k : ByteArray) (hk : k.size ≤ 200) (A : Option Addr) (c : Nat) (l : List UInt8) (gone : Bool) (hl : l.length ≤ 200000) (hc : l.length ≤ c) (hv : ∀ W, TV B w W → Rd W A l) :
    Calls Try.prog 29 #[.pointer (some ⟨g, 0, none⟩), .agg #[.string k, .slice A l.length c, .bool gone]] w fun e w' => e = .returned (.tuple #[]) ∧ TbK w w' B g (N + 1) m vk (KvMath.one L k l gone) := by
  obtain ⟨Ak, ck, rfl, hck⟩ := orow_shape hT.ks
  obtain ⟨nl, hnl⟩ : ∃ nl, nl = l.length := ⟨_, rfl⟩
  rw [← hnl] at hc ⊢
  obtain ⟨q, hq⟩ : ∃ q, q = L.length := ⟨_, rfl⟩
  rw [← hq] at hT hck ⊢
  have HNL := Lib.hid hnl; have HQ := Lib.hid hq; have HV := Lib.hid hv
  obtain ⟨W1, hW1⟩ : ∃ W1, W1 = w.alloc (.cells #[.string k, .slice A nl c, .bool gone] 38) := ⟨_, rfl⟩
  have hb1 : Below w.heap.size w W1 := by rw [hW1]; exact (Below.refl _ w).alloc (Nat.le_refl _) _
  have hx1 : W1.heap[w.heap.size]? = some (.cells #[.string k, .slice A nl c, .bool gone] 38) := by rw [hW1]; exact heap_new w _ _ rfl
  have hBW : ∀ W, Gb0 W1.drew W → Below w.heap.size w W := fun W hW => below_then hb1 hb1.size (below_then (Below.drew (Below.refl _ W1)) (Nat.le_refl _) hW)
  have hTW : ∀ W, Gb0 W1.drew W → TbM W B g m (.slice Ak q ck) f n L := fun W hW => hT.below (hBW W hW)
  have hXW : ∀ W, Gb0 W1.drew W → W.heap[w.heap.size]? = some (.cells #[.string k, .slice A nl c, .bool gone] 38) := fun W hW => ((below_then (Below.drew (Below.refl W1.heap.size W1)) (Nat.le_refl _) hW : Below W1.heap.size W1 W).block _ (Array.getElem?_eq_some_iff.1 hx1).1).trans hx1
  have HC : Hid (∀ W, Gb0 W1.drew W → W.cell? ⟨g, 1, none⟩ = some (.slice Ak q ck) ∧ W.cell? ⟨w.heap.size, 0, none⟩ = some (.string k)) := Lib.hid fun W hW => ⟨by rw [cell_of_row _ g 1 _ _ _ (hTW W hW).nn.st]; rfl, by rw [cell_of_row _ w.heap.size 0 _ _ _ (hXW W hW)]; rfl⟩
  have HTW := Lib.hid hTW; have HXW := Lib.hid hXW; have HBW := Lib.hid hBW; have HW1 := Lib.hid hW1
  have HRI := Lib.hid hT.ri
  clear hBW hTW hXW hW1 hb1 hx1 hT hv hnl hq
  go_enter Try.func29, Try.ntmps29
  go_wp2_with fail
  rw [← HW1.out]
  refine Stu.wp_region_stu _ (Stu.mkT [(6, kvV (.tuple #[.int .i64 (KvMath.pos L k), .bool (KvMath.has L k)]))]) (fun _ => True) [] Gb0.refl Gb0.trans (fun _ _ h => h) (fun _ _ _ _ => trivial) trivial (Stu.mkT_ks _ (by show List.Nodup [6]; decide) _ rfl) (by kernel_rfl) (by kernel_rfl) (by kernel_rfl) ?_
  repeat (first
    | (refine Stu.wpR_plain ?_ (by rfl) (by rfl) (fun K hK => ?_); (focus (first | (simp only [Region.wanted]; done) | (go_simp; done))); apply Exists.intro; refine ⟨fun W hW => ?_, ?_⟩; (go_simp; (try simp only [Stu.plainUpon_value, true_and]); rfl); go_simp; refine hK _ ?_; clear hK K)
    | (refine Stu.wpR_plain ?_ (by rfl) (by rfl) (fun K hK => ?_); (focus (first | (simp only [Region.wanted]; done) | (go_simp; done))); apply Exists.intro; refine ⟨fun W hW => ?_, ?_⟩; (have hcw := HC.out W hW; go_simp; (try simp only [Stu.plainUpon_value, true_and]); rfl); go_simp; refine hK _ ?_; clear hK K)
    | (refine Stu.wpR_spg (by rfl) (by rfl) ?_ ?_ (fun W hW hF => ?_) (fun K v hv hK => ?_); (focus (first | (simp only [Region.wanted]; done) | (go_simp; done))); (focus (exact ⟨_, rfl⟩)); (go_simp; simp only [Stu.relUpon_enter]; (have hks := (HTW.out W hW).ks; rw [HQ.out] at hks ⊢; exact bs_rel W B L HRI.out k Ak ck hks (Nat.le_trans hL (by decide)))); (cases hv); go_simp; refine hK _ ?_; clear hK K))
  refine Stu.wpR_nil (fun V hW hU hF => ?_)
  have HT := Lib.hid (HTW.out V hW)
  have hx := HXW.out V hW
  have HBe := Lib.hid (HBW.out V hW)
  have x0 : V.cell? ⟨w.heap.size, 0, none⟩ = some (.string k) := by rw [cell_of_row _ w.heap.size 0 _ _ _ hx]; rfl
  have x1 : V.cell? ⟨w.heap.size, 1, none⟩ = some (.slice A nl c) := by rw [cell_of_row _ w.heap.size 1 _ _ _ hx]; rfl
  have x2 : V.cell? ⟨w.heap.size, 2, none⟩ = some (.bool gone) := by rw [cell_of_row _ w.heap.size 2 _ _ _ hx]; rfl
  have g0 : V.cell? ⟨g, 0, none⟩ = some (.map (some m)) := by rw [cell_of_row _ g 0 _ _ _ HT.out.nn.st]; rfl
  have g1 : V.cell? ⟨g, 1, none⟩ = some (.slice Ak q ck) := by rw [cell_of_row _ g 1 _ _ _ HT.out.nn.st]; rfl
  have HX := Lib.hid hx
  have hpl := KvMath.pos_le L k
  obtain ⟨p, hp⟩ : ∃ p, p = KvMath.pos L k := ⟨_, rfl⟩
  rw [← hp] at hpl ⊢
  have HP := Lib.hid hp; have HPL := Lib.hid hpl
  have hwp : IntKind.i64.wrap ((p : Int) + 1) = (p : Int) + 1 := by rw [IntKind.wrap_i64]; omega
  clear hF hW hU HC HTW HXW HBW hx hp hpl
  cases gone with
  | true =>
    cases hh : KvMath.has L k with
    | true =>
      have hpq : p < q := by rw [HP.out, HQ.out]; exact KvMath.pos_lt L HRI.out k hh
      have HH := Lib.hid hh
      clear hh
      have hkl : (L.map (·.1)).length = q := by rw [List.length_map, HQ.out]
      have hcon := del_any V B (L.map (·.1)) p Ak ck (by rw [hkl]; have := HT.out.ks; rw [← HQ.out] at this; exact this) (by rw [hkl, HQ.out]; exact Nat.le_trans hL (by decide)) (by rw [hkl]; exact hpq)
      rw [hkl] at hcon
      have hcon := Lib.hid hcon
      clear hkl
      go_wp2_with fail
      refine hcon.out.mono ?_
      rintro e w3 ⟨v3, rfl, ho3, hown3, hc3⟩
      obtain ⟨A3, c3, hv3, hc3c⟩ := orow_shape ho3
      subst hv3
      have HOw := Lib.hid hown3
      clear hown3
      have hTN : TbN w3 B g m (.slice Ak q ck) f n (KvMath.get L) := HT.out.nn.chg hc3 (fun e => by
        obtain ⟨cs, e', _⟩ := orow_typ HT.out.ks e
        rw [HT.out.nn.st] at e'
        injection e' with e'
        injection e' with _ e'
        exact absurd e' (by decide)) (fun e => by
        obtain ⟨cs, e', _⟩ := orow_typ HT.out.ks e
        obtain ⟨es, clock, hb⟩ := HT.out.nn.mp.blk
        rw [hb] at e'
        injection e' with e'
        cases e') (fun i hi cs fr e => by
        obtain ⟨cs', e', _⟩ := orow_typ HT.out.ks hi
        rw [e] at e'
        injection e' with e'
        injection e' with _ e'
        exact absurd e' (by decide))
      have hx3 := hc3.heap HX.out (fun e => by
        obtain ⟨cs, e', _⟩ := orow_typ HT.out.ks e
        rw [HX.out] at e'
        injection e' with e'
        injection e' with _ e'
        exact absurd e' (by decide))
      have y1 : w3.cell? ⟨g, 1, none⟩ = some (.slice Ak q ck) := by rw [cell_of_row _ g 1 _ _ _ hTN.st]; rfl
      have f1 : w3.frozen? ⟨g, 1, none⟩ = false := frozen_of_row _ g 1 _ _ hTN.st
      have HO3 := Lib.hid ho3; have HC3 := Lib.hid hc3; have HTN := Lib.hid hTN; have HX3 := Lib.hid hx3
      clear ho3 hc3 hTN hx3 hcon x0 x1 x2 g0 g1
      go_wp2_with fail
      obtain ⟨w4, hw4⟩ : ∃ w4, w4 = w3.setCell ⟨g, 1, none⟩ (.slice A3 (q - 1) c3) := ⟨_, rfl⟩
      have hch4 : Chg (· = g) w3 w4 := by rw [hw4]; exact Chg.setCell _ _ _ _
      have hT4 : TbN w4 B g m (.slice A3 (q - 1) c3) f n (KvMath.get L) := by rw [hw4]; exact HTN.out.setk _
      have hgn : ∀ t : Nat, t ≠ 68 → ∀ i, i = g → ∀ cs fr, w3.heap[i]? ≠ some (.cells cs t fr) := fun t ht i hi cs fr e => by
        subst hi
        rw [HTN.out.st] at e
        injection e with e
        injection e with _ e
        exact ht e.symm
      have hx4 := hch4.heap HX3.out (fun e => hgn _ (by decide) _ e _ _ HX3.out)
      have ho4 : w4.ownsRow B 9 1 (.slice A3 (q - 1) c3) (q - 1) (svl ((L.map (·.1)).take p ++ (L.map (·.1)).drop (p + 1))) := orow_stay HO3.out (fun i cs fr _ hi => hch4.heap hi (fun e => hgn _ (by decide) _ e _ _ hi))
      rw [← hw4]
      have HT4 := Lib.hid hT4; have HX4 := Lib.hid hx4; have HO4 := Lib.hid ho4; have HC4 := Lib.hid hch4
      have HC : Hid (∀ W, Gr w4.heap.size w4.drew W → W.cell? ⟨g, 0, none⟩ = some (.map (some m)) ∧ W.cell? ⟨w.heap.size, 0, none⟩ = some (.string k)) := Lib.hid fun W hW => by
        have hb : Below w4.heap.size w4 W := (Below.drew (Below.refl _ w4)).trans hW.1
        exact ⟨by rw [cell_of_row _ g 0 _ _ _ (HT4.out.below hb).st]; rfl, by rw [cell_of_row _ w.heap.size 0 _ _ _ ((hb.block _ (Array.getElem?_eq_some_iff.1 HX4.out).1).trans HX4.out)]; rfl⟩
      clear hw4 hch4 hT4 hgn hx4 ho4 y1 f1
      (refine wp_region_tbl_tail _ 6 (fun _ => none) w4.heap.size (by kernel_rfl) (by kernel_rfl) (by kernel_rfl) ?_; simp only [List.take_succ_cons, List.take_zero, List.drop_succ_cons, List.drop_zero])
      repeat (first | (refine wpR_plain ?_ (by rfl) (fun K hK => ?_); (focus (first | (simp only [Region.wanted]; done) | (go_simp; done))); apply Exists.intro; refine ⟨fun W hW => ?_, ?_⟩; (go_simp; (try simp only [plainUpon_value, true_and]); rfl); go_simp; refine hK _ ?_; clear hK K) | (refine wpR_plain ?_ (by rfl) (fun K hK => ?_); (focus (first | (simp only [Region.wanted]; done) | (go_simp; done))); apply Exists.intro; refine ⟨fun W hW => ?_, ?_⟩; (have hcw := HC.out W hW; go_simp; (try simp only [plainUpon_value, true_and]); rfl); go_simp; refine hK _ ?_; clear hK K))
      refine wpR_nil (fun W5 hW5 hF => ?_)
      have hb5 : Below w4.heap.size w4 W5 := (Below.drew (Below.refl _ w4)).trans hW5.1
      obtain ⟨w6, hrun, ⟨f6, hT6⟩, hc6⟩ := (HT4.out.below hb5).del k (by omega) 0
      have HT6 := Lib.hid hT6; have HC6 := Lib.hid hc6; have HB5 := Lib.hid hb5
      clear hF hW5 HC hT6 hc6 hb5
      go_wp2
      go_end0
      have hme : ∀ t : Nat, ∀ i, i = m → ∀ cs fr, W5.heap[i]? ≠ some (.cells cs t fr) := fun t i hi cs fr e => by
        subst hi
        obtain ⟨es, clock, hb⟩ := (HT4.out.below HB5.out).mp.blk
        rw [hb] at e
        injection e with e
        cases e
      have ho6 : w6.ownsRow B 9 1 (.slice A3 (q - 1) c3) (q - 1) (svl ((L.map (·.1)).take p ++ (L.map (·.1)).drop (p + 1))) := orow_stay (orow_stay HO4.out (fun i cs fr _ hi => (HB5.out.block i (Array.getElem?_eq_some_iff.1 hi).1).trans hi)) (fun i cs fr _ hi => HC6.out.heap hi (fun e => hme _ _ e _ _ hi))
      have hfin := HT.out.fin k l true (by simpa using HT6.out) ho6 (by rw [HP.out]; exact KvMath.keys_gone_has L HRI.out k l HH.out) hk hl
      have hchg : Chg (OwnT g m (.slice Ak q ck)) V w6 := (HC3.out.imp fun i hi => .inr (.inr hi)).trans ((HC4.out.imp fun i hi => .inl hi).trans ((Chg.of_below HB5.out).trans (HC6.out.imp fun i hi => .inr (.inl hi))))
      exact ⟨rfl, _, f6, n, hfin, by omega, (Chg.of_below HBe.out).trans hchg, fun b hb => .inl (by rw [← HOw.out]; exact hb)⟩
    | false =>
      have HL : Hid (KvMath.one L k l true = L) := Lib.hid (KvMath.one_none L HRI.out k l hh)
      clear hh
      go_wp2
      go_end0
      refine ⟨rfl, ?_⟩
      rw [HL.out]
      exact ⟨_, f, n, HT.out, by omega, Chg.of_below HBe.out, fun b hb => .inl hb⟩
  | false =>
    cases hh : KvMath.has L k with
    | true =>
      have HK4 : Hid ((KvMath.one L k l false).map (·.1) = L.map (·.1)) := Lib.hid (KvMath.keys_one_has L HRI.out k l hh)
      have HT4 := Lib.hid HT.out.nn; have HX4 := HX; have HO4 := Lib.hid HT.out.ks
      have HC4 : Hid (Chg (OwnT g m (.slice Ak q ck)) V V) := Lib.hid (Chg.refl _ _)
      have HOw : Hid (∀ b, (Value.slice Ak q ck).ownBlock = some b → (Value.slice Ak q ck).ownBlock = some b ∨ V.heap.size ≤ b) := Lib.hid fun b hb => .inl hb
      clear hh
      go_wp2_with fail
      clear x0 x1 x2 g0 g1
      have HTV : Hid (TV B w V) := Lib.hid ((TV.of_below HBe.out hBs).trans (HT.out.tv (Nat.le_trans hBs HBe.out.size) HC4.out))
      have hB4 : ∀ W', Gb0 V.drew W' → Below V.heap.size V W' := fun W' hW => below_then (Below.drew (Below.refl V.heap.size V)) (Nat.le_refl _) hW
      have HB4 := Lib.hid hB4
      have HC : Hid (∀ W', Gb0 V.drew W' → W'.cell? ⟨g, 0, none⟩ = some (.map (some m)) ∧ W'.cell? ⟨w.heap.size, 0, none⟩ = some (.string k) ∧ W'.cell? ⟨w.heap.size, 1, none⟩ = some (.slice A nl c)) := Lib.hid fun W' hW => by
        have hb := HB4.out W' hW
        have hx := (hb.block _ (Array.getElem?_eq_some_iff.1 HX4.out).1).trans HX4.out
        exact ⟨by rw [cell_of_row _ g 0 _ _ _ (HT4.out.below hb).st]; rfl, by rw [cell_of_row _ w.heap.size 0 _ _ _ hx]; rfl, by rw [cell_of_row _ w.heap.size 1 _ _ _ hx]; rfl⟩
      have HRd : Hid (∀ W', Gb0 V.drew W' → Rd W' A l) := Lib.hid fun W' hW => HV.out W' (HTV.out.trans (TV.of_below (HB4.out W' hW) (Nat.le_trans hBs HTV.out.1.size)))
      clear hB4
      refine Stu.wp_region_stu_tail _ 9 (Stu.mkT [(8, kvS nl l)]) (fun _ => True) [] Gb0.refl Gb0.trans (fun _ _ h => h) (fun _ _ _ _ => trivial) trivial (Stu.mkT_ks _ (by show List.Nodup [8]; decide) _ rfl) (by kernel_rfl) (by kernel_rfl) (by kernel_rfl) ?_
      simp only [List.take_succ_cons, List.take_zero, List.drop_succ_cons, List.drop_zero]
      repeat (first
        | (refine Stu.wpR_plain ?_ (by rfl) (by rfl) (fun K hK => ?_); (focus (first | (simp only [Region.wanted]; done) | (go_simp; done))); apply Exists.intro; refine ⟨fun W hW => ?_, ?_⟩; (go_simp; (try simp only [Stu.plainUpon_value, true_and]); rfl); go_simp; refine hK _ ?_; clear hK K)
        | (refine Stu.wpR_plain ?_ (by rfl) (by rfl) (fun K hK => ?_); (focus (first | (simp only [Region.wanted]; done) | (go_simp; done))); apply Exists.intro; refine ⟨fun W hW => ?_, ?_⟩; (have hcw := HC.out W hW; go_simp; (try simp only [Stu.plainUpon_value, true_and]); rfl); go_simp; refine hK _ ?_; clear hK K)
        | (refine Stu.wpR_spg (by rfl) (by rfl) ?_ ?_ (fun W hW hF => ?_) (fun K v hv hK => ?_); (focus (first | (simp only [Region.wanted]; done) | (go_simp; done))); (focus (exact ⟨_, none, _, rfl, Nat.le_refl _⟩)); (go_simp; simp only [Stu.relUpon_enter]; exact clone_rel0 W A nl c l (HRd.out W hW) HNL.out (by rw [HNL.out]; exact hl)); (obtain ⟨A8, c8, rfl, hc8⟩ := hv); go_simp; refine hK _ ?_; clear hK K))
      refine Stu.wpR_nil (fun W5 hW5 hU hF => ?_)
      have hs8 : Sl W5 (.slice A8 nl c8) l := hF 8
      have hb5 := HB4.out W5 hW5
      obtain ⟨w6, hrun, ⟨f6, hT6⟩, hc6⟩ := (HT4.out.below hb5).put (by omega) k (by omega) hs8
      have HT6 := Lib.hid hT6; have HC6 := Lib.hid hc6; have HB5 := Lib.hid hb5
      clear hF hW5 hU HC hT6 hc6 hb5 hs8 HRd HB4 HTV
      go_wp2
      go_end0
      have hme : ∀ t : Nat, ∀ i, i = m → ∀ cs fr, W5.heap[i]? ≠ some (.cells cs t fr) := fun t i hi cs fr e => by
        subst hi
        obtain ⟨es, clock, hb⟩ := (HT4.out.below HB5.out).mp.blk
        rw [hb] at e
        injection e with e
        cases e
      have ho6 := orow_stay (orow_stay HO4.out (fun i cs fr _ hi => (HB5.out.block i (Array.getElem?_eq_some_iff.1 hi).1).trans hi)) (fun i cs fr _ hi => HC6.out.heap hi (fun e => hme _ _ e _ _ hi))
      have hfin := HT.out.fin k l false (by simpa using HT6.out) ho6 HK4.out hk hl
      have hchg : Chg (OwnT g m (.slice Ak q ck)) V w6 := HC4.out.trans ((Chg.of_below HB5.out).trans (HC6.out.imp fun i hi => .inr (.inl hi)))
      exact ⟨rfl, _, f6, n + 1, hfin, by omega, (Chg.of_below HBe.out).trans hchg, fun b hb => (HOw.out b hb).imp (fun h => h) (fun h => Nat.le_trans HBe.out.size h)⟩
    | false =>
      obtain ⟨keys4, hk4⟩ : ∃ keys4, keys4 = (L.map (·.1)).take p ++ [k] ++ (L.map (·.1)).drop p := ⟨_, rfl⟩
      have HK5 := Lib.hid hk4
      have HK4 : Hid ((KvMath.one L k l false).map (·.1) = keys4) := Lib.hid (by rw [hk4, HP.out]; exact KvMath.keys_one_new L HRI.out k l hh)
      clear hk4
      clear hh
      have hkl : (L.map (·.1)).length = q := by rw [List.length_map, HQ.out]
      have hpq : p ≤ q := by rw [HQ.out]; exact HPL.out
      obtain ⟨S, hS⟩ : ∃ S : Nat → Prop, S = fun b => (Value.slice Ak q ck).ownBlock = some b := ⟨_, rfl⟩
      have hS0 : ∀ i, S i → i < V.heap.size := fun i hi => by
        rw [hS] at hi
        obtain ⟨cs, e', _⟩ := orow_typ HT.out.ks hi
        exact (Array.getElem?_eq_some_iff.1 e').1
      have hSty : ∀ i, S i → ∀ cs (t : Nat) fr, V.heap[i]? = some (.cells cs t fr) → t = 9 := fun i hi cs t fr e => by
        rw [hS] at hi
        obtain ⟨cs', e', _⟩ := orow_typ HT.out.ks hi
        rw [e'] at e
        injection e with e
        injection e with _ e
        exact e.symm
      have hSm : ¬ S m := fun hi => by
        rw [hS] at hi
        obtain ⟨cs', e', _⟩ := orow_typ HT.out.ks hi
        obtain ⟨es, clock, hb⟩ := HT.out.nn.mp.blk
        rw [hb] at e'
        injection e' with e'
        cases e'
      have hSg : ¬ S g := fun hi => absurd (hSty g hi _ _ _ HT.out.nn.st) (by decide)
      have hSx : ¬ S w.heap.size := fun hi => absurd (hSty _ hi _ _ _ HX.out) (by decide)
      have hD : ∀ W', Chg S V.drew W' → Chg S V W' := fun W' h => (Chg.of_below (Below.drew (Below.refl _ V))).trans h
      have HC : Hid (∀ W', Chg S V.drew W' → W'.cell? ⟨g, 1, none⟩ = some (.slice Ak q ck) ∧ W'.cell? ⟨w.heap.size, 0, none⟩ = some (.string k)) := Lib.hid fun W' hW => by
        have hh := hD W' hW
        exact ⟨by rw [cell_of_row _ g 1 _ _ _ (hh.heap HT.out.nn.st hSg)]; rfl, by rw [cell_of_row _ w.heap.size 0 _ _ _ (hh.heap HX.out hSx)]; rfl⟩
      have HSz : Hid (∀ W', Chg S V.drew W' → V.heap.size ≤ W'.heap.size) := Lib.hid fun W' hW => hW.size
      have HD := Lib.hid hD; have HSg := Lib.hid hSg; have HSm := Lib.hid hSm; have HSx := Lib.hid hSx; have HSty := Lib.hid hSty; have HSd := Lib.hid hS
      clear hD hSg hSm hSx hSty hkl hS
      go_wp2_with fail
      refine Stu.wp_region_stu_tail _ 10 (Stu.mkT [(8, kvL V.heap.size S hS0 k), (9, kvI S (q + 1) (fun v W' => W'.ownsRow B 9 1 v (q + 1) (svl keys4) ∧ ∀ b, v.ownBlock = some b → S b ∨ V.heap.size ≤ b) (fun v W1 W2 h hb => ⟨orow_stay h.1 (fun i cs fr _ hi => (hb.block i (Array.getElem?_eq_some_iff.1 hi).1).trans hi), h.2⟩))]) (fun W' => W'.ownsRow B 9 1 (.slice Ak q ck) q (svl (L.map (·.1)))) [9] (Chg.refl _) (fun _ _ _ => Chg.trans) (fun _ _ h => Chg.of_below h) (fun W1 W2 h hb => orow_stay h (fun i cs fr _ hi => (hb.block i (Array.getElem?_eq_some_iff.1 hi).1).trans hi)) (by have := HT.out.ks; rw [← HQ.out] at this; exact orow_stay this (fun i cs fr _ hi => hi)) (Stu.mkT_ks _ (by show List.Nodup [8, 9]; decide) _ rfl) (by kernel_rfl) (by kernel_rfl) (by kernel_rfl) ?_
      simp only [List.take_succ_cons, List.take_zero, List.drop_succ_cons, List.drop_zero]
      repeat (first
        | (refine Stu.wpR_plain ?_ (by rfl) (by rfl) (fun K hK => ?_); (focus (first | (simp only [Region.wanted]; done) | (go_simp; done))); apply Exists.intro; refine ⟨fun W hW => ?_, ?_⟩; (go_simp; (try simp only [Stu.plainUpon_value, true_and]); rfl); go_simp; refine hK _ ?_; clear hK K)
        | (refine Stu.wpR_plain ?_ (by rfl) (by rfl) (fun K hK => ?_); (focus (first | (simp only [Region.wanted]; done) | (go_simp; done))); apply Exists.intro; refine ⟨fun W hW => ?_, ?_⟩; (have hcw := HC.out W hW; go_simp; (try simp only [Stu.plainUpon_value, true_and]); rfl); go_simp; refine hK _ ?_; clear hK K)
        | (refine Stu.wpR_spg (by rfl) (by rfl) ?_ ?_ (fun W hW hF => ?_) (fun K v hv hK => ?_); (focus (first | (simp only [Region.wanted]; done) | (go_simp; done))); (focus (exact ⟨_, 0, rfl⟩)); (go_simp; exact ⟨(Below.refl _ W).alloc (Nat.le_refl _) _, ⟨_, rfl⟩, ⟨_, rfl, HSz.out W hW, heap_new _ _ _ rfl⟩⟩); (obtain ⟨g2, rfl⟩ := hv); go_simp; refine hK _ ?_; clear hK K)
        | (refine Stu.wpR_spu (by rfl) (by rfl) ?_ ?_ (fun W hW hU hF => ?_) (fun K v hv hK => ?_); (focus (first | (simp only [Region.wanted]; done) | (go_simp; done))); (focus (exact ⟨_, none, _, rfl, Nat.le_refl _⟩)); (go_simp; simp only [Stu.relUpon_enter]; (obtain ⟨g', e1, e2, e3⟩ := (show (kvL V.heap.size S hS0 k).q [] (.slice (some ⟨g2, 0, none⟩) 1 1) W from hF 8 rfl); cases e1; exact ins_rel HK5.out hU hpq (by rw [HQ.out]; exact Nat.le_trans hL (by decide)) e3 e2 hS0 HSd.out (Nat.le_trans (Nat.le_trans hBs HBe.out.size) (HSz.out W hW)) (HSz.out W hW))); (obtain ⟨A9, c9, rfl, hc9⟩ := hv); go_simp; refine hK _ ?_; clear hK K))
      refine Stu.wpR_nil (fun w3 hW3 hU hF => ?_)
      have hc3 := HD.out w3 hW3
      have hT3 : TbN w3 B g m (.slice Ak q ck) f n (KvMath.get L) := HT.out.nn.chg hc3 HSg.out HSm.out (fun i hi cs fr e => absurd (HSty.out i hi _ _ _ e) (by decide))
      have hU2 : w3.ownsRow B 9 1 (.slice A9 (q + 1) c9) (q + 1) (svl keys4) ∧ ∀ b, (Value.slice A9 (q + 1) c9).ownBlock = some b → S b ∨ V.heap.size ≤ b := hU
      have ho3 := hU2.1
      have HOw : Hid (∀ b, (Value.slice A9 (q + 1) c9).ownBlock = some b → (Value.slice Ak q ck).ownBlock = some b ∨ V.heap.size ≤ b) := Lib.hid (by have h2 := hU2.2; rw [HSd.out] at h2; exact h2)
      have hx3 := hc3.heap HX.out HSx.out
      have y1 : w3.cell? ⟨g, 1, none⟩ = some (.slice Ak q ck) := by rw [cell_of_row _ g 1 _ _ _ hT3.st]; rfl
      have f1 : w3.frozen? ⟨g, 1, none⟩ = false := frozen_of_row _ g 1 _ _ hT3.st
      have HT3 := Lib.hid hT3; have HO3 := Lib.hid ho3; have HX3 := Lib.hid hx3
      have HC3 : Hid (Chg (fun b => (Value.slice Ak q ck).ownBlock = some b) V w3) := Lib.hid (by rw [← HSd.out]; exact hc3)
      clear hF hW3 hU hU2 HC HSz HD HSg HSm HSx HSty hc3 hT3 ho3 hx3 x0 x1 x2 g0 g1 HSd hS0 S
      go_wp2_with fail
      obtain ⟨w4, hw4⟩ : ∃ w4, w4 = w3.setCell ⟨g, 1, none⟩ (.slice A9 (q + 1) c9) := ⟨_, rfl⟩
      have hch4 : Chg (· = g) w3 w4 := by rw [hw4]; exact Chg.setCell _ _ _ _
      have hT4 : TbN w4 B g m (.slice A9 (q + 1) c9) f n (KvMath.get L) := by rw [hw4]; exact HT3.out.setk _
      have hgn : ∀ t : Nat, t ≠ 68 → ∀ i, i = g → ∀ cs fr, w3.heap[i]? ≠ some (.cells cs t fr) := fun t ht i hi cs fr e => by
        subst hi
        rw [HT3.out.st] at e
        injection e with e
        injection e with _ e
        exact ht e.symm
      have HT4 := Lib.hid hT4
      have HX4 := Lib.hid (hch4.heap HX3.out (fun e => hgn _ (by decide) _ e _ _ HX3.out))
      have HO4 := Lib.hid (orow_stay HO3.out (fun i cs fr _ hi => hch4.heap hi (fun e => hgn _ (by decide) _ e _ _ hi)))
      have HC4 : Hid (Chg (OwnT g m (.slice Ak q ck)) V w4) := Lib.hid ((HC3.out.imp fun i hi => .inr (.inr hi)).trans (hch4.imp fun i hi => .inl hi))
      rw [← hw4]
      clear hw4 hch4 hT4 hgn y1 f1
      have HTV : Hid (TV B w w4) := Lib.hid ((TV.of_below HBe.out hBs).trans (HT.out.tv (Nat.le_trans hBs HBe.out.size) HC4.out))
      have hB4 : ∀ W', Gb0 w4.drew W' → Below w4.heap.size w4 W' := fun W' hW => below_then (Below.drew (Below.refl w4.heap.size w4)) (Nat.le_refl _) hW
      have HB4 := Lib.hid hB4
      have HC : Hid (∀ W', Gb0 w4.drew W' → W'.cell? ⟨g, 0, none⟩ = some (.map (some m)) ∧ W'.cell? ⟨w.heap.size, 0, none⟩ = some (.string k) ∧ W'.cell? ⟨w.heap.size, 1, none⟩ = some (.slice A nl c)) := Lib.hid fun W' hW => by
        have hb := HB4.out W' hW
        have hx := (hb.block _ (Array.getElem?_eq_some_iff.1 HX4.out).1).trans HX4.out
        exact ⟨by rw [cell_of_row _ g 0 _ _ _ (HT4.out.below hb).st]; rfl, by rw [cell_of_row _ w.heap.size 0 _ _ _ hx]; rfl, by rw [cell_of_row _ w.heap.size 1 _ _ _ hx]; rfl⟩
      have HRd : Hid (∀ W', Gb0 w4.drew W' → Rd W' A l) := Lib.hid fun W' hW => HV.out W' (HTV.out.trans (TV.of_below (HB4.out W' hW) (Nat.le_trans hBs HTV.out.1.size)))
      clear hB4
      refine Stu.wp_region_stu_tail _ 9 (Stu.mkT [(8, kvS nl l)]) (fun _ => True) [] Gb0.refl Gb0.trans (fun _ _ h => h) (fun _ _ _ _ => trivial) trivial (Stu.mkT_ks _ (by show List.Nodup [8]; decide) _ rfl) (by kernel_rfl) (by kernel_rfl) (by kernel_rfl) ?_
      simp only [List.take_succ_cons, List.take_zero, List.drop_succ_cons, List.drop_zero]
      repeat (first
        | (refine Stu.wpR_plain ?_ (by rfl) (by rfl) (fun K hK => ?_); (focus (first | (simp only [Region.wanted]; done) | (go_simp; done))); apply Exists.intro; refine ⟨fun W hW => ?_, ?_⟩; (go_simp; (try simp only [Stu.plainUpon_value, true_and]); rfl); go_simp; refine hK _ ?_; clear hK K)
        | (refine Stu.wpR_plain ?_ (by rfl) (by rfl) (fun K hK => ?_); (focus (first | (simp only [Region.wanted]; done) | (go_simp; done))); apply Exists.intro; refine ⟨fun W hW => ?_, ?_⟩; (have hcw := HC.out W hW; go_simp; (try simp only [Stu.plainUpon_value, true_and]); rfl); go_simp; refine hK _ ?_; clear hK K)
        | (refine Stu.wpR_spg (by rfl) (by rfl) ?_ ?_ (fun W hW hF => ?_) (fun K v hv hK => ?_); (focus (first | (simp only [Region.wanted]; done) | (go_simp; done))); (focus (exact ⟨_, none, _, rfl, Nat.le_refl _⟩)); (go_simp; simp only [Stu.relUpon_enter]; exact clone_rel0 W A nl c l (HRd.out W hW) HNL.out (by rw [HNL.out]; exact hl)); (obtain ⟨A8, c8, rfl, hc8⟩ := hv); go_simp; refine hK _ ?_; clear hK K))
      refine Stu.wpR_nil (fun W5 hW5 hU hF => ?_)
      have hs8 : Sl W5 (.slice A8 nl c8) l := hF 8
      have hb5 := HB4.out W5 hW5
      obtain ⟨w6, hrun, ⟨f6, hT6⟩, hc6⟩ := (HT4.out.below hb5).put (by omega) k (by omega) hs8
      have HT6 := Lib.hid hT6; have HC6 := Lib.hid hc6; have HB5 := Lib.hid hb5
      clear hF hW5 hU HC hT6 hc6 hb5 hs8 HRd HB4 HTV
      go_wp2
      go_end0
      have hme : ∀ t : Nat, ∀ i, i = m → ∀ cs fr, W5.heap[i]? ≠ some (.cells cs t fr) := fun t i hi cs fr e => by
        subst hi
        obtain ⟨es, clock, hb⟩ := (HT4.out.below HB5.out).mp.blk
        rw [hb] at e
        injection e with e
        cases e
      have ho6 := orow_stay (orow_stay HO4.out (fun i cs fr _ hi => (HB5.out.block i (Array.getElem?_eq_some_iff.1 hi).1).trans hi)) (fun i cs fr _ hi => HC6.out.heap hi (fun e => hme _ _ e _ _ hi))
      have hfin := HT.out.fin k l false (by simpa using HT6.out) ho6 HK4.out hk hl
      have hchg : Chg (OwnT g m (.slice Ak q ck)) V w6 := HC4.out.trans ((Chg.of_below HB5.out).trans (HC6.out.imp fun i hi => .inr (.inl hi)))
      exact ⟨rfl, _, f6, n + 1, hfin, by omega, (Chg.of_below HBe.out).trans hchg, fun b hb => (HOw.out b hb).imp (fun h => h) (fun h => Nat.le_trans HBe.out.size h)⟩
theorem TbK.tb {w w' : World} {B g N m n : Nat} {vk : Value} {f : ByteArray → Option Value} {L L' : List KvMath.Ent} (h : TbK w w' B g N m vk L') (hT : TbM w B g m vk f n L) (hB : B ≤ w.heap.size) : Tb w w' B g N L' ∧ TV B w w' := by
  obtain ⟨vk', f', n', h1, h2, h3, h4⟩ := h
  have htv := hT.tv hB h3
  exact ⟨⟨m, vk', f', n', h1, h2, htv.1, Nat.le_trans hB htv.1.size⟩, htv⟩
end Go.Proofs.Ytgaccogekmaijaa
