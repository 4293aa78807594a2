/- A table in memory: New, Len, Get. -/
import Derived.Test.YtgaccogekmaijaaKvRow
import Derived.Test.YtgaccogekmaijaaRelTail
import Derived.Test.YtgaccogekmaijaaStr
namespace Go.Proofs.Ytgaccogekmaijaa
open Go.RowKit Go.Lib
set_option linter.unusedVariables false
set_option linter.unusedSimpArgs false
/-- a row stays where its block does -/
theorem orow_stay {w w1 : World} {B e size n : Nat} {v : Value} {xs : List Value} (h : w.ownsRow B e size v n xs) (hs : ∀ (k : Nat) cs fr, v.ownBlock = some k → w.heap[k]? = some (.cells cs e fr) → w1.heap[k]? = some (.cells cs e fr)) : w1.ownsRow B e size v n xs := by
  refine ⟨h.1, ?_⟩
  rcases h.2 with hn | ⟨g, cap, cur, h1, h2, h3, h4⟩
  · exact .inl hn
  · exact .inr ⟨g, cap, cur, h1, h2, hs _ _ _ (by rw [h1]; rfl) h3, h4⟩
theorem orow_low {w : World} {B B' e size n : Nat} {v : Value} {xs : List Value} (h : w.ownsRow B e size v n xs) (hb : B' ≤ B) : w.ownsRow B' e size v n xs := by
  refine ⟨h.1, ?_⟩
  rcases h.2 with hn | ⟨g, cap, cur, h1, h2, h3, h4⟩
  · exact .inl hn
  · exact .inr ⟨g, cap, cur, h1, Nat.le_trans hb h2, h3, h4⟩
theorem orow_typ {w : World} {B e size n : Nat} {v : Value} {xs : List Value} (h : w.ownsRow B e size v n xs) {k : Nat} (hk : v.ownBlock = some k) : ∃ cs, w.heap[k]? = some (.cells cs e (0, 0)) ∧ B ≤ k := by
  rcases h.2 with ⟨rfl, _⟩ | ⟨g, cap, cur, rfl, h2, h3, h4⟩
  · cases hk
  · simp [Value.ownBlock] at hk
    subst hk
    exact ⟨_, h3, h2⟩
theorem orow_shape {w : World} {B e size n : Nat} {v : Value} {xs : List Value} (h : w.ownsRow B e size v n xs) : ∃ A c, v = .slice A n c ∧ n ≤ c := by
  rcases h.2 with ⟨rfl, h0⟩ | ⟨g, cap, cur, rfl, _, _, hc, _⟩
  · exact ⟨none, 0, by rw [h0], by omega⟩
  · exact ⟨_, cap, rfl, hc⟩
/-- what is below B stays, and blocks of other types than a table's -/
def TV (B : Nat) (w w' : World) : Prop := Below B w w' ∧ ∀ (k : Nat) cs (t : Nat) fr, t ≠ 68 → t ≠ 9 → w.heap[k]? = some (.cells cs t fr) → w'.heap[k]? = some (.cells cs t fr)
theorem TV.refl (B : Nat) (w : World) : TV B w w := ⟨Below.refl _ _, fun _ _ _ _ _ _ h => h⟩
theorem TV.trans {B : Nat} {a b c : World} (h : TV B a b) (k : TV B b c) : TV B a c := ⟨h.1.trans k.1, fun i cs t fr h1 h2 h5 => k.2 i cs t fr h1 h2 (h.2 i cs t fr h1 h2 h5)⟩
theorem TV.of_below {B : Nat} {w w' : World} (h : Below w.heap.size w w') (hB : B ≤ w.heap.size) : TV B w w' := ⟨h.mono hB, fun k _ _ _ _ _ h3 => (h.block k (Array.getElem?_eq_some_iff.1 h3).1).trans h3⟩
theorem TV.sl {B : Nat} {w w' : World} (h : TV B w w') {v : Value} {l : List UInt8} (hs : Sl w v l) : Sl w' v l := by
  obtain ⟨A, c, h1, h2, h3, h4⟩ := hs
  refine ⟨A, c, h1, h2, ⟨h3.1, fun hp => ?_⟩, fun a e => ?_⟩
  · obtain ⟨a, e, hc⟩ := h3.2 hp
    obtain ⟨cs, fr, h5⟩ := h4 a e
    refine ⟨a, e, fun j hj => ?_⟩
    have h6 : (a.add j).block = a.block := by unfold Addr.add; split <;> rfl
    rw [World.cell?_of_block (w := w) (by rw [h6]; exact (h.2 _ _ _ _ (by decide) (by decide) h5).trans h5.symm)]
    exact hc j hj
  · obtain ⟨cs, fr, h5⟩ := h4 a e
    exact ⟨cs, fr, h.2 _ _ _ _ (by decide) (by decide) h5⟩
/-- what a map's function holds: slices of bytes -/
def Fm (w : World) (f : ByteArray → Option Value) (γ : ByteArray → Option (List UInt8)) : Prop := ∀ k, match γ k with | none => f k = none | some l => ∃ v, f k = some v ∧ Sl w v l
theorem Fm.imp {w w' : World} {f : ByteArray → Option Value} {γ : ByteArray → Option (List UInt8)} (h : Fm w f γ) (hs : ∀ v l, Sl w v l → Sl w' v l) : Fm w' f γ := by
  intro k
  have := h k
  cases hg : γ k with
  | none => rw [hg] at this; exact this
  | some l =>
    rw [hg] at this
    obtain ⟨v, h1, h2⟩ := this
    exact ⟨v, h1, hs _ _ h2⟩
/-- a table but for its keys' row -/
structure TbN (w : World) (B g m : Nat) (vk : Value) (f : ByteArray → Option Value) (n : Nat) (γ : ByteArray → Option (List UInt8)) : Prop where
  st : w.heap[g]? = some (.cells #[.map (some m), vk] 68)
  mp : Mp w m n f
  fm : Fm w f γ
  gb : B ≤ g
  mb : B ≤ m
theorem TbN.chg {S : Nat → Prop} {w w1 : World} {B g m n : Nat} {vk : Value} {f : ByteArray → Option Value} {γ : ByteArray → Option (List UInt8)} (h : TbN w B g m vk f n γ) (hc : Chg S w w1) (h1 : ¬ S g) (h2 : ¬ S m) (h8 : ∀ k, S k → ∀ cs fr, w.heap[k]? ≠ some (.cells cs 5 fr)) : TbN w1 B g m vk f n γ :=
  ⟨hc.heap h.st h1, h.mp.same (hc.block m h.mp.lt h2), h.fm.imp fun _ _ hs => hs.chg hc h8, h.gb, h.mb⟩
theorem TbN.below {w w1 : World} {B g m n : Nat} {vk : Value} {f : ByteArray → Option Value} {γ : ByteArray → Option (List UInt8)} (h : TbN w B g m vk f n γ) (hb : Below w.heap.size w w1) : TbN w1 B g m vk f n γ :=
  h.chg (Chg.of_below (S := fun _ => False) hb) (fun h => h) (fun h => h) (fun _ h => h.elim)
theorem TbN.gm {w : World} {B g m n : Nat} {vk : Value} {f : ByteArray → Option Value} {γ : ByteArray → Option (List UInt8)} (h : TbN w B g m vk f n γ) : g ≠ m := by
  intro e
  obtain ⟨es, clock, hb⟩ := h.mp.blk
  have := h.st
  rw [e, hb] at this
  injection this with this
  cases this
/-- the table's cell of the keys turns -/
theorem TbN.setk {w : World} {B g m n : Nat} {vk : Value} {f : ByteArray → Option Value} {γ : ByteArray → Option (List UInt8)} (h : TbN w B g m vk f n γ) (v : Value) : TbN (w.setCell ⟨g, 1, none⟩ v) B g m v f n γ := by
  have hc := Chg.setCell w g 1 v
  refine ⟨heap_setCell_same w g 1 _ _ v h.st, h.mp.same (hc.block m h.mp.lt (fun e => h.gm e.symm)), h.fm.imp fun _ _ hs => hs.chg hc (fun k hk cs fr e => ?_), h.gb, h.mb⟩
  have hk : k = g := hk
  subst hk
  rw [h.st] at e
  injection e with e
  injection e with _ e
  exact absurd e (by decide)
theorem TbN.mapped {w w1 : World} {B g m n n' : Nat} {vk : Value} {f f' : ByteArray → Option Value} {γ γ' : ByteArray → Option (List UInt8)} (h : TbN w B g m vk f n γ) (hc : Chg (· = m) w w1) (hm : Mp w1 m n' f') (hf : Fm w f' γ') : TbN w1 B g m vk f' n' γ' := by
  refine ⟨hc.heap h.st h.gm, hm, hf.imp fun _ _ hs => hs.chg hc (fun k hk cs fr e => ?_), h.gb, h.mb⟩
  have hk : k = m := hk
  subst hk
  obtain ⟨es, clock, hb⟩ := h.mp.blk
  rw [hb] at e
  injection e with e
  cases e
theorem TbN.put {w : World} {B g m n : Nat} {vk : Value} {f : ByteArray → Option Value} {γ : ByteArray → Option (List UInt8)} (h : TbN w B g m vk f n γ) (hn : n ≤ 1000000) (k : ByteArray) (hk : k.size ≤ 1000) {v : Value} {l : List UInt8} (hs : Sl w v l) :
    ∃ w', (Instr.mapUpdate 65 (.map (some m)) (.string k) v).run Try.prog w = .ok () w' ∧ (∃ f', TbN w' B g m vk f' (n + 1) (fun j => if j = k then some l else γ j)) ∧ Chg (· = m) w w' := by
  obtain ⟨w', hrun, h2, h3⟩ := h.mp.update (by unfold maxLen; omega) k (by unfold maxLen; omega) v
  have hch : Chg (· = m) w w' := ⟨h3.os, h3.tape, h3.output, h3.size, fun k hk hne => h3.block k hk (fun e => hne (by injection e))⟩
  refine ⟨w', hrun, ⟨_, h.mapped hch h2 (fun j => ?_)⟩, hch⟩
  have := h.fm j
  by_cases e : j = k
  · subst e
    simp only [if_true]
    exact ⟨v, rfl, hs⟩
  · simp only [e, if_false]
    exact this
theorem TbN.del {w : World} {B g m n : Nat} {vk : Value} {f : ByteArray → Option Value} {γ : ByteArray → Option (List UInt8)} (h : TbN w B g m vk f n γ) (k : ByteArray) (hk : k.size ≤ 1000) (ty : TypeId) :
    ∃ w', (Builtin.delete_ #[65, 9] ty #[.map (some m), .string k]).run Try.prog w = .ok (.tuple #[]) w' ∧ (∃ f', TbN w' B g m vk f' n (fun j => if j = k then none else γ j)) ∧ Chg (· = m) w w' := by
  obtain ⟨w', hrun, h2, h3⟩ := h.mp.drop k (by unfold maxLen; omega) ty
  have hch : Chg (· = m) w w' := ⟨h3.os, h3.tape, h3.output, h3.size, fun k hk hne => h3.block k hk (fun e => hne (by injection e))⟩
  refine ⟨w', hrun, ⟨_, h.mapped hch h2 (fun j => ?_)⟩, hch⟩
  have := h.fm j
  by_cases e : j = k
  · subst e
    simp only [if_true]
  · simp only [e, if_false]
    exact this
/-- a table -/
structure TbM (w : World) (B g m : Nat) (vk : Value) (f : ByteArray → Option Value) (n : Nat) (L : List KvMath.Ent) : Prop where
  nn : TbN w B g m vk f n (KvMath.get L)
  ks : w.ownsRow B 9 1 vk L.length (svl (L.map (·.1)))
  ri : KvMath.Rise L
  kz : ∀ p ∈ L, p.1.size ≤ 200 ∧ p.2.length ≤ 200000
def OwnT (g m : Nat) (vk : Value) (k : Nat) : Prop := k = g ∨ k = m ∨ vk.ownBlock = some k
theorem TbM.typ {w : World} {B g m n : Nat} {vk : Value} {f : ByteArray → Option Value} {L : List KvMath.Ent} (h : TbM w B g m vk f n L) : ∀ k, OwnT g m vk k → B ≤ k ∧ ∀ cs t fr, w.heap[k]? = some (.cells cs t fr) → t = 68 ∨ t = 9 := by
  intro k hk
  rcases hk with rfl | rfl | hk
  · refine ⟨h.nn.gb, fun cs t fr e => ?_⟩
    rw [h.nn.st] at e
    injection e with e
    injection e with _ e
    exact .inl e.symm
  · refine ⟨h.nn.mb, fun cs t fr e => ?_⟩
    obtain ⟨es, clock, hb⟩ := h.nn.mp.blk
    rw [hb] at e
    injection e with e
    cases e
  · obtain ⟨cs', e', hB⟩ := orow_typ h.ks hk
    refine ⟨hB, fun cs t fr e => ?_⟩
    rw [e'] at e
    injection e with e
    injection e with _ e
    exact .inr e.symm
theorem TbM.tv {w w1 : World} {B g m n : Nat} {vk : Value} {f : ByteArray → Option Value} {L : List KvMath.Ent} (h : TbM w B g m vk f n L) (hB : B ≤ w.heap.size) (hc : Chg (OwnT g m vk) w w1) : TV B w w1 :=
  ⟨Chg.below (Below.refl _ _) hc hB (fun k hk => (h.typ k hk).1), fun k cs t fr h1 h2 hk => hc.heap hk (fun ho => by
    rcases (h.typ k ho).2 cs t fr hk with e | e
    · exact h1 e
    · exact h2 e)⟩
theorem TbM.below {w w1 : World} {B g m n : Nat} {vk : Value} {f : ByteArray → Option Value} {L : List KvMath.Ent} (h : TbM w B g m vk f n L) (hb : Below w.heap.size w w1) : TbM w1 B g m vk f n L :=
  ⟨h.nn.below hb, orow_stay h.ks (fun k cs fr _ hk => (hb.block k (Array.getElem?_eq_some_iff.1 hk).1).trans hk), h.ri, h.kz⟩
/-- a table as its users see it -/
def Tb (w0 w : World) (B g N : Nat) (L : List KvMath.Ent) : Prop := ∃ m vk f n, TbM w B g m vk f n L ∧ n ≤ N ∧ Below B w0 w ∧ B ≤ w.heap.size
theorem Tb.bel {w0 w : World} {B g N : Nat} {L : List KvMath.Ent} (h : Tb w0 w B g N L) : Below B w0 w := by obtain ⟨m, vk, f, n, h1, h2, h3, h4⟩ := h; exact h3
theorem Tb.sz {w0 w : World} {B g N : Nat} {L : List KvMath.Ent} (h : Tb w0 w B g N L) : B ≤ w.heap.size := by obtain ⟨m, vk, f, n, h1, h2, h3, h4⟩ := h; exact h4
theorem Tb.ri {w0 w : World} {B g N : Nat} {L : List KvMath.Ent} (h : Tb w0 w B g N L) : KvMath.Rise L := by obtain ⟨m, vk, f, n, h1, h2, h3, h4⟩ := h; exact h1.ri
theorem Tb.kz {w0 w : World} {B g N : Nat} {L : List KvMath.Ent} (h : Tb w0 w B g N L) : ∀ p ∈ L, p.1.size ≤ 200 ∧ p.2.length ≤ 200000 := by obtain ⟨m, vk, f, n, h1, h2, h3, h4⟩ := h; exact h1.kz
theorem Tb.below {w0 w w1 : World} {B g N : Nat} {L : List KvMath.Ent} (h : Tb w0 w B g N L) (hb : Below w.heap.size w w1) : Tb w0 w1 B g N L := by
  obtain ⟨m, vk, f, n, h1, h2, h3, h4⟩ := h
  exact ⟨m, vk, f, n, h1.below hb, h2, below_then h3 h4 hb, Nat.le_trans h4 hb.size⟩
theorem Tb.mono {w0 w : World} {B g N N' : Nat} {L : List KvMath.Ent} (h : Tb w0 w B g N L) (hN : N ≤ N') : Tb w0 w B g N' L := by
  obtain ⟨m, vk, f, n, h1, h2, h3, h4⟩ := h
  exact ⟨m, vk, f, n, h1, Nat.le_trans h2 hN, h3, h4⟩
theorem Tb.re {w0 w : World} {B g N : Nat} {L : List KvMath.Ent} (h : Tb w0 w B g N L) : Tb w w B g N L := by
  obtain ⟨m, vk, f, n, h1, h2, h3, h4⟩ := h
  exact ⟨m, vk, f, n, h1, h2, Below.refl _ _, h4⟩
theorem Tb.lift {w0 w w1 : World} {B g N : Nat} {L : List KvMath.Ent} (h : Tb w w1 B g N L) (hb : Below B w0 w) : Tb w0 w1 B g N L := by
  obtain ⟨m, vk, f, n, h1, h2, h3, h4⟩ := h
  exact ⟨m, vk, f, n, h1, h2, hb.trans h3, h4⟩
set_option maxRecDepth 20000 in
theorem kv_new (w : World) : Calls Try.prog 10 #[] w fun e w' => e = .returned (.pointer (some ⟨w.heap.size + 1, 0, none⟩)) ∧ Tb w w' w.heap.size (w.heap.size + 1) 0 [] ∧ Below w.heap.size w w' := by
  have hmm := @run_makeMap Try.prog
  go_enter Try.func10, Try.ntmps10
  go_wp2
  go_ret
  have hb0 : Below w.heap.size w (w.alloc (.map #[] 0)) := (Below.refl _ w).alloc (Nat.le_refl _) _
  have hb : Below w.heap.size w ((w.alloc (.map #[] 0)).alloc (.cells #[.map (some w.heap.size), .slice none 0 0] 68)) := hb0.alloc (by simp) _
  refine ⟨by simp, ⟨w.heap.size, .slice none 0 0, _, 0, ⟨⟨?_, (Mp.made w).same ?_, fun k => rfl, Nat.le_succ _, Nat.le_refl _⟩, ⟨rfl, .inl ⟨rfl, rfl⟩⟩, List.Pairwise.nil, fun p hp => by cases hp⟩, Nat.le_refl _, hb, hb.size⟩, hb⟩
  · exact heap_new _ _ _ (by simp)
  · exact ((Below.refl _ (w.alloc (.map #[] 0))).alloc (Nat.le_refl _) _).block _ (by simp)
theorem kv_len {w0 w : World} {B g N : Nat} {L : List KvMath.Ent} (h : Tb w0 w B g N L) : Calls Try.prog 13 #[.pointer (some ⟨g, 0, none⟩)] w fun e w' => e = .returned (.int .i64 L.length) ∧ w' = w := by
  obtain ⟨m, vk, f, n, h1, _⟩ := h
  obtain ⟨A, c, hvk, hc⟩ := orow_shape h1.ks
  have hce : w.cell? ⟨g, 1, none⟩ = some (.slice A L.length c) := by rw [cell_of_row _ g 1 _ _ _ h1.nn.st, hvk]; rfl
  clear h1 hvk
  generalize L.length = q at *
  go_enter Try.func13, Try.ntmps13
  go_wp2
  go_ret
  exact ⟨rfl, rfl⟩
set_option maxRecDepth 20000 in
theorem kv_get {w0 w : World} {B g N : Nat} {L : List KvMath.Ent} (h : Tb w0 w B g N L) (k : ByteArray) (hk : k.size ≤ 1000) : Calls Try.prog 21 #[.pointer (some ⟨g, 0, none⟩), .string k] w fun e w' => ∃ v, e = .returned (.tuple #[v, .bool (KvMath.get L k).isSome]) ∧ Sl w' v ((KvMath.get L k).getD []) ∧ Below w.heap.size w w' := by
  obtain ⟨m, vk, f, n, h1, _⟩ := h
  have hce : w.cell? ⟨g, 0, none⟩ = some (.map (some m)) := by rw [cell_of_row _ g 0 _ _ _ h1.nn.st]; rfl
  have hlook := h1.nn.mp.look k (by unfold maxLen; omega)
  have hfm := h1.nn.fm k
  have hkz : ∀ l, KvMath.get L k = some l → l.length ≤ 200000 := fun l hl => (h1.kz _ (KvMath.mem_of_get hl)).2
  obtain ⟨A, c, l, hv, hlc, hrd, hl, hsome, hgl, hlz⟩ : ∃ A c l, (f k).getD (.slice none 0 0) = .slice A l.length c ∧ l.length ≤ c ∧ Rd w A l ∧ l = (KvMath.get L k).getD [] ∧ (f k).isSome = (KvMath.get L k).isSome ∧ True ∧ l.length ≤ 200000 := by
    cases hg : KvMath.get L k with
    | none =>
      rw [hg] at hfm
      have hfm : f k = none := hfm
      rw [hfm]
      exact ⟨none, 0, [], rfl, Nat.le_refl _, Rd.nil _ _, rfl, rfl, trivial, by simp⟩
    | some l =>
      rw [hg] at hfm
      obtain ⟨v, h2, h3⟩ := hfm
      rw [h2]
      obtain ⟨A, c, rfl, h4, h5⟩ := h3.rd
      exact ⟨A, c, l, rfl, h4, h5, rfl, rfl, trivial, hkz l hg⟩
  rw [hv, hsome] at hlook
  rw [← hl]
  have hcl := Lib.hid (clone_any w A c l hrd (by omega))
  clear hfm hkz hv hl hsome hrd h1
  generalize (KvMath.get L k).isSome = b at *
  obtain ⟨nl, hnl⟩ : ∃ nl, nl = l.length := ⟨_, rfl⟩
  rw [← hnl] at hlook hcl hlc hlz
  have HNL := Lib.hid hnl
  clear hnl
  go_enter Try.func21, Try.ntmps21
  go_wp2_with fail
  refine hcl.out.mono ?_
  rintro e w1 ⟨v, rfl, ho, hb⟩
  obtain ⟨A1, c1, hv1, _⟩ := ho.rd
  subst hv1
  rw [← HNL.out]
  have HO := Lib.hid ho; have HB := Lib.hid hb
  clear ho hb hcl
  go_wp2
  go_ret2
  refine ⟨_, rfl, ?_, HB.out⟩
  have := HO.out.sl
  rw [← HNL.out] at this
  exact this
end Go.Proofs.Ytgaccogekmaijaa
