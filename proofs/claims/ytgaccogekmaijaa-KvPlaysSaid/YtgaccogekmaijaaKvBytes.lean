/- Rows of changes of the call's own; a table in bytes. -/
import Derived.Test.YtgaccogekmaijaaKvEnc
import Derived.Test.YtgaccogekmaijaaKvRange
namespace Go.Proofs.Ytgaccogekmaijaa
open Go.RowKit
set_option linter.unusedVariables false
set_option linter.unusedSimpArgs false
def PutCells (w : World) : List Value → List PutD → Prop
  | xs, [] => xs = []
  | xs, r :: rs => ∃ vb t, xs = .string r.key :: vb :: .bool r.gone :: t ∧ Sl w vb r.val ∧ PutCells w t rs
theorem PutCells.snoc {w : World} {xs : List Value} {rs : List PutD} (h : PutCells w xs rs) {x : PutD} {vb : Value} (hb : Sl w vb x.val) : PutCells w (xs ++ [.string x.key, vb, .bool x.gone]) (rs ++ [x]) := by
  induction rs generalizing xs with
  | nil => cases h; exact ⟨vb, [], rfl, hb, rfl⟩
  | cons r rs ih =>
    obtain ⟨v, t, rfl, h1, h2⟩ := h
    exact ⟨v, t ++ [.string x.key, vb, .bool x.gone], rfl, h1, ih h2⟩
theorem PutCells.imp {w w1 : World} {xs : List Value} {rs : List PutD} (h : PutCells w xs rs) (hi : ∀ v l, Sl w v l → Sl w1 v l) : PutCells w1 xs rs := by
  induction rs generalizing xs with
  | nil => exact h
  | cons r rs ih =>
    obtain ⟨v, t, rfl, h1, h2⟩ := h
    exact ⟨v, t, rfl, hi _ _ h1, ih h2⟩
theorem PutCells.at_ {w : World} {xs : List Value} {rs : List PutD} (h : PutCells w xs rs) : xs.length = rs.length * 3 ∧ ∀ i, (hi : i < rs.length) → ∃ vb, xs[i * 3]? = some (.string rs[i].key) ∧ xs[i * 3 + 1]? = some vb ∧ xs[i * 3 + 2]? = some (.bool rs[i].gone) ∧ Sl w vb rs[i].val := by
  induction rs generalizing xs with
  | nil => cases h; exact ⟨rfl, fun i hi => absurd hi (by simp)⟩
  | cons r rs ih =>
    obtain ⟨v, t, rfl, h1, h2⟩ := h
    obtain ⟨h3, h4⟩ := ih h2
    refine ⟨by simp [h3]; omega, fun i hi => ?_⟩
    cases i with
    | zero => exact ⟨v, rfl, rfl, rfl, h1⟩
    | succ i =>
      obtain ⟨vb, h5, h6, h7, h8⟩ := h4 i (by simpa using hi)
      exact ⟨vb, by rw [show (i + 1) * 3 = i * 3 + 1 + 1 + 1 by omega]; simpa using h5, by rw [show (i + 1) * 3 + 1 = i * 3 + 1 + 1 + 1 + 1 by omega]; simpa using h6, by rw [show (i + 1) * 3 + 2 = i * 3 + 2 + 1 + 1 + 1 by omega]; simpa using h7, by simpa using h8⟩
/-- a slice of changes of the call's own -/
def PutsR (w : World) (base : Nat) (v : Value) (rs : List PutD) : Prop := ∃ xs, w.ownsRow base 38 3 v rs.length xs ∧ PutCells w xs rs
theorem PutsR.nil (w : World) (base : Nat) : PutsR w base (.slice none 0 0) [] := ⟨[], ⟨rfl, .inl ⟨rfl, rfl⟩⟩, rfl⟩
theorem PutsR.below {w w1 : World} {base : Nat} {v : Value} {rs : List PutD} (h : PutsR w base v rs) (hb : Below w.heap.size w w1) : PutsR w1 base v rs := by
  obtain ⟨xs, h1, h2⟩ := h
  exact ⟨xs, World.ownsRow.kept h1 ⟨hb.os, hb.tape, hb.output, hb.size, fun k hk _ => hb.block k hk⟩ (row := none) (by cases v.ownBlock <;> simp), h2.imp fun _ _ h => h.below hb⟩
theorem info_put : (Try.prog.info? 38).map (fun i => (i.zero, i.size, i.bytes)) = some (some (.agg #[.string ByteArray.empty, .slice none 0 0, .bool false]), 3, 48) := by kernel_rfl
/-- append(v, r), r in a block just made. -/
theorem PutsR.app {ops : Array Oper} {rest : List Oper} {o : Oper} {a : Act} {Q : Exit → Act → World → Prop} {w : World} (base : Nat) (hgd : o.guard = none) (s x : Operand)
    (ho : o.op = .call { callee := .builtin .append, args := #[s, x], argTypes := #[22, 22] })
    (v : Value) (rs : List PutD) (k : ByteArray) (gone : Bool) (A : Option Addr) (n c : Nat) (l : List UInt8) (gg : Nat) (hgg : gg = w.heap.size) (hs : a.eval s = v) (hx : a.eval x = .slice (some ⟨gg, 0, none⟩) 1 1)
    (HO : PutsR w base v rs) (hb : Sl w (.slice A n c) l) (hbase : base ≤ w.heap.size) (hlen : rs.length ≤ 1000000000)
    (h : ∀ v1 w1, PutsR w1 base v1 (rs ++ [⟨k, l, gone⟩]) → Below base w w1 → wpList Try.prog ops Q rest (a.put o.dst v1) w1) : wpList Try.prog ops Q (o :: rest) a (w.alloc (.cells #[.string k, .slice A n c, .bool gone] 38)) := by
  subst hgg
  obtain ⟨xs, hO, hC⟩ := HO
  have hba := (Below.refl w.heap.size w).alloc (Nat.le_refl _) (.cells #[.string k, .slice A n c, .bool gone] 38)
  have hO1 : (w.alloc (.cells #[.string k, .slice A n c, .bool gone] 38)).ownsRow base 38 3 v rs.length xs :=
    World.ownsRow.kept hO ⟨hba.os, hba.tape, hba.output, hba.size, fun k hk _ => hba.block k hk⟩ (row := none) (by cases v.ownBlock <;> simp)
  have hh : (w.alloc (.cells #[.string k, .slice A n c, .bool gone] 38)).heap[w.heap.size]? = some (.cells #[.string k, .slice A n c, .bool gone] 38) := heap_new w _ _ rfl
  refine wpList_app (w0 := w) base hgd s x 22 38 (.agg #[.string ByteArray.empty, .slice none 0 0, .bool false]) 3 48 ho Try.underlying22 info_put rfl (by decide) (by decide) v rs.length xs [.string k, .slice A n c, .bool gone] (some ⟨w.heap.size, 0, none⟩) 1 1 hs hx hO1 rfl ?_ ?_ (hba.mono hbase) (Nat.le_trans hbase hba.size) (by omega) ?_
  · intro _
    refine ⟨_, rfl, fun j u hu => ?_⟩
    have ha : (⟨w.heap.size, 0, none⟩ : Addr).add j = ⟨w.heap.size, j, none⟩ := by unfold Addr.add; split <;> simp_all
    rw [ha, cell_of_row _ w.heap.size j _ _ _ hh]
    simpa using hu
  · intro u hu
    simp at hu
    rcases hu with rfl | rfl | rfl <;> rfl
  · intro v1 w1 h1 h2 h3 _
    refine h v1 w1 ⟨xs ++ [.string k, .slice A n c, .bool gone], by simpa using h1, ?_⟩ h2
    have he : (38 : Nat) ≠ 5 := by decide
    exact (hC.imp fun _ _ h => (h.below hba).wrote hO1 he h3).snoc (x := ⟨k, l, gone⟩) ((hb.below hba).wrote hO1 he h3)
/-- as an argument -/
theorem PutsR.row {w : World} {base : Nat} {v : Value} {rs : List PutD} (h : PutsR w base v rs) (hz : ∀ x ∈ rs, x.key.size ≤ 140737488351232 ∧ x.val.length ≤ 140737488351232) : ∃ A c, v = .slice A rs.length c ∧ rs.length ≤ c ∧ Row KPut 3 w A rs := by
  obtain ⟨xs, ho, hC⟩ := h
  obtain ⟨hxl, hat⟩ := hC.at_
  rcases ho.2 with ⟨rfl, hn⟩ | ⟨g, cap, cur, rfl, hb, hh, hc, hm, hsz, htk⟩
  · exact ⟨none, 0, by rw [hn], by omega, fun hp => by omega⟩
  · refine ⟨_, cap, rfl, hc, fun _ => ⟨_, rfl, fun j hj => ?_⟩⟩
    obtain ⟨vb, h1, h2, h3, h4⟩ := hat j hj
    obtain ⟨A', c', rfl, h5, h6⟩ := h4.rd
    obtain ⟨z1, z2⟩ := hz rs[j] (List.getElem_mem hj)
    refine ⟨[.string rs[j].key, .slice A' rs[j].val.length c', .bool rs[j].gone], rfl, ⟨A', c', rfl, h5, h6, z1, z2⟩, fun i hi => ?_⟩
    match i, hi with
    | 0, _ => exact World.ownsRow.cells (g := g) ho rfl (j * 3) _ h1
    | 1, _ => exact World.ownsRow.cells (g := g) ho rfl (j * 3 + 1) _ h2
    | 2, _ => exact World.ownsRow.cells (g := g) ho rfl (j * 3 + 2) _ h3
def toPut (p : KvMath.Ent) : PutD := ⟨p.1, p.2, false⟩
def bytesB (L : List KvMath.Ent) : List UInt8 := if (L.map toPut).all PutD.good then KvMath.encB ((L.map toPut).map PutD.ent) else []
set_option maxRecDepth 20000 in
set_option maxHeartbeats 4000000 in
theorem kv_bytes {w0 w : World} {B g N : Nat} {L : List KvMath.Ent} (h : Tb w0 w B g N L) (hL : L.length ≤ 1000) :
    Calls Try.prog 14 #[.pointer (some ⟨g, 0, none⟩)] w fun e w' => ∃ v, e = .returned v ∧ Sl w' v (bytesB L) ∧ Below w.heap.size w w' := by
  obtain ⟨m, vk, f, n, hT, _⟩ := h
  obtain ⟨Ak, ck, hvk, hck⟩ := orow_shape hT.ks
  obtain ⟨nk, hnk⟩ : ∃ nk, nk = L.length := ⟨_, rfl⟩
  rw [← hnk] at hvk hck
  have g1 : w.cell? ⟨g, 1, none⟩ = some (.slice Ak nk ck) := by rw [cell_of_row _ g 1 _ _ _ hT.nn.st, hvk]; rfl
  have hri := hT.ri
  have hnkl : nk ≤ 1000 := by omega
  have HTb := Lib.hid hT; have HVK := Lib.hid hvk; have HNK := Lib.hid hnk; have HRI := Lib.hid hri
  clear hT hvk hnk hri
  go_enter Try.func14, Try.ntmps14
  go_wp2
  go_loopw [3, 11] (fun l i wr => ∃ p : Nat, p ≤ nk ∧ i = .int .i64 p ∧ PutsR wr w.heap.size l ((L.map toPut).take p) ∧ Below w.heap.size w wr) (fun _ i _ => nk - (intOf i).toNat)
  case atStart => exact ⟨0, by omega, rfl, PutsR.nil _ _, Below.refl _ _⟩
  case round =>
    obtain ⟨p, hp, rfl, hre, hb⟩ := hrel
    have HTn := Lib.hid (HTb.out.below hb)
    have hlq : ((L.map toPut).take p).length = p := by rw [List.length_take, List.length_map, ← HNK.out]; omega
    obtain ⟨A1, c1, hl0, hc1⟩ : ∃ A1 c1, _ = Value.slice A1 p c1 ∧ p ≤ c1 := by
      obtain ⟨xs, ho, _⟩ := hre
      rw [hlq] at ho
      exact orow_shape ho
    by_cases hlt : p < nk
    · have hpL : p < L.length := by rw [← HNK.out]; exact hlt
      obtain ⟨ad, ck2, hvk2, hkey⟩ := HTn.out.key p hpL
      obtain ⟨rfl, hck2⟩ : Ak = some ad ∧ ck2 = ck := by
        have := HVK.out
        rw [hvk2] at this
        injection this with e1 e2 e3
        exact ⟨e1.symm, e3⟩
      have d1 := hkey p hpL
      have hkz := HTn.out.kz L[p] (List.getElem_mem hpL)
      have hfm := HTn.out.nn.fm L[p].1
      rw [KvMath.get_of_mem HRI.out (List.getElem_mem hpL)] at hfm
      obtain ⟨vv, hfv, hsv⟩ := hfm
      have hlk := HTn.out.nn.mp.look1 L[p].1 (by have := hkz.1; unfold maxLen; omega)
      rw [hfv] at hlk
      have hta : (L.map toPut).take (p + 1) = (L.map toPut).take p ++ [⟨L[p].1, L[p].2, false⟩] := by
        rw [List.take_add_one, List.getElem?_eq_getElem (by rw [List.length_map]; exact hpL), List.getElem_map]
        rfl
      have g0 : wr.cell? ⟨g, 0, none⟩ = some (.map (some m)) := by rw [cell_of_row _ g 0 _ _ _ HTn.out.nn.st]; rfl
      generalize L[p] = x at *
      obtain ⟨kk, xv⟩ := x
      dsimp only at *
      obtain ⟨Av, cv, rfl, hcv, _⟩ := hsv.rd
      obtain ⟨nv, hnv⟩ : ∃ nv, nv = xv.length := ⟨_, rfl⟩
      rw [← hnv] at hsv hlk hcv
      simp only [Option.getD_some] at hlk
      have hwp : IntKind.i64.wrap ((p : Int) + 1) = ((p + 1 : Nat) : Int) := by rw [IntKind.wrap_i64]; omega
      have HRe := Lib.hid hre; have HB := Lib.hid hb; have HSV := Lib.hid hsv; have HTA := Lib.hid hta; have HLQ := Lib.hid hlq
      subst hl0
      clear hkey hvk2 hck2 hkz hfv hnv hre hb hsv hta hlq hpL
      go_wp2_with (at_builtin; go_loud (refine PutsR.app w.heap.size rfl (.tmp 15) (.tmp 24) rfl _ _ kk false Av nv cv xv wr.heap.size rfl rfl rfl HRe.out HSV.out HB.out.size (by rw [HLQ.out]; omega) ?_))
      intro v1 w1 hr1 hb1
      have HR1 := Lib.hid hr1; have HB1 := Lib.hid (HB.out.trans hb1)
      clear hr1 hb1
      go_wp2
      go_roundw
      case rel => exact ⟨p + 1, by omega, by go_num, by rw [HTA.out]; exact HR1.out, HB1.out⟩
      case measure => simp [intOf]; omega
    · have hpn : p = nk := by omega
      have hfull : (L.map toPut).take p = L.map toPut := by rw [hpn, HNK.out, ← List.length_map (f := toPut)]; exact List.take_length
      rw [hfull] at hre hlq
      obtain ⟨A2, c2, hv2, hc2, hrow⟩ := hre.row (fun x hx => by
        obtain ⟨q, hq, rfl⟩ := List.mem_map.1 hx
        have := HTb.out.kz q hq
        show q.1.size ≤ _ ∧ q.2.length ≤ _
        omega)
      have henc := kv_encode wr A2 c2 (L.map toPut) hrow hc2 (by rw [List.length_map, ← HNK.out]; exact hnkl)
      rw [hlq] at henc hv2
      have henc := Lib.hid henc; have HB := Lib.hid hb
      subst hv2
      clear hre hb hrow hfull hlq hpn hl0 hc2
      go_wp2_with fail
      refine henc.out.mono ?_
      rintro e w2 ⟨v2, rfl, ho2, hb2⟩
      have ho2 : Ob w2 wr.heap.size 5 v2 (bytesB L) := ho2
      obtain ⟨ln, hln⟩ : ∃ ln, ln = (bytesB L).length := ⟨_, rfl⟩
      obtain ⟨A3, c3, hv3, _⟩ := ho2.rd
      rw [← hln] at hv3
      have HO2 := Lib.hid ho2.sl; have HB2 := Lib.hid (below_then HB.out HB.out.size hb2)
      subst hv3
      clear ho2 hb2 henc hln
      go_wp2
      go_ret
      exact ⟨_, rfl, HO2.out, HB2.out⟩
end Go.Proofs.Ytgaccogekmaijaa
