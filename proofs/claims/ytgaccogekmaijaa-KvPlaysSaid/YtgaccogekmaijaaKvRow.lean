/- Rows of keys: looked up, put in, taken out. -/
import Derived.Test.YtgaccogekmaijaaKvLay
import Derived.Lib.OwnBridge
namespace Go.Proofs.Ytgaccogekmaijaa
open Go.RowKit Go.Lib
set_option linter.unusedVariables false
set_option linter.unusedSimpArgs false
def svl (ss : List ByteArray) : List Value := ss.map Value.string
theorem svl_len (ss : List ByteArray) : (svl ss).length = ss.length := by simp [svl]
theorem svl_one (ss : List ByteArray) : ∀ u ∈ svl ss, u.oneCell' = true := by
  intro u hu
  obtain ⟨b, _, rfl⟩ := List.mem_map.1 hu
  rfl
theorem heap_setCells (b : Nat) : ∀ (vs : List Value) (o : Nat) (w : World) (cur : Array Value) (e : Nat), w.heap[b]? = some (.cells cur e) →
    ∃ cur', (w.setCells b o vs).heap[b]? = some (.cells cur' e) ∧ cur'.size = cur.size ∧ ∀ i, i < cur.size → cur'[i]? = if o ≤ i ∧ i < o + vs.length then vs[i - o]? else cur[i]?
  | [], o, w, cur, e, h => ⟨cur, h, rfl, fun i hi => by rw [if_neg (by simp only [List.length_nil]; omega)]⟩
  | v :: r, o, w, cur, e, h => by
    obtain ⟨cur', h1, h2, h3⟩ := heap_setCells b r (o + 1) _ _ e (heap_setCell_same w b o _ _ v h)
    refine ⟨cur', h1, by rw [h2]; simp, fun i hi => ?_⟩
    rw [h3 i (by simpa using hi)]
    by_cases h4 : o + 1 ≤ i ∧ i < o + 1 + r.length
    · rw [if_pos h4, if_pos (by simp only [List.length_cons]; omega)]
      rw [show i - o = (i - (o + 1)) + 1 by omega, List.getElem?_cons_succ]
    · rw [if_neg h4]
      by_cases h5 : i = o
      · subst h5
        rw [if_pos (by simp only [List.length_cons]; omega), Nat.sub_self]
        simp [hi]
      · rw [if_neg (by simp only [List.length_cons]; omega), Array.getElem?_setIfInBounds, if_neg (by omega)]
theorem Chg.setCells (b : Nat) : ∀ (vs : List Value) (o : Nat) (w : World), Chg (· = b) w (w.setCells b o vs)
  | [], o, w => Chg.refl _ _
  | v :: r, o, w => (Chg.setCell w b o v).trans (Chg.setCells b r (o + 1) _)
/-- what a row's cells are, the row's own -/
theorem row_of {w : World} {base e g cap n : Nat} {cur : Array Value} {xs : List Value} (hb : base ≤ g) (hh : w.heap[g]? = some (.cells cur e)) (hn : n ≤ cap) (hm : cap ≤ maxLen) (hs : cur.size = cap * 1) (hl : xs.length = n) (hx : ∀ i, i < n → cur[i]? = xs[i]?) : w.ownsRow base e 1 (.slice (some ⟨g, 0, none⟩) n cap) n xs := by
  refine ⟨by omega, .inr ⟨g, cap, cur, rfl, hb, hh, hn, hm, hs, ?_⟩⟩
  apply List.ext_getElem?
  intro i
  rw [List.getElem?_take, Nat.mul_one]
  by_cases hi : i < n
  · rw [if_pos hi, Array.getElem?_toList, hx i hi]
  · rw [if_neg hi, List.getElem?_eq_none (by omega)]
theorem bs_any (w : World) (B : Nat) (L : List KvMath.Ent) (hr : KvMath.Rise L) (k : ByteArray) (A : Option Addr) (c : Nat) (hown : w.ownsRow B 9 1 (.slice A L.length c) L.length (svl (L.map (·.1)))) (hl : L.length ≤ 1000000) :
    Calls Try.prog 30 #[.slice A L.length c, .string k] w fun e w' => e = .returned (.tuple #[.int .i64 (KvMath.pos L k), .bool (KvMath.has L k)]) ∧ Below w.heap.size w w' := by
  rcases hown.2 with ⟨e0, h0⟩ | ⟨g, cap, cur, e0, hb, hh, hc, hm, hsz, htk⟩
  · injection e0 with e1 e2 e3
    subst e1
    rw [h0]
    refine (Any2.slices_BinarySearch_string_empty lay26 none c k w).mono ?_
    rintro e w' ⟨rfl, rfl⟩
    have hL : L = [] := List.eq_nil_of_length_eq_zero h0
    subst hL
    exact ⟨rfl, Below.refl _ _⟩
  · injection e0 with e1 e2 e3
    subst e1
    have hcell : ∀ j, (hj : j < L.length) → w.cell? ⟨g, 0 + j, none⟩ = some (.string L[j].1) := fun j hj => by
      rw [Nat.zero_add]
      have := World.ownsRow.cells (g := g) hown rfl j (.string L[j].1) (by simp [svl, hj])
      have ha : (⟨g, 0, none⟩ : Addr).add j = ⟨g, j, none⟩ := by unfold Addr.add; split <;> simp_all
      rwa [ha] at this
    have hS : ∀ j, (hj : j < L.length) → (fun j => if h : j < L.length then L[j].1 else k) j = L[j].1 := fun j hj => by simp [hj]
    refine (Any2.slices_BinarySearch_string lay26 g 0 L.length c (fun j => if h : j < L.length then L[j].1 else k) k w (by omega) (fun j hj => by rw [hcell j hj]; simp [hj])).mono ?_
    rintro e w' ⟨rfl, q, rfl⟩
    have hlt : ∀ t, t < KvMath.pos L k → (fun t => Op.bytesLess (if h : t < L.length then L[t].1 else k).toList k.toList) t = true := fun t ht => by
      have htl : t < L.length := Nat.lt_of_lt_of_le ht (KvMath.pos_le L k)
      have := KvMath.less_pos L k hr t htl
      rw [decide_eq_true ht] at this
      simpa [htl, KvMath.bl] using this
    have hge : ∀ t, KvMath.pos L k ≤ t → (fun t => Op.bytesLess (if h : t < L.length then L[t].1 else k).toList k.toList) t = false := fun t ht => by
      by_cases htl : t < L.length
      · have := KvMath.less_pos L k hr t htl
        rw [decide_eq_false (by omega)] at this
        simpa [htl, KvMath.bl] using this
      · have := KvMath.bl_irrefl k
        simpa [htl, KvMath.bl] using this
    have hbs := bsGo_spec _ _ hlt hge L.length 0 L.length (by omega) (Nat.zero_le _) (KvMath.pos_le L k)
    rw [hbs]
    refine ⟨?_, ⟨rfl, rfl, rfl, Nat.le_refl _, fun _ _ => rfl⟩⟩
    congr 2
    have hd : decide (KvMath.pos L k < L.length ∧ (if h : KvMath.pos L k < L.length then L[KvMath.pos L k].1 else k) = k) = KvMath.has L k := by
      cases hh : KvMath.has L k with
      | true =>
        obtain ⟨h1, h2⟩ := (KvMath.has_at L k hr).1 hh
        exact decide_eq_true ⟨h1, by simp [h1, h2]⟩
      | false =>
        refine decide_eq_false (fun ⟨h1, h2⟩ => ?_)
        simp only [h1, dif_pos] at h2
        have := (KvMath.has_at L k hr).2 ⟨h1, h2⟩
        rw [hh] at this
        cases this
    rw [hd]
/-- a key is put in -/
theorem ins_any (w : World) (B : Nat) (keys : List ByteArray) (i : Nat) (k : ByteArray) (A : Option Addr) (c gl : Nat) (hB : B ≤ w.heap.size) (hown : w.ownsRow B 9 1 (.slice A keys.length c) keys.length (svl keys)) (hl : keys.length ≤ 1000000) (hi : i ≤ keys.length)
    (hgl : w.heap[gl]? = some (.cells #[.string k] 9)) (hne : ∀ a, A = some a → a.block ≠ gl) :
    Calls Try.prog 42 #[.slice A keys.length c, .int .i64 i, .slice (some ⟨gl, 0, none⟩) 1 1] w fun e w' => ∃ v, e = .returned v ∧ w'.ownsRow B 9 1 v (keys.length + 1) (svl (keys.take i ++ [k] ++ keys.drop i)) ∧ Chg (fun b => (Value.slice A keys.length c).ownBlock = some b) w w' ∧ ∀ b, v.ownBlock = some b → (Value.slice A keys.length c).ownBlock = some b ∨ w.heap.size ≤ b := by
  have hc0 : w.cell? ⟨gl, 0, none⟩ = some (.string k) := by rw [cell_of_row _ gl 0 _ _ _ hgl]; rfl
  have hvs : ∀ (j : Nat) (v : Value), [Value.string k][j]? = some v → w.cell? ⟨gl, 0 + j, none⟩ = some v := fun j v hj => by
    cases j with
    | zero => simp at hj; subst hj; exact hc0
    | succ j => simp at hj
  have h1v : ∀ v ∈ [Value.string k], v.oneCell' = true := by intro v hv; simp at hv; subst hv; rfl
  have hcl : (svl keys).length = keys.length := svl_len keys
  have hsv : svl (keys.take i ++ [k] ++ keys.drop i) = (svl keys).take i ++ [Value.string k] ++ (svl keys).drop i := by simp [svl, List.map_take, List.map_drop]
  have hlen : ((svl keys).take i ++ [Value.string k] ++ (svl keys).drop i).length = keys.length + 1 := by simp [svl_len]; omega
  rw [hsv]
  generalize hn : keys.length = n at *
  generalize hcs : svl keys = cs at *
  have h1c : ∀ v ∈ cs, v.oneCell' = true := by rw [← hcs]; exact svl_one keys
  have hget : ∀ j, j < n + 1 → (cs.take i ++ [Value.string k] ++ cs.drop i)[j]? = if j < i then cs[j]? else if j = i then some (.string k) else cs[j - 1]? := fun j hj => by
    by_cases h1 : j < i
    · rw [if_pos h1, List.append_assoc, List.getElem?_append_left (by simp; omega), List.getElem?_take, if_pos h1]
    · rw [if_neg h1]
      by_cases h2 : j = i
      · rw [if_pos h2, List.append_assoc, List.getElem?_append_right (by simp; omega), List.length_take, Nat.min_eq_left (by omega), h2, Nat.sub_self]
        rfl
      · rw [if_neg h2, List.getElem?_append_right (by simp; omega), List.getElem?_drop]
        congr 1
        simp
        omega
  rcases hown.2 with ⟨e0, h0⟩ | ⟨g, cap, cur, e0, hb, hh, hc, hm, hsz, htk⟩
  · injection e0 with e1 e2 e3
    subst e1; subst e3
    have hi0 : i = n := by omega
    subst hi0
    subst h0
    refine (Any2.slices_Insert_string_end_grow lay22 none 0 0 gl 0 1 1 cs [.string k] w (by omega) (Nat.le_refl _) (by omega) (by omega) hcl rfl (fun _ => rfl) (fun a e => by cases e) hvs h1v).mono ?_
    rintro e w' ⟨rfl, rfl⟩
    have hcs0 : cs = [] := List.eq_nil_of_length_eq_zero hcl
    subst hcs0
    have hge := grownCap_ge w (0 + 1) 0 (rn.t 9)
    have hle := grownCap_le_maxLen w (0 + 1) 0 (rn.t 9) (by simp [maxLen])
    generalize grownCap w (0 + 1) 0 (rn.t 9) = G at *
    refine ⟨_, rfl, ?_, Chg.of_below ((Below.drew (Below.refl _ w)).alloc (Nat.le_refl _) _), fun b hb => .inr (by injection hb with hb; subst hb; exact Nat.le_refl _)⟩
    refine row_of hB (heap_new w.drew _ _ rfl) hge hle ?_ hlen ?_
    · simp [Builtin.zeroCells, Value.cells]; omega
    · intro j hj
      have : j = 0 := by omega
      subst this
      rw [Array.getElem?_append_left (by simp)]
      simp
  · injection e0 with e1 e2 e3
    subst e1; subst e3
    have hnl : g ≠ gl := hne _ rfl
    have hcurs : ∀ j, j < n → cur[j]? = cs[j]? := fun j hj => by
      have := congrArg (fun l => l[j]?) htk
      simp only [List.getElem?_take, Nat.mul_one, if_pos hj, Array.getElem?_toList] at this
      exact this
    have hcell : ∀ j v, cs[j]? = some v → w.cell? ⟨g, 0 + j, none⟩ = some v := fun j v hj => by
      have hjn : j < n := by rw [← hcl]; exact (List.getElem?_eq_some_iff.1 hj).1
      rw [Nat.zero_add, cell_of_row _ g j _ _ _ hh, hcurs j hjn, hj]
    have hsome : ∀ j, j < c → (w.cell? ⟨g, 0 + j, none⟩).isSome = true := fun j hj => by
      rw [Nat.zero_add, cell_of_row _ g j _ _ _ hh]
      simp [show j < cur.size by omega]
    have hfr : ∀ j, w.frozen? ⟨g, 0 + j, none⟩ = false := fun j => frozen_of_row _ g _ _ _ hh
    have hgw : g < w.heap.size := (Array.getElem?_eq_some_iff.1 hh).1
    have h63 : c ≤ 9223372036854775807 := by simp [maxLen] at hm; omega
    by_cases hend : i = n
    · subst hend
      by_cases hroom : i + 1 ≤ c
      · refine (Any2.slices_Insert_string_end_room lay22 g 0 i c gl 0 1 1 [.string k] w (by omega) hroom h63 rfl (fun j hj => by rw [Nat.add_assoc]; exact hsome _ (by omega)) (fun j hj => by rw [Nat.add_assoc]; exact hfr _) hvs h1v).mono ?_
        rintro e w' ⟨rfl, rfl⟩
        obtain ⟨cur', k1, k2, k3⟩ := heap_setCells g [.string k] (0 + i) w cur 9 hh
        refine ⟨_, rfl, row_of hb k1 hroom hm (by rw [k2]; exact hsz) hlen (fun j hj => ?_), (Chg.setCells g _ _ w).imp fun b hb => by rw [hb]; rfl, fun b hb => .inl hb⟩
        rw [k3 j (by omega), hget j hj]
        by_cases h1 : j < i
        · rw [if_neg (by omega), if_pos h1, hcurs j h1]
        · have : j = i := by omega
          subst this
          rw [if_pos (by simp), if_neg h1, if_pos rfl]
          simp
      · refine (Any2.slices_Insert_string_end_grow lay22 (some ⟨g, 0, none⟩) i c gl 0 1 1 cs [.string k] w (by omega) hc (by omega) (by omega) hcl rfl (fun e => by cases e) (fun a e j v hj => by
          injection e with e
          subst e
          have ha : (⟨g, 0, none⟩ : Addr).add j = ⟨g, 0 + j, none⟩ := by unfold Addr.add; split <;> simp_all
          rw [ha]
          exact hcell j v hj) hvs h1v).mono ?_
        rintro e w' ⟨rfl, rfl⟩
        have hge := grownCap_ge w (i + 1) c (rn.t 9)
        have hle := grownCap_le_maxLen w (i + 1) c (rn.t 9) (by simp [maxLen]; omega)
        generalize grownCap w (i + 1) c (rn.t 9) = G at *
        refine ⟨_, rfl, ?_, Chg.of_below ((Below.drew (Below.refl _ w)).alloc (Nat.le_refl _) _), fun b hb => .inr (by injection hb with hb; subst hb; exact Nat.le_refl _)⟩
        refine row_of hB (heap_new w.drew _ _ rfl) hge hle ?_ hlen ?_
        · simp [Builtin.zeroCells, Value.cells, hcl]; omega
        · intro j hj
          rw [hget j hj, Array.getElem?_append_left (by simp [hcl]; omega)]
          by_cases h1 : j < i
          · rw [if_pos h1]
            simp [List.getElem?_append_left (show j < cs.length by omega)]
          · have : j = i := by omega
            subst this
            rw [if_neg h1, if_pos rfl]
            simp [hcl]
    · have hin : i < n := by omega
      by_cases hroom : n + 1 ≤ c
      · refine (Any2.slices_Insert_string_shift lay22 g 0 n c i gl 0 1 1 cs [.string k] w hin (by omega) hroom h63 (fun e => hnl e.symm) hcl rfl hcell (fun j hj => hsome j (by omega)) (fun j hj => hfr j) hvs h1c h1v 9 9 1 cur.size (by unfold World.shape?; rw [hgl]; rfl) (by unfold World.shape?; rw [hh]) (by omega) (frozen_of_row _ gl _ _ _ hgl) (frozen_of_row _ gl _ _ _ hgl)).mono ?_
        rintro e w' ⟨rfl, rfl⟩
        obtain ⟨cur1, k1, k2, k3⟩ := heap_setCells g (cs.drop i) (0 + (i + 1)) w.drew cur 9 hh
        obtain ⟨cur2, l1, l2, l3⟩ := heap_setCells g [.string k] (0 + i) _ cur1 9 k1
        refine ⟨_, rfl, row_of hb l1 hroom hm (by rw [l2, k2]; exact hsz) hlen (fun j hj => ?_), (((Chg.of_below (Below.drew (Below.refl _ w))).trans (Chg.setCells g _ _ _)).trans (Chg.setCells g _ _ _)).imp fun b hb => by rw [hb]; rfl, fun b hb => .inl hb⟩
        rw [l3 j (by omega), hget j hj]
        by_cases h1 : j < i
        · rw [if_neg (by omega), if_pos h1, k3 j (by omega), if_neg (by omega), hcurs j (by omega)]
        · by_cases h2 : j = i
          · subst h2
            rw [if_pos (by simp), if_neg h1, if_pos rfl]
            simp
          · rw [if_neg (by simp; omega), if_neg h1, if_neg h2, k3 j (by omega), if_pos (by rw [List.length_drop, hcl]; omega), List.getElem?_drop]
            congr 1
            omega
      · refine (Any2.slices_Insert_string_grow lay22 g 0 n c i gl 0 1 1 cs [.string k] w hin (by omega) hc (by omega) (by omega) hcl rfl hcell hvs h1c h1v).mono ?_
        rintro e w' ⟨rfl, rfl⟩
        have hge := grownCap_ge w (n + 1) c (rn.t 9)
        have hle := grownCap_le_maxLen w (n + 1) c (rn.t 9) (by simp [maxLen]; omega)
        generalize grownCap w (n + 1) c (rn.t 9) = G at *
        have hch0 : Chg (· = w.heap.size) w (w.alloc (.cells ((cs.take i).toArray ++ Builtin.zeroCells (Value.string ⟨#[]⟩).cells (n + 1 - i) ++ Builtin.zeroCells (Value.string ⟨#[]⟩).cells (G - (n + 1))) (rn.t 9))) := Chg.of_below ((Below.refl _ w).alloc (Nat.le_refl _) _)
        generalize hrow : (cs.take i).toArray ++ Builtin.zeroCells (Value.string ⟨#[]⟩).cells (n + 1 - i) ++ Builtin.zeroCells (Value.string ⟨#[]⟩).cells (G - (n + 1)) = row at *
        have hrs : row.size = G := by rw [← hrow]; simp [Builtin.zeroCells, Value.cells, hcl]; omega
        obtain ⟨cur1, k1, k2, k3⟩ := heap_setCells w.heap.size [.string k] i (w.alloc (.cells row (rn.t 9))).drew row 9 (heap_new w _ _ rfl)
        obtain ⟨cur2, l1, l2, l3⟩ := heap_setCells w.heap.size (cs.drop i) (i + 1) ((w.alloc (.cells row (rn.t 9))).drew.setCells w.heap.size i [.string k]).drew cur1 9 k1
        refine ⟨_, rfl, row_of hB l1 hge hle (by rw [l2, k2, hrs, Nat.mul_one]) hlen (fun j hj => ?_), ?_, fun b hb => .inr (by injection hb with hb; subst hb; exact Nat.le_refl _)⟩
        · rw [l3 j (by omega), hget j hj]
          by_cases h1 : j < i
          · rw [if_neg (by omega), if_pos h1, k3 j (by omega), if_neg (by omega), ← hrow, Array.append_assoc, Array.getElem?_append_left (by simp [hcl]; omega)]
            simp [List.getElem?_take, h1]
          · by_cases h2 : j = i
            · subst h2
              rw [if_neg (by omega), if_neg h1, if_pos rfl, k3 j (by omega), if_pos (by simp)]
              simp
            · rw [if_pos (by rw [List.length_drop, hcl]; omega), if_neg h1, if_neg h2, List.getElem?_drop]
              congr 1
              omega
        · have hall : Chg (· = w.heap.size) w ((((w.alloc (.cells row (rn.t 9))).drew.setCells w.heap.size i [.string k]).drew).setCells w.heap.size (i + 1) (cs.drop i)) :=
            (((hch0.trans (Chg.of_below (Below.drew (Below.refl _ _)))).trans (Chg.setCells _ _ _ _)).trans (Chg.of_below (Below.drew (Below.refl _ _)))).trans (Chg.setCells _ _ _ _)
          exact ⟨hall.os, hall.tape, hall.output, hall.size, fun b hbl _ => hall.block b hbl (fun e => by omega)⟩
/-- a key is taken out -/
theorem del_any (w : World) (B : Nat) (keys : List ByteArray) (i : Nat) (A : Option Addr) (c : Nat) (hown : w.ownsRow B 9 1 (.slice A keys.length c) keys.length (svl keys)) (hl : keys.length ≤ 1000000) (hi : i < keys.length) :
    Calls Try.prog 41 #[.slice A keys.length c, .int .i64 i, .int .i64 ((i : Int) + 1)] w fun e w' => ∃ v, e = .returned v ∧ w'.ownsRow B 9 1 v (keys.length - 1) (svl (keys.take i ++ keys.drop (i + 1))) ∧ v.ownBlock = (Value.slice A keys.length c).ownBlock ∧ Chg (fun b => (Value.slice A keys.length c).ownBlock = some b) w w' := by
  have hmap : svl keys = (keys.map (fun x : ByteArray => x.data.toList)).map encStr := (map_encStr keys).symm
  have hnz : Value.slice A keys.length c ≠ .slice none 0 0 := fun e => by injection e with _ e _; omega
  obtain ⟨g, cap, e0, hb, hg, hnc, hcm, hzl, hH⟩ := holds_of_ownsRow (enc := encStr) (zs := keys.map (fun x : ByteArray => x.data.toList)) (by rw [← hmap]; exact hown) hnz
  injection e0 with e1 e2 e3
  subst e1; subst e3
  have hn : (keys.map (fun x : ByteArray => x.data.toList)).length = keys.length := by simp
  have h := Any.slices_Delete_string lay24 g 0 c i (i + 1) (keys.map (fun x : ByteArray => x.data.toList)) w hH (by rw [hn]; exact hnc) (by simp [maxLen] at hcm; omega) (by omega) (by rw [hn]; omega)
  rw [hn] at h
  refine h.mono ?_
  rintro e w' ⟨rfl, q, rfl⟩
  have hys : ((keys.map (fun x : ByteArray => x.data.toList)).take i ++ (keys.map (fun x : ByteArray => x.data.toList)).drop (i + 1) ++ List.replicate (i + 1 - i) []).length = keys.length := by simp; omega
  have ho := ownsRow_putRow (enc := encStr) (q := q) (k := keys.length - 1) (ys := (keys.map (fun x : ByteArray => x.data.toList)).take i ++ (keys.map (fun x : ByteArray => x.data.toList)).drop (i + 1) ++ List.replicate (i + 1 - i) []) (by rw [← hmap]; exact hown) hys (by omega)
  refine ⟨_, rfl, ?_, rfl, ?_⟩
  · rw [show keys.length - (i + 1 - i) = keys.length - 1 by omega]
    have : (((keys.map (fun x : ByteArray => x.data.toList)).take i ++ (keys.map (fun x : ByteArray => x.data.toList)).drop (i + 1) ++ List.replicate (i + 1 - i) []).take (keys.length - 1)).map encStr = svl (keys.take i ++ keys.drop (i + 1)) := by
      rw [List.take_left' (by simp; omega), ← List.map_take, ← List.map_drop, ← List.map_append, map_encStr]
      rfl
    rw [← this]
    exact ho
  · refine ⟨rfl, rfl, rfl, by simp [Go.Sort.putRow, Go.Sort.mapBlock, Go.Sort.ahead], fun b hbl hnb => ?_⟩
    have : g ≠ b := fun e => hnb (by rw [e]; rfl)
    simp [Go.Sort.putRow, Go.Sort.mapBlock, Go.Sort.ahead, Array.getElem?_modify, this]
end Go.Proofs.Ytgaccogekmaijaa
