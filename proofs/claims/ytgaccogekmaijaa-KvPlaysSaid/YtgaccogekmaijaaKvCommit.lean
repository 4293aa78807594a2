/- Several changes: Commit. -/
import Derived.Test.YtgaccogekmaijaaKvPut
namespace Go.Proofs.Ytgaccogekmaijaa
open Go.RowKit
set_option linter.unusedVariables false
set_option linter.unusedSimpArgs false
set_option maxRecDepth 20000 in
theorem kv_all1 (w : World) (x : PutD) (A : Option Addr) (c : Nat) (hx : x.val.length ≤ c) :
    Calls Try.prog 39 #[.agg #[.string x.key, .slice A x.val.length c, .bool x.gone]] w fun e w' => e = .returned (.bool (!x.good)) ∧ Below w.heap.size w w' := by
  obtain ⟨W1, hW1⟩ : ∃ W1, W1 = w.alloc (.cells #[.string x.key, .slice A x.val.length c, .bool x.gone] 38) := ⟨_, rfl⟩
  have hb : Below w.heap.size w W1 := by rw [hW1]; exact (Below.refl _ w).alloc (Nat.le_refl _) _
  have hcon := Lib.hid (kv_good W1 x A c hx)
  have HB := Lib.hid hb; have HW := Lib.hid hW1
  clear hb hW1
  generalize x.good = g at *
  generalize x.val.length = n at *
  go_enter Try.func39, Try.ntmps39
  go_wp2_with fail
  rw [← HW.out]
  refine hcon.out.mono ?_
  rintro e w1 ⟨rfl, hb1⟩
  have HB1 := Lib.hid hb1
  clear hb1 hcon
  go_wp2
  go_ret
  exact ⟨rfl, below_add HB.out HB1.out⟩
/-- changes that stay readable while a table turns -/
def PutS (B : Nat) (w : World) (A : Option Addr) (xs : List PutD) : Prop := 0 < xs.length → ∃ a, A = some a ∧ ∀ j, (hj : j < xs.length) → ∃ Aj cj, xs[j].val.length ≤ cj ∧ xs[j].key.size ≤ 140737488351232 ∧ xs[j].val.length ≤ 140737488351232 ∧ ∀ W, TV B w W → W.cell? (a.add (j * 3)) = some (.string xs[j].key) ∧ W.cell? ⟨(a.add (j * 3)).block, (a.add (j * 3)).off + 1, none⟩ = some (.slice Aj xs[j].val.length cj) ∧ W.cell? ⟨(a.add (j * 3)).block, (a.add (j * 3)).off + 2, none⟩ = some (.bool xs[j].gone) ∧ Rd W Aj xs[j].val
theorem PutS.of_row {B : Nat} {w0 w : World} {A : Option Addr} {xs : List PutD} (h : Row KPut 3 w0 A xs) (hb : Below B w0 w) (hB : w0.heap.size ≤ B) : PutS B w A xs := fun hp => by
  obtain ⟨a, _, _, e, _⟩ := put_at h 0 hp
  refine ⟨a, e, fun j hj => ?_⟩
  obtain ⟨a', Aj, cj, e', c0, c1, c2, h1, h2, h3, h4⟩ := put_at h j hj
  rw [e] at e'
  injection e' with e'
  subst e'
  refine ⟨Aj, cj, h1, h3, h4, fun W hW => ?_⟩
  have hh : Below w0.heap.size w0 W := (hb.trans hW.1).mono hB
  exact ⟨cell_below hh c0, cell_below hh c1, cell_below hh c2, h2.below hh⟩
theorem PutS.row {B : Nat} {w : World} {A : Option Addr} {xs : List PutD} (h : PutS B w A xs) : Row KPut 3 w A xs := fun hp => by
  obtain ⟨a, e, hr⟩ := h hp
  refine ⟨a, e, fun j hj => ?_⟩
  obtain ⟨Aj, cj, h1, h2, h3, h4⟩ := hr j hj
  obtain ⟨c0, c1, c2, hrd⟩ := h4 w (TV.refl _ _)
  refine ⟨[.string xs[j].key, .slice Aj xs[j].val.length cj, .bool xs[j].gone], rfl, ⟨Aj, cj, rfl, h1, hrd, h2, h3⟩, fun i hi => ?_⟩
  match i, hi with
  | 0, _ => exact c0
  | 1, _ => exact (add_fld a (j * 3) 0).symm ▸ c1
  | 2, _ => exact (add_fld a (j * 3) 1).symm ▸ c2
theorem PutS.tv {B : Nat} {w w1 : World} {A : Option Addr} {xs : List PutD} (h : PutS B w A xs) (ht : TV B w w1) : PutS B w1 A xs := fun hp => by
  obtain ⟨a, e, hr⟩ := h hp
  refine ⟨a, e, fun j hj => ?_⟩
  obtain ⟨Aj, cj, h1, h2, h3, h4⟩ := hr j hj
  exact ⟨Aj, cj, h1, h2, h3, fun W hW => h4 W (ht.trans hW)⟩
theorem all_take_succ (xs : List PutD) (p : Nat) (hp : p < xs.length) : (xs.take (p + 1)).all PutD.good = ((xs.take p).all PutD.good && xs[p].good) := by
  rw [List.take_add_one, List.getElem?_eq_getElem hp, List.all_append]
  simp
set_option maxRecDepth 20000 in
set_option maxHeartbeats 1000000 in
theorem kv_idx (w : World) (A : Option Addr) (c : Nat) (xs : List PutD) (hr : Row KPut 3 w A xs) (hl : xs.length ≤ c) (hn : xs.length ≤ 1000000) :
    Calls Try.prog 47 #[.slice A xs.length c, .func (.func 39) #[] #[]] w fun e w' => ∃ i : Int, e = .returned (.int .i64 i) ∧ decide (0 ≤ i) = !xs.all PutD.good ∧ Below w.heap.size w w' := by
  obtain ⟨n, hnn⟩ : ∃ n, n = xs.length := ⟨_, rfl⟩
  rw [← hnn] at hl hn ⊢
  have HN := Lib.hid hnn; have HR := Lib.hid hr
  clear hnn hr
  go_enter Try.func47, Try.ntmps47
  go_wp2
  go_loopw [8] (fun i wr => ∃ p : Nat, p ≤ n ∧ i = .int .i64 p ∧ Below w.heap.size w wr ∧ (xs.take p).all PutD.good = true) (fun i _ => n - (intOf i).toNat)
  case atStart => exact ⟨0, by omega, rfl, Below.refl _ _, rfl⟩
  case round =>
    obtain ⟨p, hp, rfl, hb, hall⟩ := hrel
    by_cases hlt : p < n
    · have hpx : p < xs.length := by rw [← HN.out]; exact hlt
      obtain ⟨a, Aj, cj, rfl, c0, c1, c2, hcj, _⟩ := put_at (puts_below HR.out hb) p hpx
      have hcon := Lib.hid (kv_all1 wr xs[p] Aj cj hcj)
      have hsucc := all_take_succ xs p hpx
      generalize xs[p] = x at *
      have hwp : IntKind.i64.wrap ((p : Int) + 1) = ((p + 1 : Nat) : Int) := by rw [IntKind.wrap_i64]; omega
      have HB := Lib.hid hb; have HAl := Lib.hid hall; have HS := Lib.hid hsucc
      obtain ⟨nv, hnv⟩ : ∃ nv, nv = x.val.length := ⟨_, rfl⟩
      rw [← hnv] at c1 hcon
      clear hb hall hsucc hnv
      cases hg : x.good with
      | true =>
        rw [hg] at hcon
        have HG := Lib.hid hg
        clear hg
        go_wp2_with fail
        refine hcon.out.mono ?_
        rintro e w1 ⟨rfl, hb1⟩
        have HB1 := Lib.hid hb1
        clear hb1 hcon c0 c1 c2
        go_wp2
        go_roundw
        case rel => exact ⟨p + 1, by omega, by go_num, below_add HB.out HB1.out, by rw [HS.out, HAl.out, HG.out]; rfl⟩
        case measure => simp [intOf]; omega
      | false =>
        rw [hg] at hcon
        have HG := Lib.hid hg
        clear hg
        go_wp2_with fail
        refine hcon.out.mono ?_
        rintro e w1 ⟨rfl, hb1⟩
        have HB1 := Lib.hid hb1
        clear hb1 hcon c0 c1 c2
        go_wp2
        go_ret
        refine ⟨_, rfl, ?_, below_add HB.out HB1.out⟩
        rw [decide_eq_true (by omega)]
        have : xs.all PutD.good = false := by
          have h2 : (xs.take (p + 1)).all PutD.good = false := by rw [HS.out, HG.out, Bool.and_false]
          have h3 : xs = xs.take (p + 1) ++ xs.drop (p + 1) := (List.take_append_drop _ _).symm
          rw [h3, List.all_append, h2]
          rfl
        rw [this]
        rfl
    · have hpn : p = n := by omega
      have HAl : Hid (xs.all PutD.good = true) := Lib.hid (by rw [hpn, HN.out, List.take_length] at hall; exact hall)
      have HB := Lib.hid hb
      clear hb hall hpn
      go_wp2
      go_ret
      refine ⟨_, rfl, ?_, HB.out⟩
      rw [HAl.out]
      rfl
set_option maxRecDepth 20000 in
theorem kv_all (w : World) (A : Option Addr) (c : Nat) (xs : List PutD) (hr : Row KPut 3 w A xs) (hl : xs.length ≤ c) (hn : xs.length ≤ 1000000) :
    Calls Try.prog 28 #[.slice A xs.length c] w fun e w' => e = .returned (.bool (xs.all PutD.good)) ∧ Below w.heap.size w w' := by
  have hidx := kv_idx w A c xs hr hl hn
  have hcf : Calls Try.prog 38 #[.slice A xs.length c, .func (.func 39) #[] #[]] w fun e w' => e = .returned (.bool (!xs.all PutD.good)) ∧ Below w.heap.size w w' := by
    have hidx := Lib.hid hidx
    clear hr
    generalize xs.all PutD.good = b at *
    generalize xs.length = n at *
    go_enter Try.func38, Try.ntmps38
    go_wp2_with fail
    refine hidx.out.mono ?_
    rintro e w1 ⟨i, rfl, hi, hb⟩
    have HB := Lib.hid hb
    clear hb hidx
    go_wp2
    go_ret
    exact ⟨by first | rfl | simp, HB.out⟩
  have hcf := Lib.hid hcf
  clear hidx hr
  generalize xs.all PutD.good = b at *
  generalize xs.length = n at *
  go_enter Try.func28, Try.ntmps28
  go_wp2_with fail
  refine hcf.out.mono ?_
  rintro e w1 ⟨rfl, hb⟩
  have HB := Lib.hid hb
  clear hb hcf
  go_wp2
  go_ret
  exact ⟨by first | rfl | simp, HB.out⟩
set_option maxRecDepth 20000 in
set_option maxHeartbeats 2000000 in
theorem kv_commit_m {w : World} {B g N m n0 : Nat} {vk : Value} {f : ByteArray → Option Value} {L : List KvMath.Ent} (h : TbM w B g m vk f n0 L) (hnN : n0 ≤ N) (hbs : B ≤ w.heap.size) (A : Option Addr) (c : Nat) (xs : List PutD) (hr : PutS B w A xs) (hl : xs.length ≤ c) (hn : xs.length ≤ 10000) (hN : N ≤ 100000) (hL : L.length ≤ 100000) :
    Calls Try.prog 11 #[.pointer (some ⟨g, 0, none⟩), .slice A xs.length c] w fun e w' => e = .returned (.int .i64 (if xs.all PutD.good then 0 else 1)) ∧ TbK w w' B g (N + xs.length) m vk (if xs.all PutD.good then KvMath.all L (xs.map PutD.ent) else L) := by
  have hal := kv_all w A c xs hr.row hl (by omega)
  have HT := Lib.hid h; have HR := Lib.hid hr
  have hri := h.ri
  clear h hr
  obtain ⟨n, hnn⟩ : ∃ n, n = xs.length := ⟨_, rfl⟩
  rw [← hnn] at hl hn hal ⊢
  have HN := Lib.hid hnn
  have hal := Lib.hid hal
  clear hnn
  cases hg : xs.all PutD.good with
  | false =>
    rw [hg] at hal
    rw [if_neg (by decide), if_neg (by decide)]
    clear hg
    go_enter Try.func11, Try.ntmps11
    go_wp2_with fail
    refine hal.out.mono ?_
    rintro e w1 ⟨rfl, hb⟩
    have HB := Lib.hid hb
    clear hb hal
    go_wp2
    go_ret
    exact ⟨rfl, _, _, _, HT.out.below HB.out, by omega, Chg.of_below HB.out, fun b hb => .inl hb⟩
  | true =>
    rw [hg] at hal
    rw [if_pos rfl, if_pos rfl]
    have HG := Lib.hid hg; have HRI := Lib.hid hri
    clear hg hri
    go_enter Try.func11, Try.ntmps11
    go_wp2_with fail
    refine hal.out.mono ?_
    rintro e w1 ⟨rfl, hb⟩
    have HB := Lib.hid hb
    clear hb hal
    go_wp2_with fail
    rename World => wA
    go_loopw [12] (fun i wr => ∃ p : Nat, p ≤ n ∧ i = .int .i64 p ∧ TbK w wr B g (N + p) m vk (KvMath.all L ((xs.take p).map PutD.ent))) (fun i _ => n - (intOf i).toNat)
    case atStart => exact ⟨0, by omega, rfl, _, _, _, HT.out.below HB.out, by omega, Chg.of_below HB.out, fun b hb => .inl hb⟩
    case round =>
      rename World => wL
      obtain ⟨p, hp, rfl, htk⟩ := hrel
      have htb := htk.tb HT.out hbs
      obtain ⟨ht, htv⟩ := htb
      clear HB
      by_cases hlt : p < n
      · have hpx : p < xs.length := by rw [← HN.out]; exact hlt
        obtain ⟨a, rfl, hrow⟩ := HR.out (by omega)
        obtain ⟨Aj, cj, hcj, _, _, hst⟩ := hrow p hpx
        obtain ⟨c0, c1, c2, _⟩ := hst wL htv
        have hxg : xs[p].good = true := List.all_eq_true.1 HG.out _ (List.getElem_mem hpx)
        simp only [PutD.good, Bool.and_eq_true, decide_eq_true_eq] at hxg
        have hta : KvMath.all L ((xs.take (p + 1)).map PutD.ent) = KvMath.one (KvMath.all L ((xs.take p).map PutD.ent)) xs[p].key xs[p].val xs[p].gone := by
          rw [List.take_add_one, List.getElem?_eq_getElem hpx]
          simp only [Option.toList, List.map_append, List.map_cons, List.map_nil]
          rw [KvMath.all_snoc]
          rfl
        have hlen : (KvMath.all L ((xs.take p).map PutD.ent)).length ≤ 900000 := by
          have := KvMath.all_len L HRI.out ((xs.take p).map PutD.ent)
          have hnn := HN.out
          rw [List.length_map, List.length_take] at this
          omega
        have hrd0 : ∀ W, TV B w W → Rd W Aj xs[p].val := fun W hW => (hst W hW).2.2.2
        generalize xs[p] = x at *
        obtain ⟨xk, xv, xg⟩ := x
        dsimp only at *
        obtain ⟨W1, hW1⟩ : ∃ W1, W1 = wL.alloc (.cells #[.string xk, .slice Aj xv.length cj, .bool xg] 38) := ⟨_, rfl⟩
        have hb1 : Below wL.heap.size wL W1 := by rw [hW1]; exact (Below.refl _ wL).alloc (Nat.le_refl _) _
        have htv1 : TV B w W1 := htv.trans (TV.of_below hb1 ht.sz)
        obtain ⟨vk1, f1, n1, hT1, hn1, hc1, hf1⟩ := htk
        have hone := kv_one_m W1 B g (N + p) m n1 vk1 f1 _ (hT1.below hb1) hn1 (Nat.le_trans ht.sz hb1.size) (by omega) hlen xk hxg.1.1.2 Aj cj xv xg hxg.1.2 hcj (fun W hW => hrd0 W (htv1.trans hW))
        rw [← hta] at hone
        have hx1 := heap_new wL (.cells #[.string xk, .slice Aj xv.length cj, .bool xg] 38) wL.heap.size rfl
        have x0 : (wL.alloc (.cells #[.string xk, .slice Aj xv.length cj, .bool xg] 38)).cell? ⟨wL.heap.size, 0, none⟩ = some (.string xk) := by rw [cell_of_row _ wL.heap.size 0 _ _ _ hx1]; rfl
        have hone := Lib.hid hone; have HW1 := Lib.hid hW1
        have HT1 := Lib.hid htv1
        have HC1 : Hid (Chg (OwnT g m vk) w W1) := Lib.hid (hc1.trans (Chg.of_below hb1))
        have HF1 := Lib.hid hf1
        obtain ⟨nv, hnv⟩ : ∃ nv, nv = xv.length := ⟨_, rfl⟩
        rw [← hnv] at c1 hone HW1 x0
        have hwp : IntKind.i64.wrap ((p : Int) + 1) = ((p + 1 : Nat) : Int) := by rw [IntKind.wrap_i64]; omega
        clear hst hrow hxg hta hlen hrd0 hb1 htv1 hx1 hnv ht htv hW1 x0 hT1 hc1 hf1
        go_wp2_with fail
        rw [← HW1.out]
        refine hone.out.mono ?_
        rintro e w3 ⟨rfl, vk3, f3, n3, ht3, hn3, hc3, hf3⟩
        have HT3 : Hid (TbK w w3 B g (N + (p + 1)) m vk (KvMath.all L ((xs.take (p + 1)).map PutD.ent))) := Lib.hid ⟨vk3, f3, n3, ht3, by omega, ⟨hc3.os.trans HC1.out.os, hc3.tape.trans HC1.out.tape, hc3.output.trans HC1.out.output, Nat.le_trans HC1.out.size hc3.size, fun i hi hn => (hc3.block i (Nat.lt_of_lt_of_le hi HC1.out.size) (fun ho => by
          rcases ho with ho | ho | ho
          · exact hn (.inl ho)
          · exact hn (.inr (.inl ho))
          · rcases HF1.out i ho with h | h
            · exact hn (.inr (.inr h))
            · omega)).trans (HC1.out.block i hi hn)⟩, fun b hb => by
          rcases hf3 b hb with h | h
          · exact HF1.out b h
          · exact .inr (Nat.le_trans HC1.out.size h)⟩
        clear ht3 hc3 hf3 hone c0 c1 c2
        go_wp2
        go_roundw
        case rel => exact ⟨p + 1, by omega, by go_num, HT3.out⟩
        case measure => simp [intOf]; omega
      · have hpn : p = n := by omega
        rw [hpn] at htk
        have hfull : xs.take n = xs := by rw [HN.out]; exact List.take_length
        rw [hfull] at htk
        have HT3 := Lib.hid htk
        clear ht htv htk hfull hpn
        go_wp2
        go_ret
        exact ⟨rfl, HT3.out⟩
theorem kv_commit {w0 w : World} {B g N : Nat} {L : List KvMath.Ent} (h : Tb w0 w B g N L) (A : Option Addr) (c : Nat) (xs : List PutD) (hr : PutS B w A xs) (hl : xs.length ≤ c) (hn : xs.length ≤ 10000) (hN : N ≤ 100000) (hL : L.length ≤ 100000) :
    Calls Try.prog 11 #[.pointer (some ⟨g, 0, none⟩), .slice A xs.length c] w fun e w' => e = .returned (.int .i64 (if xs.all PutD.good then 0 else 1)) ∧ Tb w0 w' B g (N + xs.length) (if xs.all PutD.good then KvMath.all L (xs.map PutD.ent) else L) ∧ TV B w w' := by
  have hbel := h.bel
  obtain ⟨m, vk, f, n, h1, h2, h3, h4⟩ := h
  refine (kv_commit_m h1 h2 h4 A c xs hr hl hn hN hL).mono ?_
  rintro e w1 ⟨rfl, hk⟩
  obtain ⟨t1, t2⟩ := hk.tb h1 h4
  exact ⟨rfl, t1.lift hbel, t2⟩
end Go.Proofs.Ytgaccogekmaijaa
