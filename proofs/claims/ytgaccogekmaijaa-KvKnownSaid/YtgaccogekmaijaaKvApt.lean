/- The law KvApart, walked. -/
import Derived.Test.YtgaccogekmaijaaKvTwo
namespace Go.Proofs.Ytgaccogekmaijaa
open Go.RowKit
set_option linter.unusedVariables false
set_option linter.unusedSimpArgs false
attribute [local irreducible] wpR relOp
def PutD.ok (x : PutD) : Bool := decide (1 ≤ x.key.size) && decide (x.key.size ≤ 200) && decide (x.val.length ≤ 200) && (!x.gone || decide (x.val.length = 0))
theorem PutD.ok_good (x : PutD) (h : x.ok = true) : x.good = true := by
  simp only [PutD.ok, PutD.good, Bool.and_eq_true, decide_eq_true_eq] at *
  exact ⟨⟨⟨by omega, h.1.1.2⟩, by omega⟩, h.2⟩
theorem all_ok_good (xs : List PutD) (h : xs.all PutD.ok = true) : xs.all PutD.good = true :=
  List.all_eq_true.2 fun x hx => x.ok_good (List.all_eq_true.1 h x hx)
theorem tb_rel {S0 : Nat} (w0 w : World) (B g N : Nat) (L : List KvMath.Ent) (h : Tb w0 w B g N L) (hL : L.length ≤ 1000) (hS : S0 ≤ w.heap.size) {n : Nat} (hn : n = (bytesB L).length) : Calls Try.prog 14 #[.pointer (some ⟨g, 0, none⟩)] w fun e w' => ∃ v, e = .returned v ∧ Gr S0 w w' ∧ (∃ A c, v = .slice A n c ∧ n ≤ c) ∧ Sl w' v (bytesB L) := by
  subst hn
  refine (kv_bytes h hL).mono ?_
  rintro e w1 ⟨v, rfl, hs, hb⟩
  obtain ⟨A, c, h1, h2, _⟩ := hs.rd
  exact ⟨v, rfl, ⟨hb.mono hS, fun i x e fr hx => ⟨fr, (hb.block i (Array.getElem?_eq_some_iff.1 hx).1).trans hx⟩⟩, ⟨A, c, h1, h2⟩, hs⟩
def aptTbl (n : Nat) (l : List UInt8) (q : Nat) : Nat → Option Sp
  | 1 => some (slSp n l)
  | 2 => some (.val (.string ⟨l.toArray⟩))
  | 4 => some (slSp n l)
  | 5 => some (.val (.string ⟨l.toArray⟩))
  | 9 => some (.val (.int .i64 q))
  | 11 => some (.val (.int .i64 q))
  | _ => none
set_option maxRecDepth 20000 in
set_option maxHeartbeats 4000000 in
theorem KvApart_walk (A : Option Addr) (c : Nat) (xs : List PutD) (w : World) (hr : Row KPut 3 w A xs) (hc : xs.length ≤ c) (hl : xs.length * 48 ≤ 140737488351232) :
    Calls Try.prog 4 #[.slice A xs.length c] w fun e w' => e = .returned (.bool true) ∧ Below w.heap.size w w' := by
  obtain ⟨n, hnn⟩ : ∃ n, n = xs.length := ⟨_, rfl⟩
  rw [← hnn] at hc ⊢
  have HN := Lib.hid hnn; have HR := Lib.hid hr
  clear hnn hr hl
  by_cases h12 : n ≤ 12
  · have h12i : ¬ (12 : Int) < n := by omega
    go_enter Try.func4, Try.ntmps4
    go_wp2_with fail
    refine (awake7_any _).mono ?_
    rintro e w1 ⟨rfl, hb1⟩
    have HB1 := Lib.hid hb1
    clear hb1
    go_wp2_with fail
    rename World => wA
    go_loopw [3] (fun i wr => ∃ p : Nat, p ≤ n ∧ i = .int .i64 p ∧ wr = wA ∧ (xs.take p).all PutD.ok = true) (fun i _ => n - (intOf i).toNat)
    case atStart => exact ⟨0, by omega, rfl, rfl, rfl⟩
    case round =>
      obtain ⟨p, hp, rfl, rfl, hall⟩ := hrel
      by_cases hlt : p < n
      · have hltI : (p : Int) < n := by omega
        have hpx : p < xs.length := by rw [← HN.out]; exact hlt
        obtain ⟨a, Aj, cj, rfl, c0, c1, c2, hcj, _⟩ := put_at (puts_below HR.out HB1.out) p hpx
        have HX : Hid (xs[p].ok = true → (xs.take (p + 1)).all PutD.ok = true) := Lib.hid fun h => all_take_next hpx hall h
        generalize xs[p] = x at *
        obtain ⟨xk, xv, xg⟩ := x
        dsimp only at *
        obtain ⟨nv, hnv⟩ : ∃ nv, nv = xv.length := ⟨_, rfl⟩
        rw [← hnv] at c1 hcj
        have HNV := Lib.hid hnv
        have hwp : IntKind.i64.wrap ((p : Int) + 1) = ((p + 1 : Nat) : Int) := by rw [IntKind.wrap_i64]; omega
        clear hall hnv hpx
        by_cases k1 : xk.size < 1
        · have k1i : (xk.size : Int) < 1 := by omega
          go_wp2
          go_ret
          exact ⟨rfl, HB1.out⟩
        · have k1i : ¬ (xk.size : Int) < 1 := by omega
          by_cases k2 : 200 < xk.size
          · have k2i : (200 : Int) < xk.size := by omega
            go_wp2
            go_ret
            exact ⟨rfl, HB1.out⟩
          · have k2i : ¬ (200 : Int) < xk.size := by omega
            by_cases k3 : 200 < nv
            · have k3i : (200 : Int) < nv := by omega
              go_wp2
              go_ret
              exact ⟨rfl, HB1.out⟩
            · have k3i : ¬ (200 : Int) < nv := by omega
              have q1 : decide (1 ≤ xk.size) = true := decide_eq_true (by omega)
              have q2 : decide (xk.size ≤ 200) = true := decide_eq_true (by omega)
              have q3 : decide (xv.length ≤ 200) = true := decide_eq_true (by rw [← HNV.out]; omega)
              have HQ := Lib.hid (And.intro q1 (And.intro q2 q3))
              clear q1 q2 q3
              cases xg with
              | false =>
                go_wp2
                go_roundw
                case rel => exact ⟨p + 1, by omega, by go_num, by first | rfl | trivial, HX.out (by unfold PutD.ok; dsimp only; rw [HQ.out.1, HQ.out.2.1, HQ.out.2.2]; rfl)⟩
                case measure => simp [intOf]; omega
              | true =>
                by_cases k4 : 0 < nv
                · have k4i : (0 : Int) < nv := by omega
                  go_wp2
                  go_ret
                  exact ⟨rfl, HB1.out⟩
                · have k4i : ¬ (0 : Int) < nv := by omega
                  have k4e : nv = 0 := by omega
                  have HK4 := Lib.hid k4e
                  clear k4e
                  go_wp2
                  go_roundw
                  case rel => exact ⟨p + 1, by omega, by go_num, by first | rfl | trivial, HX.out (by unfold PutD.ok; dsimp only; rw [HQ.out.1, HQ.out.2.1, HQ.out.2.2, show decide (xv.length = 0) = true from decide_eq_true (by rw [← HNV.out]; exact HK4.out)]; rfl)⟩
                  case measure => simp [intOf]; omega
      · have hltI : ¬ (p : Int) < n := by omega
        have hpn : p = n := by omega
        rw [hpn, HN.out, List.take_length] at hall
        have HG := Lib.hid (all_ok_good xs hall)
        clear hall hpn
        go_wp2_with fail
        refine (kv_new _).mono ?_
        rintro e w2 ⟨rfl, ht2, hb2⟩
        have HT2 := Lib.hid ht2
        clear ht2 hb2
        go_wp2_with fail
        refine (a2_new HT2.out).mono ?_
        rintro e w3 ⟨rfl, ha3⟩
        obtain ⟨B, hB⟩ : ∃ B, B = wr.heap.size := ⟨_, rfl⟩
        obtain ⟨ga, hga⟩ : ∃ ga, ga = wr.heap.size + 1 := ⟨_, rfl⟩
        obtain ⟨gb, hgb⟩ : ∃ gb, gb = w2.heap.size + 1 := ⟨_, rfl⟩
        rw [← hga, ← hgb, ← hB] at ha3
        rw [← hga, ← hgb]
        have hwB : w.heap.size ≤ B := by rw [hB]; exact HB1.out.size
        have hputA : PutS B w3 A xs := by
          obtain ⟨_, _, _, _, _, _, _, _, _, _, _, _, _, h6, _⟩ := ha3
          exact PutS.of_row (puts_below HR.out HB1.out) h6 (by rw [hB]; exact Nat.le_refl _)
        have hcon := a2_commit ha3 A c xs hputA (by rw [← HN.out]; exact hc) (by rw [← HN.out]; omega) (by decide) (by decide) HG.out
        rw [← HN.out] at hcon
        have hcon := Lib.hid hcon
        have HBB := Lib.hid hB
        clear ha3 hputA HT2 hga hgb hB
        go_wp2_with fail
        refine hcon.out.mono ?_
        rintro e w4 ⟨rfl, ha4, -⟩
        obtain ⟨L, hL⟩ : ∃ L, L = KvMath.all [] (xs.map PutD.ent) := ⟨_, rfl⟩
        rw [← hL] at ha4
        have hLl : L.length ≤ 12 := by
          have := KvMath.all_len [] List.Pairwise.nil (xs.map PutD.ent)
          rw [List.length_map, ← HN.out] at this
          rw [hL]
          simp at this
          omega
        have HA4 := Lib.hid ha4; have HL := Lib.hid hL
        clear ha4 hcon hL
        go_wp2_with fail
        rename World => wB
        go_loopw [6] (fun i wq => ∃ s : Nat, s ≤ n ∧ i = .int .i64 s ∧ A2 wr wq B ga gb (0 + n + s) L (KvMath.all [] ((xs.take s).map PutD.ent))) (fun i _ => n - (intOf i).toNat)
        case atStart => exact ⟨0, by omega, rfl, HA4.out⟩
        case round =>
          rename World => wC
          obtain ⟨s, hs, rfl, ha⟩ := hrel
          clear HA4
          by_cases hlt2 : s < n
          · have hltS : (s : Int) < n := by omega
            have hsx : s < xs.length := by rw [← HN.out]; exact hlt2
            have hws : IntKind.i64.wrap ((s : Int) + 1) = ((s + 1 : Nat) : Int) := by rw [IntKind.wrap_i64]; omega
            have hbC : Below B wr wC := ha.fst.bel
            have hbw : Below w.heap.size w wC := HB1.out.trans (hbC.mono hwB)
            obtain ⟨a, Aj, cj, rfl, c0, c1, c2, hcj, hrd, z1, z2⟩ := put_at HR.out s hsx
            replace c0 := cell_below hbw c0
            replace c1 := cell_below hbw c1
            replace c2 := cell_below hbw c2
            have hxg : xs[s].good = true := List.all_eq_true.1 HG.out _ (List.getElem_mem hsx)
            have hta : KvMath.all [] ((xs.take (s + 1)).map PutD.ent) = KvMath.all (KvMath.all [] ((xs.take s).map PutD.ent)) ([xs[s]].map PutD.ent) := by
              rw [List.take_add_one, List.getElem?_eq_getElem hsx]
              simp only [Option.toList, List.map_append]
              exact KvMath.all_app _ _ _
            have hlen : (KvMath.all [] ((xs.take s).map PutD.ent)).length ≤ 100000 := by
              have := KvMath.all_len [] List.Pairwise.nil ((xs.take s).map PutD.ent)
              rw [List.length_map, List.length_take] at this
              have h0 : ([] : List KvMath.Ent).length = 0 := rfl
              have hnn := HN.out
              omega
            generalize xs[s] = x at *
            obtain ⟨nv, hnv⟩ : ∃ nv, nv = x.val.length := ⟨_, rfl⟩
            rw [← hnv] at c1 hcj
            obtain ⟨W1, hW1⟩ : ∃ W1, W1 = wC.alloc (.cells #[.string x.key, .slice Aj nv cj, .bool x.gone] 38) := ⟨_, rfl⟩
            have hb1 : Below wC.heap.size wC W1 := by rw [hW1]; exact (Below.refl _ wC).alloc (Nat.le_refl _) _
            have hx1 : W1.heap[wC.heap.size]? = some (.cells #[.string x.key, .slice Aj nv cj, .bool x.gone] 38) := by rw [hW1]; exact heap_new wC _ _ rfl
            have hbW1 : Below B wr W1 := below_then hbC ha.fst.sz hb1
            have hput : PutS B W1 (some ⟨wC.heap.size, 0, none⟩) [x] := PutS.lit1 hx1 hnv hcj (fun W hW => hrd.below (HB1.out.trans ((hbW1.trans hW.1).mono hwB))) z1 z2
            have hcon := a2_commit (ha.below hb1).swap (some ⟨wC.heap.size, 0, none⟩) 1 [x] hput (by simp) (by simp) (by omega) hlen (by simp [hxg])
            rw [← hta] at hcon
            have hcon := Lib.hid hcon; have HW1 := Lib.hid hW1
            clear hta hlen hxg hrd z1 z2 hnv hb1 hx1 hbW1 hput hbC hbw ha hW1
            go_wp2_with fail
            rw [← HW1.out]
            refine hcon.out.mono ?_
            rintro e w6 ⟨rfl, ha6, -⟩
            have HA6 := Lib.hid ha6.swap
            clear ha6 hcon c0 c1 c2
            go_wp2
            go_roundw
            case rel => exact ⟨s + 1, by omega, by go_num, HA6.out⟩
            case measure => simp [intOf]; omega
          · have hltS : ¬ (s : Int) < n := by omega
            have hsn : s = n := by omega
            rw [hsn, HN.out, List.take_length, ← HL.out] at ha
            have HA := Lib.hid ha
            have hAW : ∀ W, Gr wC.heap.size wC.drew W → A2 wr W B ga gb (0 + xs.length + xs.length) L L := fun W hW => ha.below ((Below.drew (Below.refl wC.heap.size wC)).trans hW.1)
            have HAW := Lib.hid hAW
            have HSz : Hid (∀ W, Gr wC.heap.size wC.drew W → wC.heap.size ≤ W.heap.size) := Lib.hid fun W hW => hW.1.size
            obtain ⟨nb, hnb⟩ : ∃ nb, nb = (bytesB L).length := ⟨_, rfl⟩
            obtain ⟨q, hq⟩ : ∃ q, q = L.length := ⟨_, rfl⟩
            have HNB := Lib.hid hnb; have HQ := Lib.hid hq
            have HL1 : Hid (L.length ≤ 1000) := Lib.hid (by omega)
            clear ha hAW hsn hnb hq
            go_wp2_with fail
            (refine wp_region_tbl_tail _ 14 (aptTbl nb (bytesB L) q) wC.heap.size (by kernel_rfl) (by kernel_rfl) (by kernel_rfl) ?_; simp only [List.take_succ_cons, List.take_zero, List.drop_succ_cons, List.drop_zero])
            (refine wpR_plain ?_ (by rfl) (fun K hK => ?_); (focus (first | (simp only [Region.wanted]; done) | (go_simp; done))); apply Exists.intro; refine ⟨fun W hW => ?_, ?_⟩; (go_simp; (try simp only [plainUpon_value, true_and]); rfl); go_simp; refine hK _ ?_; clear hK K)
            (refine wpR_prop (by rfl) ?_ (fun W hW hF => ?_) (fun K v hv hK => ?_); (focus (first | (simp only [Region.wanted]; done) | (go_simp; done))); (go_simp; simp only [relUpon_enter]; exact tb_rel _ W B ga _ L (HAW.out W hW).fst HL1.out (HSz.out W hW) HNB.out); obtain ⟨A1, c1, rfl, hc1⟩ := hv; go_simp; refine hK _ ?_; clear hK K)
            (refine wpR_val (by rfl) ?_ (fun W hW hF => ?_) (fun K hK => ?_); (focus (first | (simp only [Region.wanted]; done) | (go_simp; done))); (have hcw := (show Sl W (.slice A1 nb c1) (bytesB L) from hF 1 rfl).str; go_simp; (try simp only [relUpon_value]); (first | exact ⟨Gr.refl _ _, rfl⟩ | exact ⟨Gr.refl _ _, trivial⟩)); go_simp; refine hK _ ?_; clear hK K)
            (refine wpR_plain ?_ (by rfl) (fun K hK => ?_); (focus (first | (simp only [Region.wanted]; done) | (go_simp; done))); apply Exists.intro; refine ⟨fun W hW => ?_, ?_⟩; (go_simp; (try simp only [plainUpon_value, true_and]); rfl); go_simp; refine hK _ ?_; clear hK K)
            (refine wpR_prop (by rfl) ?_ (fun W hW hF => ?_) (fun K v hv hK => ?_); (focus (first | (simp only [Region.wanted]; done) | (go_simp; done))); (go_simp; simp only [relUpon_enter]; exact tb_rel _ W B gb _ L (HAW.out W hW).swap.fst HL1.out (HSz.out W hW) HNB.out); obtain ⟨A4, c4, rfl, hc4⟩ := hv; go_simp; refine hK _ ?_; clear hK K)
            (refine wpR_val (by rfl) ?_ (fun W hW hF => ?_) (fun K hK => ?_); (focus (first | (simp only [Region.wanted]; done) | (go_simp; done))); (have hcw := (show Sl W (.slice A4 nb c4) (bytesB L) from hF 4 rfl).str; go_simp; (try simp only [relUpon_value]); (first | exact ⟨Gr.refl _ _, rfl⟩ | exact ⟨Gr.refl _ _, trivial⟩)); go_simp; refine hK _ ?_; clear hK K)
            (refine wpR_plain ?_ (by rfl) (fun K hK => ?_); (focus (first | (simp only [Region.wanted]; done) | (go_simp; done))); apply Exists.intro; refine ⟨fun W hW => ?_, ?_⟩; (go_simp; (try simp only [plainUpon_value, true_and]); rfl); go_simp; refine hK _ ?_; clear hK K)
            (refine wpR_plain ?_ (by rfl) (fun K hK => ?_); (focus (first | (simp only [Region.wanted]; done) | (go_simp; done))); apply Exists.intro; refine ⟨fun W hW => ?_, ?_⟩; (go_simp; (try simp only [plainUpon_value, true_and]); rfl); go_simp; refine hK _ ?_; clear hK K)
            (refine wpR_plain ?_ (by rfl) (fun K hK => ?_); (focus (first | (simp only [Region.wanted]; done) | (go_simp; done))); apply Exists.intro; refine ⟨fun W hW => ?_, ?_⟩; (go_simp; (try simp only [plainUpon_value, true_and]); rfl); go_simp; refine hK _ ?_; clear hK K)
            (refine wpR_val (by rfl) ?_ (fun W hW hF => ?_) (fun K hK => ?_); (focus (first | (simp only [Region.wanted]; done) | (go_simp; done))); (go_simp; simp only [relUpon_enter]; refine (kv_len (HAW.out W hW).fst).mono ?_; rintro e w' ⟨rfl, rfl⟩; exact ⟨_, rfl, Gr.refl _ _, by rw [HQ.out]⟩); go_simp; refine hK _ ?_; clear hK K)
            (refine wpR_plain ?_ (by rfl) (fun K hK => ?_); (focus (first | (simp only [Region.wanted]; done) | (go_simp; done))); apply Exists.intro; refine ⟨fun W hW => ?_, ?_⟩; (go_simp; (try simp only [plainUpon_value, true_and]); rfl); go_simp; refine hK _ ?_; clear hK K)
            (refine wpR_val (by rfl) ?_ (fun W hW hF => ?_) (fun K hK => ?_); (focus (first | (simp only [Region.wanted]; done) | (go_simp; done))); (go_simp; simp only [relUpon_enter]; refine (kv_len (HAW.out W hW).swap.fst).mono ?_; rintro e w' ⟨rfl, rfl⟩; exact ⟨_, rfl, Gr.refl _ _, by rw [HQ.out]⟩); go_simp; refine hK _ ?_; clear hK K)
            (refine wpR_plain ?_ (by rfl) (fun K hK => ?_); (focus (first | (simp only [Region.wanted]; done) | (go_simp; done))); apply Exists.intro; refine ⟨fun W hW => ?_, ?_⟩; (go_simp; (try simp only [plainUpon_value, true_and]); rfl); go_simp; refine hK _ ?_; clear hK K)
            (refine wpR_plain ?_ (by rfl) (fun K hK => ?_); (focus (first | (simp only [Region.wanted]; done) | (go_simp; done))); apply Exists.intro; refine ⟨fun W hW => ?_, ?_⟩; (go_simp; (try simp only [plainUpon_value, true_and]); rfl); go_simp; refine hK _ ?_; clear hK K)
            refine wpR_nil (fun W hW hF => ?_)
            have HBF := Lib.hid (HB1.out.trans ((HAW.out W hW).fst.bel.mono hwB))
            clear hF hW HAW HSz HA
            go_wp2
            go_ret
            exact ⟨rfl, HBF.out⟩
  · have h12i : (12 : Int) < n := by omega
    go_enter Try.func4, Try.ntmps4
    go_wp2_with fail
    refine (awake7_any _).mono ?_
    rintro e w1 ⟨rfl, hb1⟩
    have HB1 := Lib.hid hb1
    clear hb1
    go_wp2
    go_ret
    exact ⟨rfl, HB1.out⟩
end Go.Proofs.Ytgaccogekmaijaa
