/- RecBack: the walk of the law. -/
import Derived.Test.YthhdkhgafeaehaaRecKnown
import Derived.Test.YthhdkhgafeaehaaRecSays
namespace RecMath
theorem upto_le (ls : List (List UInt8)) (k : Nat) (hk : k ≤ ls.length) (h : ∀ j, (hj : j < k) → (ls[j]'(by omega)).length ≤ 100) : upto ls k ≤ 116 * k := by
  induction k with
  | zero => simp [upto_zero]
  | succ k ih =>
    rw [upto_succ ls k (by omega)]
    have h1 := ih (by omega) (fun j hj => h j (by omega))
    have h2 := h k (by omega)
    omega
theorem recs_take_length (N : Nat) (ls : List (List UInt8)) (k : Nat) : (recs N (ls.take k)).length = upto ls k := recs_length N _
theorem recs_take_succ (N : Nat) (ls : List (List UInt8)) (k : Nat) (h : k < ls.length) : recs N (ls.take (k + 1)) = recs N (ls.take k) ++ recB (N + k) ls[k] := by
  rw [List.take_add_one, List.getElem?_eq_getElem h, Option.toList, recs_snoc, List.length_take, Nat.min_eq_left (by omega)]
theorem pairs_get (N : Nat) (ls : List (List UInt8)) (W i : Nat) (hW : W ≤ ls.length) (hi : i < W) : ∃ l, ls[i]? = some l ∧ (pairs N (ls.take W))[i]? = some (((N + i : Nat) : Int), l) := by
  refine ⟨ls[i]'(by omega), List.getElem?_eq_getElem _, ?_⟩
  have h := pairs_at N (ls.take W) i (by rw [List.length_take]; omega)
  rw [List.getElem?_eq_getElem (by rw [pairs_length, List.length_take]; omega), h, List.getElem_take]
theorem get_of {α : Type} {l : List α} {i : Nat} {x : α} (h : l[i]? = some x) : ∃ hi : i < l.length, l[i] = x := by
  obtain ⟨hi, h⟩ := List.getElem?_eq_some_iff.1 h
  exact ⟨hi, h⟩
end RecMath
namespace Go.Proofs.Ythhdkhgafeaehaa
open Go.RowKit
set_option linter.unusedVariables false
set_option linter.unusedSimpArgs false
attribute [local irreducible] wpR relOp
theorem Rdl.of_row {w : World} {A : Option Addr} {ls : List (List UInt8)} (h : Row (KSlice KByte 1 1) 1 w A ls) (hl : ls.length ≤ 9223372036854775807) : Rdl w A ls :=
  ⟨hl, fun hp => by
    obtain ⟨a, e, hc⟩ := h hp
    refine ⟨a, e, fun j hj => ?_⟩
    obtain ⟨cs, hcl, hK, hcell⟩ := hc j hj
    obtain ⟨A', c', h1, h2, h3, h4, h5⟩ := hK
    have h0 := hcell 0 (by omega)
    subst h1
    exact ⟨A', c', by simpa using h0, h2, Rd.of_row h5 (by omega)⟩⟩
set_option maxRecDepth 20000 in
set_option maxHeartbeats 1600000 in
theorem RecBack_ok (A : Option Addr) (c : Nat) (ls : List (List UInt8)) (N : Nat) (cut : Int) (w : World) (hr : Rdl w A ls) (hc : ls.length ≤ c) (hn20 : ls.length ≤ 20) (h1 : 1 ≤ N) (h40 : N ≤ 1099511627776) (hcut1 : -9223372036854775808 ≤ cut) (hcut2 : cut ≤ 9223372036854775807) :
    Calls Try.prog 10 #[.slice A ls.length c, .int .i64 N, .int .i64 cut] w fun e w' => e = .returned (.bool true) ∧ Below w.heap.size w w' := by
  obtain ⟨n, hnn⟩ : ∃ n, n = ls.length := ⟨_, rfl⟩
  rw [← hnn] at hc hn20 ⊢
  have HN := Lib.hid hnn
  clear hnn
  go_enter Try.func10, Try.ntmps10
  go_wp2_with fail
  refine (awake5_any _).mono ?_
  rintro e w1 ⟨rfl, hb1⟩
  have HB1 := Lib.hid hb1
  clear hb1
  go_wp2_with fail
  go_loopw [7, 8, 9] (fun b wh i wr => ∃ k : Nat, k ≤ n ∧ i = .int .i64 k ∧ wh = .int .i64 (RecMath.whole ls cut k) ∧ Ob wr w.heap.size 5 b (RecMath.recs N (ls.take k)) ∧ Below w.heap.size w wr ∧ ∀ j, (hj : j < k) → (hj2 : j < ls.length) → ls[j].length ≤ 100) (fun _ _ i _ => n - (intOf i).toNat)
  case atStart => exact ⟨0, by omega, rfl, rfl, Ob.nil _ _ _, HB1.out, fun j hj => absurd hj (by omega)⟩
  case round =>
    obtain ⟨k, hk, rfl, rfl, ho, hb, h100⟩ := hrel
    have hul := RecMath.upto_le ls k (by rw [← HN.out]; exact hk) (fun j hj => h100 j hj (by rw [← HN.out]; omega))
    have hrl := RecMath.recs_take_length N ls k
    by_cases hlt : k < n
    · obtain ⟨a, A1, c1, rfl, hcell, hle1, hr1⟩ := hr.at_ k (by rw [← HN.out]; exact hlt)
      have hts := RecMath.recs_take_succ N ls k (by rw [← HN.out]; exact hlt)
      have hus := RecMath.upto_succ ls k (by rw [← HN.out]; exact hlt)
      have hwh : RecMath.whole ls cut (k + 1) = if (RecMath.upto ls (k + 1) : Int) ≤ cut then k + 1 else RecMath.whole ls cut k := rfl
      obtain ⟨lk, hlk⟩ : ∃ lk, lk = ls[k]'(by rw [← HN.out]; exact hlt) := ⟨_, rfl⟩
      rw [← hlk] at hcell hle1 hr1 hts hus
      have hcell1 := cell_below hb hcell
      clear hcell
      have hr2 := hr1.below hb
      obtain ⟨Ab, cb, rfl, hleb, hrdb⟩ := ho.rd
      obtain ⟨M, hM⟩ : ∃ M, M = N + k := ⟨_, rfl⟩
      have hwM : IntKind.i64.wrap ((N : Int) + k) = (M : Int) := by rw [IntKind.wrap_i64]; omega
      obtain ⟨q, hq⟩ : ∃ q, q = lk.length := ⟨_, rfl⟩
      rw [← hq] at hcell1 hle1 hus
      obtain ⟨S, hS⟩ : ∃ S, S = RecMath.upto ls k := ⟨_, rfl⟩
      obtain ⟨S2, hS2⟩ : ∃ S2, S2 = RecMath.upto ls (k + 1) := ⟨_, rfl⟩
      rw [← hS] at hul hrl hus
      rw [← hS2] at hus hwh
      have hlk100 := h100
      by_cases hbig : 100 < q
      · have HB := Lib.hid hb
        clear hb ho hr1 hr2 hrdb hwh hts hlk hrl hq
        go_wp2_with fail
        go_ret
        exact ⟨rfl, HB.out⟩
      · have hput := put_any wr Ab cb (RecMath.recs N (ls.take k)) M A1 c1 lk hrdb (by rw [hrl]; omega) hr2 (by omega) (wf_i64 _ (by omega) (by omega))
        have e1 : putB (RecMath.recs N (ls.take k)) M lk = RecMath.recs N (ls.take (k + 1)) := by unfold putB; rw [if_pos (by omega), hts, ← hM]; rfl
        have e2 : putE M lk.length = 0 := by unfold putE; rw [if_pos (by omega)]
        have hrl2 := RecMath.recs_take_length N ls (k + 1)
        rw [← hS2] at hrl2
        rw [e1, e2, hrl, ← hq] at hput
        rw [hrl] at hleb ⊢
        have h100' : ∀ j, (hj : j < k + 1) → (hj2 : j < ls.length) → ls[j].length ≤ 100 := by
          intro j hj hj2
          by_cases he : j = k
          · subst he; rw [← hlk]; omega
          · exact h100 j (by omega) hj2
        have HPut := Lib.hid hput; have HRl2 := Lib.hid hrl2; have HB := Lib.hid hb; have H100 := Lib.hid h100'; have HWh := Lib.hid hwh; have HS2 := Lib.hid hS2
        have hsz := hb.size
        have hw2 : IntKind.i64.wrap ((k : Int) + 1) = ((k + 1 : Nat) : Int) := by rw [IntKind.wrap_i64]; omega
        clear hput hrl2 hb h100' hwh hS2 h100 hlk100 ho hr1 hr2 hrdb hts e1 e2 hlk hS hM hrl hq hus
        go_wp2_with fail
        refine HPut.out.mono ?_
        rintro e w2 ⟨v2, rfl, ho2, hb2⟩
        obtain ⟨A2, c2, rfl, hle2, hrd2⟩ := ho2.rd
        have HO2 := Lib.hid (ho2.base hsz)
        rw [HRl2.out] at hle2 HO2 ⊢
        have HB2 := Lib.hid (below_then HB.out hsz hb2)
        clear ho2 hb2 hrd2
        by_cases hcut : (S2 : Int) ≤ cut
        · have hwh := HWh.out
          rw [if_pos hcut] at hwh
          go_wp2
          go_roundw
          case rel => exact ⟨k + 1, by omega, by go_num, by rw [hwh]; exact val_int (by omega), HO2.out, HB2.out, H100.out⟩
          case measure => simp [intOf]; omega
        · have hwh := HWh.out
          rw [if_neg hcut] at hwh
          go_wp2
          go_roundw
          case rel => exact ⟨k + 1, by omega, by go_num, by rw [hwh], HO2.out, HB2.out, H100.out⟩
          case measure => simp [intOf]; omega
    · obtain rfl : k = n := by omega
      rw [show ls.take k = ls from List.take_of_length_le (by rw [← HN.out]; exact Nat.le_refl _)] at ho
      obtain ⟨L, hL⟩ : ∃ L, L = RecMath.recs N ls := ⟨_, rfl⟩
      rw [show ls.take k = ls from List.take_of_length_le (by rw [← HN.out]; exact Nat.le_refl _), ← hL] at hrl
      rw [← hL] at ho
      obtain ⟨Wn, hWn⟩ : ∃ Wn, Wn = RecMath.whole ls cut k := ⟨_, rfl⟩
      rw [← hWn]
      obtain ⟨S, hS⟩ : ∃ S, S = RecMath.upto ls k := ⟨_, rfl⟩
      rw [← hS] at hul hrl
      obtain ⟨Ab, cb, rfl, hleb, hrdb⟩ := ho.rd
      rw [hrl] at hleb ⊢
      by_cases hin : 0 ≤ cut ∧ cut ≤ S
      · obtain ⟨C, rfl⟩ := Int.eq_ofNat_of_zero_le hin.1
        have hCS : C ≤ S := by omega
        obtain ⟨hw1, hw2, hw3⟩ := RecMath.whole_spec ls C k
        rw [← hWn] at hw1 hw2 hw3
        have hsc := RecMath.scan_cut ls N Wn C ((L.take C).length) h1 (by rw [← HN.out]; omega) (fun l hl => by
          obtain ⟨j, hj, rfl⟩ := List.getElem_of_mem hl
          have := h100 j (by rw [HN.out]; exact hj) hj
          omega) (by rw [← HN.out]; exact hw1) hw2 (by rw [← HN.out]; exact hw3) (by rw [hL]; exact Nat.le_refl _)
        rw [← hL] at hsc
        have hlC : (L.take C).length = C := by rw [List.length_take]; omega
        have hscan := scan_any wr Ab cb (L.take C) N (hrdb.take C) (by rw [hlC]; omega) (by rw [hlC]; omega) (wf_i64 _ (by omega) (by omega))
        unfold RecMath.scanAll at hscan
        rw [hsc, hlC] at hscan
        obtain ⟨U, hU⟩ : ∃ U, U = RecMath.upto ls Wn := ⟨_, rfl⟩
        rw [← hU] at hscan hw2
        have hpl : (RecMath.pairs N (ls.take Wn)).length = Wn := by rw [RecMath.pairs_length, List.length_take, ← HN.out]; omega
        have hPat := fun i (hi : i < Wn) => RecMath.pairs_get N ls Wn i (by rw [← HN.out]; exact hw1) hi
        have hUL : ∀ i, i ≤ k → RecMath.upto ls i ≤ 116 * i := fun i hi => RecMath.upto_le ls i (by rw [← HN.out]; exact hi) (fun j hj => h100 j (by omega) (by rw [← HN.out]; omega))
        obtain ⟨PR, hPR⟩ : ∃ PR, PR = RecMath.pairs N (ls.take Wn) := ⟨_, rfl⟩
        rw [← hPR] at hscan hpl
        replace hPat : ∀ i, i < Wn → ∃ l, ls[i]? = some l ∧ PR[i]? = some (((N + i : Nat) : Int), l) := by rw [hPR]; exact hPat
        have HScan := Lib.hid hscan; have HPl := Lib.hid hpl; have HU := Lib.hid hU; have HPR := Lib.hid hPR; have HPat := Lib.hid hPat; have HUL := Lib.hid hUL; have HWk := Lib.hid hw1; have HB := Lib.hid hb
        have hsz := hb.size
        have q1 : (C : Int) ≤ cb := by omega
        clear hscan hpl hU hPR hPat hUL hsc hw3 hWn hS hL hrl ho hrdb hlC hul h100 hb hw1 hin
        go_wp2_with fail
        refine HScan.out.mono ?_
        rintro e w2 ⟨v2, rfl, hs2, hb2⟩
        obtain ⟨A2, c2, rfl, hle2, hcells⟩ := hs2.rd
        have hsz2 := hb2.size
        have HB2 := Lib.hid (below_then HB.out hsz hb2)
        have HCs := Lib.hid hcells
        have hlen : PR.length = Wn := HPl.out
        have q2 : ((Wn : Int) != Wn) = false := bne_self_eq_false _
        rw [hlen] at hle2 ⊢
        have hUC : decide (C < U) = false := decide_eq_false (by omega)
        clear hw2
        clear hs2 hb2 hcells hlen
        go_wp2_with fail
        clear hUC q2 q1
        go_loopw [12, 13] (fun at_ i wr => ∃ j : Nat, j ≤ Wn ∧ i = .int .i64 j ∧ at_ = .int .i64 (RecMath.upto ls j) ∧ Below w2.heap.size w2 wr) (fun _ i _ => Wn - (intOf i).toNat)
        case atStart => exact ⟨0, by omega, rfl, rfl, Below.refl _ _⟩
        case round =>
          obtain ⟨j, hj, rfl, rfl, hbr⟩ := hrel
          by_cases hlt : j < Wn
          · obtain ⟨l, hl1, hl2⟩ := HPat.out j hlt
            obtain ⟨hj1, hj2⟩ := RecMath.get_of hl2
            obtain ⟨g, vb, rfl, ha, hb, hs⟩ := HCs.out j hj1
            rw [hj2] at ha hs
            obtain ⟨A3, c3, rfl, hle3, hr3⟩ := hs.rd
            obtain ⟨hj3, hj4⟩ := RecMath.get_of hl1
            obtain ⟨a, A4, c4, rfl, hcell4, hle4, hr4⟩ := hr.at_ j hj3
            rw [hj4] at hcell4 hle4 hr4
            obtain ⟨M, hM⟩ : ∃ M, M = N + j := ⟨_, rfl⟩
            rw [← hM] at ha
            have hjk := HWk.out
            have hwM : IntKind.i64.wrap ((N : Int) + j) = (M : Int) := by rw [IntKind.wrap_i64]; omega
            have hus := RecMath.upto_succ ls j hj3
            rw [hj4] at hus
            have hul1 := HUL.out (j + 1) (by have := HWk.out; omega)
            obtain ⟨q, hq⟩ : ∃ q, q = l.length := ⟨_, rfl⟩
            dsimp only at ha hb hs hle3 hr3
            have HC : Hid (∀ W, Gr wr.heap.size wr.drew W → W.cell? ⟨g, j * 2, none⟩ = some (.int .i64 M) ∧ W.cell? ⟨g, j * 2 + 1, none⟩ = some (.slice A3 l.length c3) ∧ W.cell? (a.add j) = some (.slice A4 l.length c4) ∧
                (convert 22 9 (.slice A3 l.length c3)).run Try.prog W = .ok (.string ⟨l.toArray⟩) W ∧ (convert 22 9 (.slice A4 l.length c4)).run Try.prog W = .ok (.string ⟨l.toArray⟩) W) := Lib.hid fun W hW => by
              have h := below_add hbr (Below.trans (Below.drew (Below.refl wr.heap.size wr)) hW.1)
              have h0 := below_then HB2.out HB2.out.size h
              exact ⟨cell_below h ha, cell_below h hb, cell_below h0 hcell4, (hr3.below h).str _ _ rfl, (hr4.below h0).str _ _ rfl⟩
            have HBr := Lib.hid hbr
            have HUs := Lib.hid hus
            have hjk2 : j < k := by omega
            have hM1 : 1 ≤ M := by omega
            have hM63 : M < 9223372036854775808 := by omega
            clear ha hb hs hr3 hr4 hcell4 hbr hl1 hl2 hj2 hj4 hM hus hjk
            go_wp2_with fail
            refine wp_region_tbl _ (fun _ => none) (wr.heap.size) (by kernel_rfl) (by kernel_rfl) (by kernel_rfl) ?_
            repeat (first
              | (refine wpR_plain ?_ (by rfl) (fun K hK => ?_); (focus (first | (simp only [Region.wanted]; done) | (go_simp; done))); apply Exists.intro; refine ⟨fun W hW => ?_, ?_⟩; (go_simp; (try simp only [plainUpon_value, true_and]); rfl); go_simp; refine hK _ ?_; clear hK K)
              | (refine wpR_plain ?_ (by rfl) (fun K hK => ?_); (focus (first | (simp only [Region.wanted]; done) | (go_simp; done))); apply Exists.intro; refine ⟨fun W hW => ?_, ?_⟩; (have hcw := HC.out W hW; go_simp; (try simp only [plainUpon_value, true_and]); rfl); go_simp; refine hK _ ?_; clear hK K)
              | (refine wpR_skip ?_ (fun K hK => ?_); (focus (first | (simp only [Region.wanted]; done) | (go_simp; done))); go_simp; refine hK _ ?_; clear hK K))
            refine wpR_nil (fun W hW hF => ?_)
            have hbW := below_add HBr.out (Below.trans (Below.drew (Below.refl wr.heap.size wr)) hW.1)
            obtain ⟨hc1, hc2, _⟩ := HC.out W hW
            have HBW := Lib.hid hbW
            clear hF hW hbW
            go_wp2_with fail
            have hsize := size_any M A3 l.length c3 W (wf_i64 _ (by omega) (by omega)) (by have := HUs.out; omega)
            have hsi : sizeI M l.length = ((16 + q : Nat) : Int) := by unfold sizeI; rw [if_pos (by have := HUs.out; omega)]; omega
            refine Calls.mono hsize ?_
            rintro e w3 ⟨rfl, hb3⟩
            rw [hsi]
            have HB3 := Lib.hid (below_add HBW.out hb3)
            have hsum : IntKind.i64.wrap ((RecMath.upto ls j : Int) + ((16 + q : Nat) : Int)) = (RecMath.upto ls (j + 1) : Int) := by have := HUs.out; rw [IntKind.wrap_i64]; omega
            have HQ := Lib.hid hsum
            clear hb3 hsize hsi hsum hc1 hc2 hq
            generalize ((16 + q : Nat) : Int) = X at HQ ⊢
            go_wp2
            go_roundw
            case rel => exact ⟨j + 1, by omega, by go_num, val_int (by have := HQ.out; rw [IntKind.wrap_i64] at this; unfold wrap64; omega), HB3.out⟩
            case measure => simp [intOf]; omega
          · obtain rfl : j = Wn := by omega
            rw [← HU.out]
            have HW := Lib.hid (below_then HB2.out HB2.out.size hbr)
            clear hbr
            go_wp2
            go_ret
            exact ⟨rfl, HW.out⟩
      · have HB := Lib.hid hb
        clear hrl ho hrdb hb h100 hul hL hWn hS
        by_cases hneg : cut < 0
        · clear hin
          go_wp2_with fail
          go_ret
          exact ⟨rfl, HB.out⟩
        · have hbig : (S : Int) < cut := by omega
          clear hin
          go_wp2_with fail
          go_ret
          exact ⟨rfl, HB.out⟩
set_option maxRecDepth 20000 in
set_option maxHeartbeats 1000000 in
theorem RecBack_walk (A : Option Addr) (c : Nat) (ls : List (List UInt8)) (a1 a2 : Int) (w : World) (hr : Row (KSlice KByte 1 1) 1 w A ls) (hc : ls.length ≤ c) (hl : ls.length * 24 ≤ 140737488351232) (wf1 : (Lit.int .i64 a1).wf = true) (wf2 : (Lit.int .i64 a2).wf = true) :
    Calls Try.prog 10 #[.slice A ls.length c, .int .i64 a1, .int .i64 a2] w fun e w' => e = .returned (.bool true) ∧ Below w.heap.size w w' := by
  have b1 := bounds_i64 wf1
  have b2 := bounds_i64 wf2
  by_cases h : ls.length ≤ 20 ∧ 1 ≤ a1 ∧ a1 ≤ 1099511627776
  · obtain ⟨h1, h2, h3⟩ := h
    obtain ⟨N, rfl⟩ := Int.eq_ofNat_of_zero_le (show 0 ≤ a1 by omega)
    exact RecBack_ok A c ls N a2 w (Rdl.of_row hr (by omega)) hc h1 (by omega) (by omega) b2.1 (by omega)
  · clear hr wf1 wf2
    generalize ls.length = n at *
    by_cases h1 : 20 < n
    ·
      clear h
      go_enter Try.func10, Try.ntmps10
      go_wp2_with fail
      refine (awake5_any _).mono ?_
      rintro e w1 ⟨rfl, hb1⟩
      have HB1 := Lib.hid hb1
      clear hb1
      go_wp2_with fail
      go_ret
      exact ⟨rfl, HB1.out⟩
    · by_cases h2 : a1 < 1
      ·
        clear h
        go_enter Try.func10, Try.ntmps10
        go_wp2_with fail
        refine (awake5_any _).mono ?_
        rintro e w1 ⟨rfl, hb1⟩
        have HB1 := Lib.hid hb1
        clear hb1
        go_wp2_with fail
        go_ret
        exact ⟨rfl, HB1.out⟩
      · have h3 : 1099511627776 < a1 := by omega
        clear h
        go_enter Try.func10, Try.ntmps10
        go_wp2_with fail
        refine (awake5_any _).mono ?_
        rintro e w1 ⟨rfl, hb1⟩
        have HB1 := Lib.hid hb1
        clear hb1
        go_wp2_with fail
        go_ret
        exact ⟨rfl, HB1.out⟩
end Go.Proofs.Ythhdkhgafeaehaa
