/- kv: light. -/
import Derived.Test.YtgaccogekmaijaaKvAwake
namespace Go.Proofs.Ytgaccogekmaijaa
open Go.RowKit
set_option linter.unusedVariables false
set_option linter.unusedSimpArgs false
def PutD.small (x : PutD) : Bool := decide (x.key.size ≤ 300) && decide (x.val.length ≤ 200)
def smallL (xs : List PutD) : Bool := decide (xs.length ≤ 8) && xs.all PutD.small
def lightB (ls : List (List PutD)) : Bool := decide (ls.length ≤ 20) && ls.all smallL
/-- lists of changes, read -/
def PutLs (w : World) (A : Option Addr) (ls : List (List PutD)) : Prop := 0 < ls.length → ∃ a, A = some a ∧ ∀ i, (hi : i < ls.length) → ∃ Ai ci, w.cell? (a.add i) = some (.slice Ai ls[i].length ci) ∧ ls[i].length ≤ ci ∧ Row KPut 3 w Ai ls[i]
theorem PutLs.below {w w1 : World} {A : Option Addr} {ls : List (List PutD)} (h : PutLs w A ls) (hb : Below w.heap.size w w1) : PutLs w1 A ls := fun hp => by
  obtain ⟨a, e, hr⟩ := h hp
  refine ⟨a, e, fun i hi => ?_⟩
  obtain ⟨Ai, ci, h1, h2, h3⟩ := hr i hi
  exact ⟨Ai, ci, cell_below hb h1, h2, puts_below h3 hb⟩
theorem all_take_false {α : Type} {f : α → Bool} {xs : List α} {p : Nat} (hp : p < xs.length) (h : f xs[p] = false) : xs.all f = false := by
  rw [List.all_eq_false]
  exact ⟨_, List.getElem_mem hp, by rw [h]; decide⟩
theorem all_take_next {α : Type} {f : α → Bool} {xs : List α} {p : Nat} (hp : p < xs.length) (h0 : (xs.take p).all f = true) (h : f xs[p] = true) : (xs.take (p + 1)).all f = true := by
  rw [List.take_add_one, List.getElem?_eq_getElem hp, List.all_append, h0]
  simp [h]
set_option maxRecDepth 20000 in
set_option maxHeartbeats 2000000 in
theorem kv_light (w : World) (A : Option Addr) (c : Nat) (ls : List (List PutD)) (h : PutLs w A ls) (hl : ls.length ≤ c) :
    Calls Try.prog 9 #[.slice A ls.length c] w fun e w' => e = .returned (.bool (lightB ls)) ∧ w' = w := by
  obtain ⟨n, hnn⟩ : ∃ n, n = ls.length := ⟨_, rfl⟩
  rw [← hnn] at hl ⊢
  have HN := Lib.hid hnn; have HL := Lib.hid h
  clear hnn h
  by_cases h20 : n ≤ 20
  · have h20i : ¬ (20 : Int) < n := by omega
    go_enter Try.func9, Try.ntmps9
    go_wp2
    go_loopw [3] (fun i wr => ∃ p : Nat, p ≤ n ∧ i = .int .i64 p ∧ wr = w ∧ (ls.take p).all smallL = true) (fun i _ => n - (intOf i).toNat)
    case atStart => exact ⟨0, by omega, rfl, rfl, rfl⟩
    case round =>
      obtain ⟨p, hp, rfl, rfl, hall⟩ := hrel
      rename World => w
      by_cases hlt : p < n
      · have hltI : (p : Int) < n := by omega
        have hpx : p < ls.length := by rw [← HN.out]; exact hlt
        obtain ⟨a, rfl, hr⟩ := HL.out (by omega)
        obtain ⟨Ai, ci, c0, hci, hrow⟩ := hr p hpx
        have HF : Hid (∀ f : smallL ls[p] = false, lightB ls = false) := Lib.hid fun f => by unfold lightB; rw [all_take_false hpx f, Bool.and_false]
        have HNx : Hid (smallL ls[p] = true → (ls.take (p + 1)).all smallL = true) := Lib.hid fun f => all_take_next hpx hall f
        generalize ls[p] = xs at *
        obtain ⟨m, hm⟩ : ∃ m, m = xs.length := ⟨_, rfl⟩
        rw [← hm] at c0 hci
        have HM := Lib.hid hm; have HRw := Lib.hid hrow
        have hwp : IntKind.i64.wrap ((p : Int) + 1) = ((p + 1 : Nat) : Int) := by rw [IntKind.wrap_i64]; omega
        clear hr hrow hall hpx hm
        by_cases h8 : m ≤ 8
        · have h8i : ¬ (8 : Int) < m := by omega
          go_wp2
          go_loopw [4] (fun i wr => ∃ q : Nat, q ≤ m ∧ i = .int .i64 q ∧ wr = w ∧ (xs.take q).all PutD.small = true) (fun i _ => m - (intOf i).toNat)
          case atStart => exact ⟨0, by omega, rfl, rfl, rfl⟩
          case round =>
            obtain ⟨q, hq, rfl, rfl, hal2⟩ := hrel
            rename World => w
            by_cases hlt2 : q < m
            · have hlt2I : (q : Int) < m := by omega
              have hqx : q < xs.length := by rw [← HM.out]; exact hlt2
              obtain ⟨ai, Aj, cj, rfl, d0, d1, d2, hcj, _⟩ := put_at HRw.out q hqx
              have HF2 : Hid (xs[q].small = false → lightB ls = false) := Lib.hid fun f => HF.out (by unfold smallL; rw [all_take_false hqx f, Bool.and_false])
              have HN2 : Hid (xs[q].small = true → (xs.take (q + 1)).all PutD.small = true) := Lib.hid fun f => all_take_next hqx hal2 f
              generalize xs[q] = x at *
              obtain ⟨xk, xv, xg⟩ := x
              dsimp only at *
              have hwq : IntKind.i64.wrap ((q : Int) + 1) = ((q + 1 : Nat) : Int) := by rw [IntKind.wrap_i64]; omega
              obtain ⟨nv, hnv⟩ : ∃ nv, nv = xv.length := ⟨_, rfl⟩
              rw [← hnv] at d1 hcj
              have HNV := Lib.hid hnv
              clear hal2 hqx hnv
              by_cases k1 : xk.size ≤ 300
              · have k1i : ¬ (300 : Int) < xk.size := by omega
                by_cases k2 : nv ≤ 200
                · have k2i : ¬ (200 : Int) < nv := by omega
                  go_wp2
                  go_roundw
                  case rel => exact ⟨q + 1, by omega, by go_num, by first | rfl | trivial, HN2.out (by unfold PutD.small; dsimp only; rw [show decide (xk.size ≤ 300) = true from decide_eq_true k1, show decide (xv.length ≤ 200) = true from decide_eq_true (by rw [← HNV.out]; exact k2)]; rfl)⟩
                  case measure => simp [intOf]; omega
                · have k2i : (200 : Int) < nv := by omega
                  go_wp2
                  go_ret
                  refine ⟨?_, rfl⟩
                  rw [HF2.out (by unfold PutD.small; dsimp only; rw [show decide (xv.length ≤ 200) = false from decide_eq_false (by rw [← HNV.out]; exact k2), Bool.and_false])]
                  rfl
              · have k1i : (300 : Int) < xk.size := by omega
                go_wp2
                go_ret
                refine ⟨?_, rfl⟩
                rw [HF2.out (by unfold PutD.small; dsimp only; rw [show decide (xk.size ≤ 300) = false from decide_eq_false k1]; rfl)]
                rfl
            · have hlt2I : ¬ (q : Int) < m := by omega
              have hqm : q = m := by omega
              have HX : Hid (smallL xs = true) := Lib.hid (by
                unfold smallL
                rw [hqm, HM.out, List.take_length] at hal2
                rw [hal2, show decide (xs.length ≤ 8) = true from decide_eq_true (by rw [← HM.out]; exact h8)]
                rfl)
              clear hal2 hqm
              go_wp2
              go_roundw
              case rel => exact ⟨p + 1, by omega, by go_num, by first | rfl | trivial, HNx.out HX.out⟩
              case measure => simp [intOf]; omega
        · have h8i : (8 : Int) < m := by omega
          go_wp2
          go_ret
          refine ⟨?_, rfl⟩
          rw [HF.out (by unfold smallL; rw [show decide (xs.length ≤ 8) = false from decide_eq_false (by rw [← HM.out]; exact h8)]; rfl)]
          rfl
      · have hltI : ¬ (p : Int) < n := by omega
        have hpn : p = n := by omega
        have HX : Hid (lightB ls = true) := Lib.hid (by
          unfold lightB
          rw [hpn, HN.out, List.take_length] at hall
          rw [hall, show decide (ls.length ≤ 20) = true from decide_eq_true (by rw [← HN.out]; exact h20)]
          rfl)
        clear hall hpn
        go_wp2
        go_ret
        refine ⟨?_, rfl⟩
        rw [HX.out]
        rfl
  · have h20i : (20 : Int) < n := by omega
    go_enter Try.func9, Try.ntmps9
    go_wp2
    go_ret
    refine ⟨?_, rfl⟩
    unfold lightB
    rw [show decide (ls.length ≤ 20) = false from decide_eq_false (by rw [← HN.out]; exact h20)]
    rfl
end Go.Proofs.Ytgaccogekmaijaa
