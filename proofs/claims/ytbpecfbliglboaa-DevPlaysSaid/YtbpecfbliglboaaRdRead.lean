/- The reference's device: Read. -/
import Derived.Test.YtbpecfbliglboaaRd
namespace DevMath
theorem lastOf_app (a : Int) (l : List (Int × List UInt8)) (r : Int × List UInt8) : lastOf a (l ++ [r]) = if r.1 = a then some r.2 else lastOf a l := by
  induction l with
  | nil => rfl
  | cons x l ih =>
    by_cases hr : r.1 = a
    · simp [List.cons_append, lastOf, ih, hr]
    · simp [List.cons_append, lastOf, ih, hr]
end DevMath
namespace Go.Proofs.Ytbpecfbliglboaa
open Go.RowKit Go.Maps
set_option linter.unusedVariables false
set_option linter.unusedSimpArgs false
/-- '[]byte(s)': a new block of bytes -/
theorem str_slice (w : World) (s : ByteArray) (hl : s.size ≤ 140737488351232) : ∃ c W, (convert 9 33 (.string s)).run Try.prog w = .ok (.slice (some ⟨w.heap.size, 0, none⟩) s.size c) W ∧ Sl W (.slice (some ⟨w.heap.size, 0, none⟩) s.size c) s.data.toList ∧ Below w.heap.size w W := by
  refine ⟨_, _, run_bytes_of_string w 9 33 5 s Try.underlying9 Try.underlying33 Try.underlying5, ?_, (Below.drew (Below.refl _ w)).alloc (Nat.le_refl _) _⟩
  have hnew : ∀ C fr, (w.drew.alloc (.cells C 5 fr)).heap[w.heap.size]? = some (.cells C 5 fr) := fun C fr => heap_new w.drew _ _ rfl
  refine ⟨some ⟨w.heap.size, 0, none⟩, _, rfl, ?_, ⟨by simpa using Nat.le_trans hl (by decide), fun hp => ⟨_, rfl, fun j hj => ?_⟩⟩, fun a e => ?_⟩
  · have := grownCap_ge w s.size 0 5
    simpa using this
  · have ha : (⟨w.heap.size, 0, none⟩ : Addr).add j = ⟨w.heap.size, j, none⟩ := by unfold Addr.add; split <;> simp_all
    rw [ha, cell_of_row _ w.heap.size j _ _ _ (hnew _ _)]
    have hj2 : j < s.size := by simpa using hj
    have hj3 : j < s.data.size := hj2
    simp [bytesRow, Array.getElem?_append, hj3]
    rw [if_pos hj2, Array.getElem?_eq_getElem hj3]
    rfl
  · injection e with e
    subst e
    exact ⟨_, _, hnew _ _⟩
theorem RdM.vs {w : World} {B r : Nat} {rf : Int} {vs vl vk : Value} {d : DevMath.Dev} {ss : List ByteArray} {ws : List (Int × ByteArray)} (h : RdM w B r rf vs vl vk d ss ws) :
    ∃ A c, vs = .slice A d.sectors c ∧ d.sectors ≤ c ∧ (0 < d.sectors → ∃ a, A = some a ∧ ∀ p, (hp : p < ss.length) → w.cell? (a.add p) = some (.string ss[p])) := by
  rcases h.sf.2 with ⟨e, h0⟩ | ⟨g, cap, cur, e, h2, h3, h4, h5⟩
  · exact ⟨none, 0, by rw [e, h0], by omega, fun hp => by omega⟩
  · refine ⟨_, cap, e, h4, fun hp => ⟨_, rfl, fun p hp => World.ownsRow.cells (g := g) h.sf (by rw [e]; rfl) p _ (by simp [svl, hp])⟩⟩
theorem RdM.vl {w : World} {B r : Nat} {rf : Int} {vs vl vk : Value} {d : DevMath.Dev} {ss : List ByteArray} {ws : List (Int × ByteArray)} (h : RdM w B r rf vs vl vk d ss ws) :
    ∃ A c, vl = .slice A ws.length c ∧ ws.length ≤ c ∧ (0 < ws.length → ∃ a, A = some a ∧ ∀ p, (hp : p < ws.length) → w.cell? (a.add (p * 2)) = some (.int .i64 ws[p].1) ∧ w.cell? ⟨(a.add (p * 2)).block, (a.add (p * 2)).off + 1, none⟩ = some (.string ws[p].2)) := by
  rcases h.ca.2 with ⟨e, h0⟩ | ⟨g, cap, cur, e, h2, h3, h4, h5⟩
  · exact ⟨none, 0, by rw [e, h0], by omega, fun hp => by omega⟩
  · refine ⟨_, cap, e, h4, fun hp => ⟨_, rfl, fun p hp => ?_⟩⟩
    have hh := h.ca
    rw [e] at hh
    have h6 := World.ownsRow.cellAt hh
    have ha : ∀ j, (⟨g, 0, none⟩ : Addr).add j = ⟨g, j, none⟩ := fun j => by unfold Addr.add; split <;> simp_all
    obtain ⟨g1, g2⟩ := wvl_get ws p hp
    rw [ha]
    exact ⟨by rw [h6 (p * 2) (by omega), g1], by rw [h6 (p * 2 + 1) (by omega), g2]⟩
set_option maxRecDepth 20000 in
set_option maxHeartbeats 1000000 in
theorem ref_read (w : World) (B r : Nat) (rf : Int) (vs vl vk : Value) (d : DevMath.Dev) (ss : List ByteArray) (ws : List (Int × ByteArray)) (h : RdM w B r rf vs vl vk d ss ws) (hI : DvI d) (hm1 : ws.length ≤ 1000000) (at_ : Int) :
    Calls Try.prog 27 #[.pointer (some ⟨r, 0, none⟩), .int .i64 at_] w fun e w' => (∃ v, e = .returned (.tuple #[v, .int .i64 (d.read at_).2]) ∧ Sl w' v ((d.read at_).1.getD [])) ∧ Below w.heap.size w w' := by
  have hce0 : w.cell? ⟨r, 0, none⟩ = some (.int .i64 d.sectors) := by rw [cell_of_row _ r 0 _ _ _ h.st]; rfl
  have hce1 : w.cell? ⟨r, 1, none⟩ = some (.bool d.off) := by rw [cell_of_row _ r 1 _ _ _ h.st]; rfl
  have hce2 : w.cell? ⟨r, 2, none⟩ = some vs := by rw [cell_of_row _ r 2 _ _ _ h.st]; rfl
  have hce3 : w.cell? ⟨r, 3, none⟩ = some vl := by rw [cell_of_row _ r 3 _ _ _ h.st]; rfl
  have hsz := hI.n1
  cases hoff : d.off with
  | true =>
    rw [hoff] at hce1
    have hr : d.read at_ = (none, 7) := by unfold DevMath.Dev.read; rw [hoff]; rfl
    rw [hr]
    dsimp only
    clear h hce0 hce2 hce3
    go_enter Try.func27, Try.ntmps27
    go_wp2
    go_ret2
    exact ⟨⟨_, rfl, Sl.nil _⟩, Below.refl _ _⟩
  | false =>
    rw [hoff] at hce1
    by_cases hhas : d.has at_ = false
    · have hr : d.read at_ = (none, 1) := by unfold DevMath.Dev.read; rw [hoff, hhas]; rfl
      rw [hr]
      dsimp only
      by_cases hneg : at_ < 0
      · clear h hce2 hce3 hhas
        go_enter Try.func27, Try.ntmps27
        go_wp2
        go_ret2
        exact ⟨⟨_, rfl, Sl.nil _⟩, Below.refl _ _⟩
      · have hge : (d.sectors : Int) ≤ at_ := by
          simp [DevMath.Dev.has] at hhas
          omega
        clear h hce2 hce3 hhas
        go_enter Try.func27, Try.ntmps27
        go_wp2
        go_ret2
        exact ⟨⟨_, rfl, Sl.nil _⟩, Below.refl _ _⟩
    · have hhas2 : d.has at_ = true := by revert hhas; cases d.has at_ <;> simp
      have hr : d.read at_ = (some ((DevMath.lastOf at_ d.cache).getD (d.sector at_)), 0) := by unfold DevMath.Dev.read; rw [hoff, hhas2]; rfl
      rw [hr]
      dsimp only
      simp [DevMath.Dev.has] at hhas2
      obtain ⟨ha0, ha1⟩ := hhas2
      obtain ⟨k, rfl⟩ := Int.eq_ofNat_of_zero_le ha0
      have hk : k < d.sectors := by omega
      have hks : k < ss.length := by rw [h.sl]; exact hk
      obtain ⟨As, cs, hvs, hcs, hrs⟩ := h.vs
      obtain ⟨ad, rfl, hss⟩ := hrs (by omega)
      obtain ⟨Al, cl, hvl, hcl, hrl⟩ := h.vl
      have hsk := hss k hks
      have hse := h.se k hks
      rw [hvs] at hce2
      rw [hvl] at hce3
      have hcw := h.cw
      have hlw : ∀ p, (hp : p < ws.length) → ws[p].2.data.toList.length = 512 := fun p hp => by
        refine (hI.cf (ws[p].1, ws[p].2.data.toList) ?_).2.2
        rw [← hcw]
        exact List.mem_map.2 ⟨ws[p], List.getElem_mem hp, rfl⟩
      have hl0 : (ss[k]).data.toList.length = 512 := by
        rw [hse]
        unfold DevMath.Dev.sector
        cases e : d.safe (k : Int) with
        | none => exact List.length_replicate
        | some l => exact (hI.sf _ _ e).2.2
      generalize ss[k] = s0 at hsk hse hl0
      rw [← hse, ← hcw]
      clear h hr hvs hvl hss hse hcw hI
      obtain ⟨m, hm⟩ : ∃ m, m = ws.length := ⟨_, rfl⟩
      have hrl2 : 0 < m → _ := fun hp => hrl (by omega)
      clear hrl
      rename (0 < m → _) => hrl
      rw [← hm] at hce3 hcl hm1
      generalize d.sectors = n at *
      have HRL := Lib.hid hrl; have HM := Lib.hid hm; have HLW := Lib.hid hlw; have HL0 := Lib.hid hl0
      clear hrl hm hlw hl0 hks
      go_enter Try.func27, Try.ntmps27
      go_wp2
      go_loopw [6, 7] (fun b i wr => ∃ p : Nat, p ≤ m ∧ i = .int .i64 p ∧ wr = w ∧ ∃ s : ByteArray, b = .string s ∧ s.data.toList = (DevMath.lastOf (k : Int) (wof (ws.take p))).getD s0.data.toList ∧ s.data.toList.length = 512) (fun b i _ => m - (intOf i).toNat)
      case atStart => exact ⟨0, by omega, rfl, rfl, s0, rfl, rfl, HL0.out⟩
      case round =>
        obtain ⟨p, hp, rfl, rfl, s, rfl, hs, hs5⟩ := hrel
        rename World => w
        by_cases hlt : p < m
        · obtain ⟨al, rfl, hal⟩ := HRL.out (by omega)
          have hpw : p < ws.length := by rw [← HM.out]; exact hlt
          obtain ⟨c0, c1⟩ := hal p hpw
          have hta : wof (ws.take (p + 1)) = wof (ws.take p) ++ [(ws[p].1, ws[p].2.data.toList)] := by
            rw [List.take_add_one, List.getElem?_eq_getElem hpw]
            simp only [wof, Option.toList, List.map_append, List.map_cons, List.map_nil]
          have h51 := HLW.out p hpw
          generalize ws[p] = x at *
          obtain ⟨x1, x2⟩ := x
          dsimp only at *
          have hwp : IntKind.i64.wrap ((p : Int) + 1) = ((p + 1 : Nat) : Int) := by rw [IntKind.wrap_i64]; omega
          have HS := Lib.hid hs; have HTA := Lib.hid hta; have H51 := Lib.hid h51; have HS5 := Lib.hid hs5
          clear hs hta h51 hs5 hal
          by_cases he : x1 = (k : Int)
          · subst he
            go_wp2
            go_roundw
            case rel =>
              refine ⟨p + 1, by omega, by go_num, by first | rfl | trivial, x2, rfl, ?_, H51.out⟩
              rw [HTA.out, DevMath.lastOf_app, if_pos rfl]
              rfl
            case measure => simp [intOf]; omega
          · have heb : ((x1 == (k : Int)) = false) := by rw [beq_eq_false_iff_ne]; exact he
            have hed : decide (x1 = (k : Int)) = false := decide_eq_false he
            go_wp2
            go_roundw
            case rel =>
              refine ⟨p + 1, by omega, by go_num, by first | rfl | trivial, s, rfl, ?_, HS5.out⟩
              rw [HTA.out, DevMath.lastOf_app, if_neg he]
              exact HS.out
            case measure => simp [intOf]; omega
        · have hpm : p = m := by omega
          have hwt : ws.take p = ws := by rw [hpm, HM.out]; exact List.take_length
          rw [hwt] at hs
          have hs512 : s.size = 512 := by simpa using hs5
          obtain ⟨cc, W, hcv, hsl, hbw⟩ := str_slice w s (by omega)
          have hbb : Hid (Sl W (.slice (some ⟨w.heap.size, 0, none⟩) s.size cc) s.data.toList) := Lib.hid hsl
          have HBW := Lib.hid hbw; have HS := Lib.hid hs
          clear hsl hbw hs hs5 hwt hs512
          go_wp2
          go_ret2
          refine ⟨⟨_, rfl, ?_⟩, HBW.out⟩
          rw [Option.getD_some, ← HS.out]
          exact hbb.out
end Go.Proofs.Ytbpecfbliglboaa
