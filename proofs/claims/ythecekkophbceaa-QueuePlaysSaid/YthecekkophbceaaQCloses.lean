/- QueueCloses: the walk of the law; rows of strings. -/
import Derived.Test.YthecekkophbceaaQCopies
namespace Go.Proofs.Ythecekkophbceaa
open Go.RowKit Go.Conc
set_option linter.unusedVariables false
set_option linter.unusedSimpArgs false
attribute [local irreducible] wpR relOp
/-- strings, read from A on -/
def Rds (w : World) (A : Option Addr) (ss : List ByteArray) : Prop := 0 < ss.length → ∃ a, A = some a ∧ ∀ j, (h : j < ss.length) → w.cell? (a.add j) = some (.string ss[j])
theorem Rds.at_ {w : World} {A : Option Addr} {ss : List ByteArray} (h : Rds w A ss) (k : Nat) (hk : k < ss.length) : ∃ a, A = some a ∧ w.cell? (a.add k) = some (.string ss[k]) := by
  obtain ⟨a, e, hc⟩ := h (by omega)
  exact ⟨a, e, hc k hk⟩
theorem Rds.of_row {w : World} {A : Option Addr} {ss : List ByteArray} (h : Row KStr 1 w A ss) : Rds w A ss ∧ ∀ j, (h : j < ss.length) → ss[j].size ≤ 140737488351232 := by
  refine ⟨fun hp => ?_, fun j hj => ?_⟩
  · obtain ⟨a, e, hc⟩ := h hp
    refine ⟨a, e, fun j hj => ?_⟩
    obtain ⟨cs, hcl, ⟨hK, _⟩, hcell⟩ := hc j hj
    have h0 := hcell 0 (by omega)
    subst hK
    simpa using h0
  · obtain ⟨a, e, hc⟩ := h (by omega)
    obtain ⟨cs, hcl, ⟨_, hK⟩, hcell⟩ := hc j hj
    exact hK
/-- the strings' bytes -/
def bys (ss : List ByteArray) : List (List UInt8) := ss.map fun s => s.data.toList
theorem bys_length (ss : List ByteArray) : (bys ss).length = ss.length := by simp [bys]
theorem bys_take_succ (ss : List ByteArray) (k : Nat) (h : k < ss.length) : (bys ss).take (k + 1) = (bys ss).take k ++ [ss[k].data.toList] := by
  rw [take_succ_at _ k (by rw [bys_length]; exact h)]
  simp [bys]
theorem bys_drop (ss : List ByteArray) (k : Nat) (h : k < ss.length) : (bys ss).drop k = ss[k].data.toList :: (bys ss).drop (k + 1) := by
  rw [List.drop_eq_getElem_cons (by rw [bys_length]; exact h)]
  simp [bys]
theorem Rd.str2 {w : World} {A : Option Addr} {s : ByteArray} (h : Rd w A s.data.toList) (n c : Nat) (hn : s.data.toList.length = n) : (convert 28 9 (.slice A n c)).run Try.prog w = .ok (.string s) w := by
  have h1 := h.str n c hn
  simpa using h1
theorem put_closed (w : World) (g ch cap : Nat) (ls : List (List UInt8)) (h : Qu w g ch cap ls true) (A : Option Addr) (n c : Nat) :
    Calls Try.prog 10 #[.pointer (some ⟨g, 0, none⟩), .slice A n c] w fun e w' => e = .returned (.bool false) ∧ w' = w := by
  have hcl := closed_any w g ch cap ls true h
  clear h
  go_enter Try.func10, Try.ntmps10
  go_wp2_with fail
  refine hcl.mono ?_
  rintro e w1 ⟨rfl, rfl⟩
  go_wp2
  go_ret
  exact ⟨rfl, rfl⟩
theorem put_closed_rel {B : Nat} (w : World) (g ch cap : Nat) (ls : List (List UInt8)) (h : Qu w g ch cap ls true) (A : Option Addr) (n c : Nat) :
    Calls Try.prog 10 #[.pointer (some ⟨g, 0, none⟩), .slice A n c] w fun e w' => ∃ v, e = .returned v ∧ Gr B w w' ∧ v = .bool false := by
  refine (put_closed w g ch cap ls h A n c).mono ?_
  rintro e w1 ⟨rfl, rfl⟩
  exact ⟨_, rfl, Gr.refl _ _, rfl⟩
def clTbl : Nat → Option Sp
  | 14 => some (.val (.bool false))
  | _ => none
set_option maxRecDepth 20000 in
set_option maxHeartbeats 2000000 in
theorem QueueCloses_ok (A : Option Addr) (c : Nat) (ss : List ByteArray) (more : ByteArray) (w : World) (hr : Rds w A ss) (hsz : ∀ j, (h : j < ss.length) → ss[j].size ≤ 140737488351232) (hc : ss.length ≤ c) (hn60 : ss.length ≤ 60) (hm : more.size ≤ 140737488351232) :
    Calls Try.prog 4 #[.slice A ss.length c, .string more] w fun e w' => e = .returned (.bool true) ∧ Below w.heap.size w w' := by
  obtain ⟨n, hnn⟩ : ∃ n, n = ss.length := ⟨_, rfl⟩
  rw [← hnn] at hc hn60 ⊢
  have HN := Lib.hid hnn
  clear hnn
  go_enter Try.func4, Try.ntmps4
  go_wp2_with fail
  refine (awake2_any _).mono ?_
  rintro e w1 ⟨rfl, hb1⟩
  have HB1 := Lib.hid hb1
  clear hb1
  go_wp2_with fail
  refine (new_any w1 64 (by decide) (by decide)).mono ?_
  rintro e w2 ⟨rfl, hq2, hb2⟩
  have HB2 := Lib.hid (below_then HB1.out HB1.out.size hb2)
  have HQ2 := Lib.hid hq2
  obtain ⟨g, hg⟩ : ∃ g, g = w1.heap.size + 1 := ⟨_, rfl⟩
  obtain ⟨ch, hch⟩ : ∃ g, g = w1.heap.size := ⟨_, rfl⟩
  have hg0 : w.heap.size ≤ g := by have := HB1.out.size; omega
  have hch0 : w.heap.size ≤ ch := by have := HB1.out.size; omega
  rw [← hg, ← hch] at HQ2
  rw [← hg]
  clear hb2 hq2 hg hch
  go_wp2_with fail
  go_loopw [7] (fun i wr => ∃ k : Nat, k ≤ n ∧ i = .int .i64 k ∧ Qu wr g ch 64 ((bys ss).take k) false ∧ Below w.heap.size w wr) (fun i _ => n - (intOf i).toNat)
  case atStart => exact ⟨0, by omega, rfl, HQ2.out, HB2.out⟩
  case round =>
    obtain ⟨k, hk, rfl, hq, hb⟩ := hrel
    by_cases hlt : k < n
    · obtain ⟨a, rfl, hcell⟩ := hr.at_ k (by rw [← HN.out]; exact hlt)
      have hs1 := hsz k (by rw [← HN.out]; exact hlt)
      have hts := bys_take_succ ss k (by rw [← HN.out]; exact hlt)
      generalize ss[k]'(by rw [← HN.out]; exact hlt) = s at hcell hs1 hts
      have hcell1 := cell_below hb hcell
      obtain ⟨cs, W, hconv, hrd, hbW, _⟩ := str_bytes wr s hs1
      have hput := put_any W g ch 64 ((bys ss).take k) false (hq.below hbW) _ cs s.data.toList hrd (by simpa using hs1)
      rw [show may 64 ((bys ss).take k) false = true by simp [may, bys_length]; omega, if_pos rfl, ← hts] at hput
      have hbb := below_then hb hb.size hbW
      rw [show s.data.toList.length = s.size by simp] at hput
      have HPut := Lib.hid hput; have HB := Lib.hid hbb
      clear hput hbb hcell hs1 hts hq hb hrd hbW
      go_wp2_with fail
      refine HPut.out.mono ?_
      rintro e w3 ⟨rfl, hq3, hc3⟩
      have HQ3 := Lib.hid hq3; have HB3 := Lib.hid (Chg.below HB.out hc3 HB.out.size (fun k hk => by omega))
      clear hq3 hc3 hcell1 hconv
      go_wp2
      go_roundw
      case rel => exact ⟨k + 1, by omega, by go_num, HQ3.out, HB3.out⟩
      case measure => simp [intOf]; omega
    · obtain rfl : k = n := by omega
      rw [show (bys ss).take k = (bys ss).drop 0 by rw [List.drop_zero]; exact List.take_of_length_le (by rw [bys_length, ← HN.out]; exact Nat.le_refl _)] at hq
      have HClose := Lib.hid (close_any _ g ch 64 _ false hq)
      have HB := Lib.hid hb
      clear hq hb
      go_wp2_with fail
      refine HClose.out.mono ?_
      rintro e w3 ⟨rfl, hq3, hc3⟩
      have HB3 := Lib.hid (Chg.below HB.out hc3 HB.out.size (fun k hk => by omega))
      obtain ⟨cs, W, hconv, hrd, hbW, _⟩ := str_bytes w3 more hm
      have HQW := Lib.hid (hq3.below hbW)
      have HBW := Lib.hid (below_then HB3.out HB3.out.size hbW)
      clear hq3 hc3 hrd hbW
      go_wp2_with fail
      refine (put_closed _ g ch 64 _ HQW.out _ _ _).mono ?_
      rintro e w4 ⟨rfl, rfl⟩
      clear hconv
      have hlen := len_any w4 g ch 64 _ true HQW.out
      rw [List.drop_zero, bys_length, ← HN.out] at hlen
      go_wp2_with fail
      refine hlen.mono ?_
      rintro e w5 ⟨rfl, rfl⟩
      go_wp2_with fail
      refine (closed_any w5 g ch 64 _ true HQW.out).mono ?_
      rintro e w6 ⟨rfl, rfl⟩
      clear hlen
      go_wp2_with fail
      go_loopw [8] (fun i wr2 => ∃ j : Nat, j ≤ k ∧ i = .int .i64 j ∧ Qu wr2 g ch 64 ((bys ss).drop j) true ∧ Below w.heap.size w wr2) (fun i _ => k - (intOf i).toNat)
      case atStart => exact ⟨0, by omega, rfl, HQW.out, HBW.out⟩
      case round =>
        obtain ⟨j, hj, rfl, hq, hb⟩ := hrel
        by_cases hlt : j < k
        · obtain ⟨a, rfl, hcell⟩ := hr.at_ j (by rw [← HN.out]; exact hlt)
          have hts := bys_drop ss j (by rw [← HN.out]; exact hlt)
          generalize ss[j]'(by rw [← HN.out]; exact hlt) = s at hcell hts
          rw [hts] at hq
          have HTake := Lib.hid (take_any _ g ch 64 _ ((bys ss).drop (j + 1)) true hq)
          have HB := Lib.hid hb; have HL1 := Lib.hid hcell
          clear hq hb hts hcell
          go_wp2_with fail
          refine HTake.out.mono ?_
          rintro e w7 ⟨v3, rfl, hs3, hq3, hc3⟩
          obtain ⟨A3, c3, rfl, _, hr3⟩ := hs3.rd
          have hb3 := Chg.below HB.out hc3 HB.out.size (fun k hk => by omega)
          obtain ⟨q, hq'⟩ : ∃ q, q = s.data.toList.length := ⟨_, rfl⟩
          rw [← hq']
          have HC : Hid (∀ W, Gr w7.heap.size w7.drew W → W.cell? (a.add j) = some (.string s) ∧ (convert 28 9 (.slice A3 q c3)).run Try.prog W = .ok (.string s) W) := Lib.hid fun W hW => by
            have h := Below.trans (Below.drew (Below.refl w7.heap.size w7)) hW.1
            have h0 := below_then hb3 hb3.size h
            exact ⟨cell_below h0 HL1.out, (hr3.below h).str2 _ _ hq'.symm⟩
          have HQ3 := Lib.hid hq3; have HB3 := Lib.hid hb3
          clear hs3 hq3 hc3 hr3 hb3 hq'
          go_wp2_with fail
          refine wp_region_tbl _ (clTbl) (w7.heap.size) (by kernel_rfl) (by kernel_rfl) (by kernel_rfl) ?_
          repeat (first
            | (refine wpR_plain ?_ (by rfl) (fun K hK => ?_); (focus (first | (simp only [Region.wanted]; done) | (go_simp; done))); apply Exists.intro; refine ⟨fun W hW => ?_, ?_⟩; (go_simp; (try simp only [plainUpon_value, true_and]); rfl); go_simp; refine hK _ ?_; clear hK K)
            | (refine wpR_plain ?_ (by rfl) (fun K hK => ?_); (focus (first | (simp only [Region.wanted]; done) | (go_simp; done))); apply Exists.intro; refine ⟨fun W hW => ?_, ?_⟩; (have hcw := HC.out W hW; go_simp; (try simp only [plainUpon_value, true_and]); rfl); go_simp; refine hK _ ?_; clear hK K)
            | (refine wpR_skip ?_ (fun K hK => ?_); (focus (first | (simp only [Region.wanted]; done) | (go_simp; done))); go_simp; refine hK _ ?_; clear hK K)
            | (refine wpR_val (by rfl) ?_ (fun W hW hF => ?_) (fun K hK => ?_); (focus (first | (simp only [Region.wanted]; done) | (go_simp; done))); (go_simp; simp only [relUpon_enter]; exact put_closed_rel W g ch 64 _ (HQ3.out.below (Below.trans (Below.drew (Below.refl w7.heap.size w7)) hW.1)) A3 q c3); go_simp; refine hK _ ?_; clear hK K))
          refine wpR_nil (fun W hW hF => ?_)
          have hbW := Below.trans (Below.drew (Below.refl w7.heap.size w7)) hW.1
          have HQW := Lib.hid (HQ3.out.below hbW)
          have HBW := Lib.hid (below_then HB3.out HB3.out.size hbW)
          clear hF hW hbW
          go_wp2
          go_roundw
          case rel => exact ⟨j + 1, by omega, by go_num, HQW.out, HBW.out⟩
          case measure => simp [intOf]; omega
        · obtain rfl : j = k := by omega
          rw [show (bys ss).drop j = [] from List.drop_eq_nil_of_le (by rw [bys_length, ← HN.out]; exact Nat.le_refl _)] at hq
          have htk := take_none _ g ch 64 true hq
          have HBW := Lib.hid hb
          clear hq hb
          go_wp2_with fail
          refine htk.mono ?_
          rintro e w8 ⟨rfl, rfl⟩
          go_wp2
          go_ret
          exact ⟨rfl, HBW.out⟩
set_option maxRecDepth 20000 in
theorem QueueCloses_walk (A : Option Addr) (c : Nat) (ss : List ByteArray) (more : ByteArray) (w : World) (hr : Row KStr 1 w A ss) (hc : ss.length ≤ c) (hl : ss.length * 16 ≤ 140737488351232) (hm : more.size ≤ 140737488351232) :
    Calls Try.prog 4 #[.slice A ss.length c, .string more] w fun e w' => e = .returned (.bool true) ∧ Below w.heap.size w w' := by
  by_cases h : ss.length ≤ 60
  · obtain ⟨h1, h2⟩ := Rds.of_row hr
    exact QueueCloses_ok A c ss more w h1 h2 hc h hm
  · clear hr
    generalize ss.length = n at *
    have h1 : 60 < n := by omega
    clear h
    go_enter Try.func4, Try.ntmps4
    go_wp2_with fail
    refine (awake2_any _).mono ?_
    rintro e w1 ⟨rfl, hb1⟩
    have HB1 := Lib.hid hb1
    clear hb1
    go_wp2_with fail
    go_ret
    exact ⟨rfl, HB1.out⟩
end Go.Proofs.Ythecekkophbceaa
