/- QueueCopies: the walk of the law. -/
import Derived.Test.YthecekkophbceaaQAwake
import Derived.Test.YthecekkophbceaaOpen
namespace Go.Proofs.Ythecekkophbceaa
open Go.RowKit Go.Conc
set_option linter.unusedVariables false
set_option linter.unusedSimpArgs false
attribute [local irreducible] wpR relOp
theorem Sl.chg2 {S : Nat → Prop} {w w1 : World} {v : Value} {l : List UInt8} (h : Sl w v l) (hc : Chg S w w1) (hS : ∀ a n c, v = .slice (some a) n c → ¬ S a.block) : Sl w1 v l := by
  obtain ⟨A, c, h1, h2, h3, h4⟩ := h
  have hne : ∀ a, A = some a → w1.heap[a.block]? = w.heap[a.block]? := fun a e => by
    obtain ⟨cs, fr, h5⟩ := h4 a e
    exact hc.block _ (Array.getElem?_eq_some_iff.1 h5).1 (hS a _ _ (by rw [h1, e]))
  refine ⟨A, c, h1, h2, ⟨h3.1, fun hp => ?_⟩, fun a e => ?_⟩
  · obtain ⟨a, e, hc⟩ := h3.2 hp
    refine ⟨a, e, fun j hj => ?_⟩
    have h6 : (a.add j).block = a.block := by unfold Addr.add; split <;> rfl
    rw [World.cell?_of_block (w := w) (by rw [h6]; exact hne a e)]
    exact hc j hj
  · obtain ⟨cs, fr, h5⟩ := h4 a e
    exact ⟨cs, fr, (hne a e).trans h5⟩
theorem Sl.lt {w : World} {v : Value} {l : List UInt8} (h : Sl w v l) {a : Addr} {n c : Nat} (e : v = .slice (some a) n c) : a.block < w.heap.size := by
  obtain ⟨A, c', h1, _, _, h4⟩ := h
  rw [h1] at e
  injection e with e
  obtain ⟨cs, fr, h5⟩ := h4 a e
  exact (Array.getElem?_eq_some_iff.1 h5).1
theorem Cs.lift {w w1 : World} (hi : ∀ v l, Sl w v l → Sl w1 v l) {vs : List Value} {ls : List (List UInt8)} (h : Cs w vs ls) : Cs w1 vs ls := h.imp hi
theorem Mb.chg {S : Nat → Prop} {w w1 : World} {g e : Nat} {l : List UInt8} (h : Mb w g e l) (hc : Chg S w w1) (hg : ¬ S g) : Mb w1 g e l := by
  obtain ⟨h0, cur, h1, h2, h3⟩ := h
  exact ⟨h0, cur, hc.heap h1 hg, h2, h3⟩
theorem Rdl.of_row {w : World} {A : Option Addr} {ls : List (List UInt8)} (h : Row (KSlice KByte 1 1) 1 w A ls) (hl : ls.length ≤ 9223372036854775807) : Rdl w A ls :=
  ⟨hl, fun hp => by
    obtain ⟨a, e, hc⟩ := h hp
    refine ⟨a, e, fun j hj => ?_⟩
    obtain ⟨cs, hcl, hK, hcell⟩ := hc j hj
    obtain ⟨A', c', h1, h2, h3, h4, h5⟩ := hK
    have h0 := hcell 0 (by omega)
    subst h1
    exact ⟨A', c', by simpa using h0, h2, Rd.of_row h5 (by omega)⟩⟩
theorem info_u8 : (Try.prog.info? 5).map (fun i => (i.zero, i.size, i.bytes)) = some (some (.int .u8 0), 1, 1) := by rfl
theorem qu_after {S : Nat → Prop} {wr w3 w4 w5 : World} {g ch cap s r : Nat} {ls : List (List UInt8)} {vs : List Value} {v : Value} {l : List UInt8} (hq : Qu wr g ch cap ls false) (hb3 : Below wr.heap.size wr w3)
    (h3 : w3.heap[ch]? = some (.chan cap vs.toArray false s r false)) (h4 : w4.heap[ch]? = some (.chan cap (vs ++ [v]).toArray false (s + 1) r false)) (h5 : Sl w4 v l) (h7 : ∀ a n c, v = .slice (some a) n c → w3.heap.size ≤ a.block)
    (h8 : Chg (· = ch) w3 w4) (hS : ∀ k, S k → wr.heap.size ≤ k ∧ k < w3.heap.size) (h9 : Chg S w4 w5) : Qu w5 g ch cap (ls ++ [l]) false := by
  obtain ⟨b, s', r', e1, hC⟩ := hq.buf
  have hlc := (Array.getElem?_eq_some_iff.1 e1).1
  have hlg := (Array.getElem?_eq_some_iff.1 hq.st).1
  have e2 := (Chg.of_below (S := fun _ => False) hb3).heap e1 (by simp)
  rw [h3] at e2
  injection e2 with e2
  injection e2 with _ e2 _ _ _ _
  obtain rfl : vs = b := by simpa using e2
  have hnS : ∀ k, k < wr.heap.size → ¬ S k := fun k hk hs => by have := (hS k hs).1; omega
  refine ⟨h9.heap (h8.heap ((Chg.of_below (S := fun _ => False) hb3).heap hq.st (by simp)) hq.ne) (hnS _ hlg), vs ++ [v], s + 1, r, h9.heap h4 (hnS _ hlc), ?_⟩
  refine Cs.snoc (h5.chg2 h9 fun a n c e hs => by have := h7 a n c e; have := (hS _ hs).2; omega) (hC.imp fun v' l' hv => ?_)
  have hv3 := hv.below hb3
  have hv4 := hv3.chg h8 (hq.below hb3).not8c
  exact hv4.chg2 h9 fun a n c e hs => by have := hv.lt e; have := (hS _ hs).1; omega
set_option maxRecDepth 20000 in
set_option maxHeartbeats 2000000 in
theorem QueueCopies_ok (A : Option Addr) (c : Nat) (ls : List (List UInt8)) (w : World) (hr : Rdl w A ls) (hc : ls.length ≤ c) (hn30 : ls.length ≤ 30) :
    Calls Try.prog 3 #[.slice A ls.length c] w fun e w' => e = .returned (.bool true) ∧ Below w.heap.size w w' := by
  have ht := Try.underlying28
  have hi := info_u8
  obtain ⟨n, hnn⟩ : ∃ n, n = ls.length := ⟨_, rfl⟩
  rw [← hnn] at hc hn30 ⊢
  have HN := Lib.hid hnn
  clear hnn
  go_enter Try.func3, Try.ntmps3
  go_wp2_with fail
  refine (awake2_any _).mono ?_
  rintro e w1 ⟨rfl, hb1⟩
  have HB1 := Lib.hid hb1
  clear hb1
  go_wp2_with fail
  refine (new_any w1 64 (by decide) (by decide)).mono ?_
  rintro e w2 ⟨rfl, hq2, hb2⟩
  have HB2 := Lib.hid (below_then HB1.out HB1.out.size hb2)
  have HQ2 := Lib.hid hq2
  obtain ⟨g, hg⟩ : ∃ g, g = w1.heap.size + 1 := ⟨_, rfl⟩
  obtain ⟨ch, hch⟩ : ∃ g, g = w1.heap.size := ⟨_, rfl⟩
  have hg0 : w.heap.size ≤ g := by have := HB1.out.size; omega
  have hch0 : w.heap.size ≤ ch := by have := HB1.out.size; omega
  rw [← hg, ← hch] at HQ2
  rw [← hg]
  clear hb2 hq2 hg hch
  go_wp2_with fail
  go_loopw [5] (fun i wr => ∃ k : Nat, k ≤ n ∧ i = .int .i64 k ∧ Qu wr g ch 64 (ls.take k) false ∧ Below w.heap.size w wr) (fun i _ => n - (intOf i).toNat)
  case atStart => exact ⟨0, by omega, rfl, HQ2.out, HB2.out⟩
  case round =>
    obtain ⟨k, hk, rfl, hq, hb⟩ := hrel
    by_cases hlt : k < n
    · obtain ⟨a, A1, c1, rfl, hcell, hle1, hr1⟩ := hr.at_ k (by rw [← HN.out]; exact hlt)
      have hts : ls.take (k + 1) = ls.take k ++ [ls[k]'(by rw [← HN.out]; exact hlt)] := take_succ_at ls k (by rw [← HN.out]; exact hlt)
      have htl : (ls.take k).length = k := by rw [List.length_take, ← HN.out]; omega
      obtain ⟨lk, hlk⟩ : ∃ lk, lk = ls[k]'(by rw [← HN.out]; exact hlt) := ⟨_, rfl⟩
      rw [← hlk] at hcell hle1 hr1 hts
      have hcell1 := cell_below hb hcell
      have hr2 := hr1.below hb
      obtain ⟨q, hq'⟩ : ∃ q, q = lk.length := ⟨_, rfl⟩
      rw [← hq'] at hcell1 hle1
      have HQ := Lib.hid hq; have HB := Lib.hid hb; have HTs := Lib.hid hts; have HTl := Lib.hid htl; have HQ' := Lib.hid hq'; have HR2 := Lib.hid hr2; have HL := Lib.hid hcell1
      clear hcell hq hb hts htl hq' hr1 hr2 hlk
      by_cases hbig : 50 < q
      · go_wp2_with fail
        go_ret
        exact ⟨rfl, HB.out⟩
      · have hcell2 : (wr.alloc (.cells #[] 5)).cell? (a.add k) = some (.slice A1 q c1) := cell_alloc _ HL.out
        go_wp2_with (at_builtin; go_loud (refine wpList_appn (w0 := wr) wr.heap.size rfl (.tmp 32) (.tmp 36) 28 5 rfl ht hi _ [] lk A1 q c1 rfl rfl HQ'.out.symm (Ob.empty _ _ _ (Nat.le_refl _)) (HR2.out.alloc _) ((Below.refl _ wr).alloc (Nat.le_refl _) _) (by simp) (by simp; omega) ?_))
        intro v2 w3 ho hb3 _ _
        obtain ⟨A3, c3, rfl, hle3, hrd3⟩ := ho.rd
        have hput := put_own w3 g ch 64 (ls.take k) (HQ.out.below hb3) A3 c3 lk hrd3 (by have := HQ'.out; omega) (by rw [HTl.out]; omega)
        rw [← HQ'.out] at hput hle3 ⊢
        have HO := Lib.hid ho; have HB3 := Lib.hid hb3; have HPut := Lib.hid hput
        clear hcell1 hcell2 ho hb3 hput hrd3
        go_wp2_with fail
        refine HPut.out.mono ?_
        rintro e w4 ⟨rfl, vs, v, s, r, h3, h4, h5, h6, h7, h8⟩
        have hch3 : ∀ cs fr, w3.heap[ch]? ≠ some (.cells cs 5 fr) := (HQ.out.below HB3.out).not8c ch rfl
        have hgb : ∃ gb, 0 < q → A3 = some ⟨gb, 0, none⟩ ∧ wr.heap.size ≤ gb ∧ gb < w3.heap.size ∧ Mb w4 gb 5 lk := by
          by_cases h0 : 0 < q
          · obtain ⟨gb, c3', e3, hgb1, _, hm⟩ := Ob.mb HO.out (by rw [← HQ'.out]; exact h0)
            injection e3 with e3
            refine ⟨gb, fun _ => ⟨e3, hgb1, hm.lt, hm.chg h8 (fun e => ?_)⟩⟩
            subst e
            obtain ⟨_, cur, hh, _⟩ := hm
            exact hch3 _ _ hh
          · exact ⟨0, fun h => absurd h h0⟩
        obtain ⟨gb, hgb⟩ := hgb
        have hAft := fun (w5 : World) (h9 : Chg (fun b => 0 < q ∧ b = gb) w4 w5) => qu_after HQ.out HB3.out h3 h4 h6 h7 h8 (fun k hk => by obtain ⟨h1, rfl⟩ := hk; obtain ⟨_, h2, h3, _⟩ := hgb h1; exact ⟨h2, h3⟩) h9
        have hb4 : Below w.heap.size w w4 := Chg.below (below_then HB.out HB.out.size HB3.out) h8 (Nat.le_trans HB.out.size HB3.out.size) (fun k hk => by omega)
        have hgbw : 0 < q → w.heap.size ≤ gb := fun h => Nat.le_trans HB.out.size (hgb h).2.1
        rw [← HTs.out] at hAft
        have HAft := Lib.hid hAft; have HB4 := Lib.hid hb4; have HGb := Lib.hid hgb; have HGw := Lib.hid hgbw
        clear hch3 h3 h4 h5 h6 h7 h8 hAft hb4 hgb hgbw
        go_wp2_with fail
        go_loopw [7] (fun j w5 => ∃ m : Nat, m ≤ q ∧ j = .int .i64 m ∧ Chg (fun b => 0 < q ∧ b = gb) w4 w5 ∧ (0 < q → ∃ l' : List UInt8, l'.length = q ∧ Mb w5 gb 5 l')) (fun j _ => q - (intOf j).toNat)
        case atStart => exact ⟨0, by omega, rfl, Chg.refl _ _, fun h => ⟨lk, HQ'.out.symm, (HGb.out h).2.2.2⟩⟩
        case round =>
          rename_i w5
          obtain ⟨m, hm, rfl, hcg, hmb⟩ := hrel
          by_cases hmq : m < q
          · obtain ⟨l', hl', hmb⟩ := hmb (by omega)
            obtain ⟨rfl, _⟩ := HGb.out (by omega)
            obtain ⟨hc1, hf1⟩ := hmb.cell m (by omega)
            generalize hbx : l'[m]'(by omega) = b at hc1
            have hset := hmb.set m (b + 1)
            have hi8 : ((b.toNat : Int) + 1) % 256 = ((b + 1).toNat : Nat) := by
              have h : (b + 1).toNat = (b.toNat + 1) % 256 := by simp [UInt8.toNat_add]
              rw [h]; omega
            generalize b + 1 = b' at hi8 hset
            have HC := Lib.hid hcg; have HSet := Lib.hid hset; have HL' := Lib.hid hl'
            clear hcg hset hmb hbx hl'
            go_wp2
            go_roundw
            case rel => exact ⟨m + 1, by omega, by go_num, HC.out.trans ((Chg.setCell _ _ _ _).imp fun k hk => ⟨by omega, hk⟩), fun _ => ⟨_, by rw [List.length_set]; exact HL'.out, HSet.out⟩⟩
            case measure => simp [intOf]; omega
          · obtain rfl : m = q := by omega
            have HQ5 := Lib.hid (HAft.out _ hcg)
            have HB5 := Lib.hid (Chg.below HB4.out hcg HB4.out.size (fun k hk => by obtain ⟨h1, rfl⟩ := hk; exact HGw.out h1))
            clear hcg hmb
            go_wp2
            go_roundw
            case rel => exact ⟨k + 1, by omega, by go_num, HQ5.out, HB5.out⟩
            case measure => simp [intOf]; omega
    · obtain rfl : k = n := by omega
      rw [show ls.take k = ls.drop 0 by rw [List.drop_zero]; exact List.take_of_length_le (by rw [← HN.out]; exact Nat.le_refl _)] at hq
      have HQ := Lib.hid hq; have HB := Lib.hid hb
      clear hq hb
      go_wp2_with fail
      go_loopw [8] (fun i wr2 => ∃ j : Nat, j ≤ k ∧ i = .int .i64 j ∧ Qu wr2 g ch 64 (ls.drop j) false ∧ Below w.heap.size w wr2) (fun i _ => k - (intOf i).toNat)
      case atStart => exact ⟨0, by omega, rfl, HQ.out, HB.out⟩
      case round =>
        obtain ⟨j, hj, rfl, hq, hb⟩ := hrel
        by_cases hlt : j < k
        · obtain ⟨a, A1, c1, rfl, hcell, hle1, hr1⟩ := hr.at_ j (by rw [← HN.out]; exact hlt)
          have hts : ls.drop j = ls[j]'(by rw [← HN.out]; exact hlt) :: ls.drop (j + 1) := List.drop_eq_getElem_cons (by rw [← HN.out]; exact hlt)
          generalize ls[j]'(by rw [← HN.out]; exact hlt) = lk at hcell hle1 hr1 hts
          rw [hts] at hq
          have HTake := Lib.hid (take_any _ g ch 64 lk (ls.drop (j + 1)) false hq)
          have HB := Lib.hid hb; have HR1 := Lib.hid hr1; have HL1 := Lib.hid hcell
          clear hq hb hts hcell hr1
          go_wp2_with fail
          refine HTake.out.mono ?_
          rintro e w3 ⟨v3, rfl, hs3, hq3, hc3⟩
          obtain ⟨A3, c3, rfl, _, hr3⟩ := hs3.rd
          have hb3 := Chg.below HB.out hc3 HB.out.size (fun k hk => by omega)
          have HC : Hid (∀ W, Gr w3.heap.size w3.drew W → W.cell? (a.add j) = some (.slice A1 lk.length c1) ∧ (convert 28 9 (.slice A3 lk.length c3)).run Try.prog W = .ok (.string ⟨lk.toArray⟩) W ∧ (convert 28 9 (.slice A1 lk.length c1)).run Try.prog W = .ok (.string ⟨lk.toArray⟩) W) := Lib.hid fun W hW => by
            have h := Below.trans (Below.drew (Below.refl w3.heap.size w3)) hW.1
            have h0 := below_then hb3 hb3.size h
            exact ⟨cell_below h0 HL1.out, (hr3.below h).str _ _ rfl, (HR1.out.below h0).str _ _ rfl⟩
          have HQ3 := Lib.hid hq3; have HB3 := Lib.hid hb3
          clear hs3 hq3 hc3 hr3 hb3
          go_wp2_with fail
          refine wp_region_tbl _ (fun _ => none) (w3.heap.size) (by kernel_rfl) (by kernel_rfl) (by kernel_rfl) ?_
          repeat (first
            | (refine wpR_plain ?_ (by rfl) (fun K hK => ?_); (focus (first | (simp only [Region.wanted]; done) | (go_simp; done))); apply Exists.intro; refine ⟨fun W hW => ?_, ?_⟩; (go_simp; (try simp only [plainUpon_value, true_and]); rfl); go_simp; refine hK _ ?_; clear hK K)
            | (refine wpR_plain ?_ (by rfl) (fun K hK => ?_); (focus (first | (simp only [Region.wanted]; done) | (go_simp; done))); apply Exists.intro; refine ⟨fun W hW => ?_, ?_⟩; (have hcw := HC.out W hW; go_simp; (try simp only [plainUpon_value, true_and]); rfl); go_simp; refine hK _ ?_; clear hK K)
            | (refine wpR_skip ?_ (fun K hK => ?_); (focus (first | (simp only [Region.wanted]; done) | (go_simp; done))); go_simp; refine hK _ ?_; clear hK K))
          refine wpR_nil (fun W hW hF => ?_)
          have hbW := Below.trans (Below.drew (Below.refl w3.heap.size w3)) hW.1
          have HQW := Lib.hid (HQ3.out.below hbW)
          have HBW := Lib.hid (below_then HB3.out HB3.out.size hbW)
          clear hF hW hbW
          go_wp2
          go_roundw
          case rel => exact ⟨j + 1, by omega, by go_num, HQW.out, HBW.out⟩
          case measure => simp [intOf]; omega
        · obtain rfl : j = k := by omega
          rw [show ls.drop j = [] from List.drop_eq_nil_of_le (by rw [← HN.out]; exact Nat.le_refl _)] at hq
          have hlen := len_any _ g ch 64 [] false hq
          have HBW := Lib.hid hb
          clear hq hb
          go_wp2_with fail
          refine hlen.mono ?_
          rintro e w4 ⟨rfl, rfl⟩
          go_wp2
          go_ret
          exact ⟨rfl, HBW.out⟩
set_option maxRecDepth 20000 in
theorem QueueCopies_walk (A : Option Addr) (c : Nat) (ls : List (List UInt8)) (w : World) (hr : Row (KSlice KByte 1 1) 1 w A ls) (hc : ls.length ≤ c) (hl : ls.length * 24 ≤ 140737488351232) :
    Calls Try.prog 3 #[.slice A ls.length c] w fun e w' => e = .returned (.bool true) ∧ Below w.heap.size w w' := by
  by_cases h : ls.length ≤ 30
  · exact QueueCopies_ok A c ls w (Rdl.of_row hr (by omega)) hc h
  · clear hr
    generalize ls.length = n at *
    have h1 : 30 < n := by omega
    clear h
    go_enter Try.func3, Try.ntmps3
    go_wp2_with fail
    refine (awake2_any _).mono ?_
    rintro e w1 ⟨rfl, hb1⟩
    have HB1 := Lib.hid hb1
    clear hb1
    go_wp2_with fail
    go_ret
    exact ⟨rfl, HB1.out⟩
end Go.Proofs.Ythecekkophbceaa
