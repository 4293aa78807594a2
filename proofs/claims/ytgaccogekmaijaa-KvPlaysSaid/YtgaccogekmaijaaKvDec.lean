/- Decode: changes read. -/
import Derived.Test.YtgaccogekmaijaaKvRput
namespace KvMath
theorem restL_lt (bs : List UInt8) (h : bs ≠ []) : (restL bs 1).length < bs.length := by
  have := List.length_pos_iff.2 h
  unfold restL
  split
  · simpa using this
  · rw [List.length_drop]; omega
end KvMath
namespace Go.Proofs.Ytgaccogekmaijaa
open Go.RowKit
set_option linter.unusedVariables false
set_option linter.unusedSimpArgs false
theorem putM_lt (bs : List UInt8) (bad : Bool) (h : bs ≠ []) : (putM bs bad).2.1.length < bs.length := by
  have h1 := KvMath.restL_lt bs h
  unfold putM
  dsimp only
  split
  · exact Nat.lt_of_le_of_lt (Nat.le_trans (restL_len _ _) (restL_len _ _)) h1
  · exact Nat.lt_of_le_of_lt (Nat.le_trans (restL_len _ _) (Nat.le_trans (restL_len _ _) (Nat.le_trans (restL_len _ _) (restL_len _ _)))) h1
theorem putM_good (bs : List UInt8) (bad : Bool) (h : (putM bs bad).2.2 = false) : (putM bs bad).1.good = true := by
  unfold putM at h ⊢
  dsimp only at h ⊢
  split at h
  · rename_i h1
    rw [if_pos h1]
    simp only [Bool.or_eq_false_iff] at h
    simpa using h.2
  · rename_i h1
    rw [if_neg h1]
    simp only [Bool.or_eq_false_iff] at h
    simpa using h.2
def decM : Nat → List UInt8 → Option (List PutD)
  | 0, _ => some []
  | n + 1, bs => if bs = [] then some [] else if (putM bs false).2.2 = true then none else (decM n (putM bs false).2.1).map ((putM bs false).1 :: ·)
def decB (bs : List UInt8) : Option (List PutD) := decM bs.length bs
theorem decM_mono : ∀ n m bs, bs.length ≤ n → bs.length ≤ m → decM n bs = decM m bs := by
  intro n
  induction n with
  | zero =>
    intro m bs h1 h2
    have : bs = [] := List.eq_nil_of_length_eq_zero (by omega)
    subst this
    cases m <;> simp [decM]
  | succ n ih =>
    intro m bs h1 h2
    by_cases hb : bs = []
    · subst hb
      cases m <;> simp [decM]
    · have hlt := putM_lt bs false hb
      cases m with
      | zero => exact absurd (List.eq_nil_of_length_eq_zero (by omega)) hb
      | succ m =>
        simp only [decM]
        rw [if_neg hb, if_neg hb, ih m _ (by omega) (by omega)]
theorem decB_nil : decB [] = some [] := rfl
theorem decB_bad (bs : List UInt8) (h : bs ≠ []) (hb : (putM bs false).2.2 = true) : decB bs = none := by
  unfold decB
  obtain ⟨n, hn⟩ : ∃ n, bs.length = n + 1 := ⟨bs.length - 1, by have := List.length_pos_iff.2 h; omega⟩
  rw [hn]
  simp only [decM]
  rw [if_neg h, if_pos hb]
theorem decB_step (bs : List UInt8) (h : bs ≠ []) (hb : (putM bs false).2.2 = false) : decB bs = (decB (putM bs false).2.1).map ((putM bs false).1 :: ·) := by
  have hlt := putM_lt bs false h
  unfold decB
  obtain ⟨n, hn⟩ : ∃ n, bs.length = n + 1 := ⟨bs.length - 1, by have := List.length_pos_iff.2 h; omega⟩
  rw [hn]
  simp only [decM]
  rw [if_neg h, if_neg (by rw [hb]; decide), decM_mono n _ _ (by omega) (Nat.le_refl _)]
theorem decB_good : ∀ n (bs : List UInt8) xs, bs.length ≤ n → decB bs = some xs → xs.all PutD.good = true ∧ xs.length ≤ bs.length := by
  intro n
  induction n with
  | zero =>
    intro bs xs h1 h2
    have : bs = [] := List.eq_nil_of_length_eq_zero (by omega)
    subst this
    rw [decB_nil] at h2
    injection h2 with h2
    subst h2
    simp
  | succ n ih =>
    intro bs xs h1 h2
    by_cases hb : bs = []
    · subst hb
      rw [decB_nil] at h2
      injection h2 with h2
      subst h2
      simp
    · have hlt := putM_lt bs false hb
      cases hbd : (putM bs false).2.2 with
      | true => rw [decB_bad bs hb hbd] at h2; cases h2
      | false =>
        rw [decB_step bs hb hbd] at h2
        obtain ⟨ys, hy, rfl⟩ := Option.map_eq_some_iff.1 h2
        have h3 := ih _ ys (by omega) hy
        refine ⟨?_, by rw [List.length_cons]; omega⟩
        rw [List.all_cons, putM_good bs false hbd, h3.1]
        rfl
theorem RdS.low {w0 w w1 : World} {r : Nat} {bs : List UInt8} {bad : Bool} (h : RdS w0 w r bs bad) (hb : Below w0.heap.size w w1) (hr : r < w0.heap.size) : RdS w0 w1 r bs bad := by
  obtain ⟨A, c, h1, h2, h4, h3⟩ := h
  exact ⟨A, c, (hb.block r hr).trans h1, h2, ⟨hb.os.trans h4.os, hb.tape.trans h4.tape, hb.output.trans h4.output, Nat.le_trans h4.size hb.size, fun k hk hn => (hb.block k hk).trans (h4.block k hk hn)⟩, h3⟩
theorem PutsR.chg {w w1 : World} {base r : Nat} {v : Value} {rs : List PutD} (h : PutsR w base v rs) (hc : Chg (· = r) w w1) (hr : r < base) (he : ∀ cs fr, w.heap[r]? ≠ some (.cells cs 5 fr)) : PutsR w1 base v rs := by
  obtain ⟨xs, h1, h2⟩ := h
  exact ⟨xs, World.ownsRow.kept h1 ⟨hc.os, hc.tape, hc.output, hc.size, fun k hk hn => hc.block k hk (fun e => hn (by rw [show k = r from e]))⟩ (row := some r) (.inr fun e => by have := (h1.lt r e).1; omega), h2.imp fun _ _ h => h.chg hc (fun k hk cs fr => by rw [show k = r from hk]; exact he cs fr)⟩
theorem RdS.cells2 {w0 w : World} {r : Nat} {bs : List UInt8} {bad : Bool} (h : RdS w0 w r bs bad) : ∀ cs fr, w.heap[r]? ≠ some (.cells cs 5 fr) := fun cs fr e => by
  obtain ⟨A, c, h1, _⟩ := h
  rw [h1] at e
  injection e with e
  injection e with _ e
  exact absurd e (by decide)
theorem orow_base {w : World} {b0 b1 e size n : Nat} {v : Value} {xs : List Value} (h : w.ownsRow b1 e size v n xs) (hb : b0 ≤ b1) : w.ownsRow b0 e size v n xs :=
  ⟨h.1, h.2.imp_right fun ⟨g, cap, cur, e1, h1, r⟩ => ⟨g, cap, cur, e1, Nat.le_trans hb h1, r⟩⟩
def lenV : Value → Nat
  | .slice _ n _ => n
  | _ => 0
/-- what Decode tells -/
def DecPost (w : World) (bs : List UInt8) (e : Ending) (w' : World) : Prop := Below w.heap.size w w' ∧
  ((∃ xs v, decB bs = some xs ∧ e = .returned (.tuple #[v, .int .i64 0]) ∧ PutsR w' w.heap.size v xs) ∨
   (decB bs = none ∧ e = .returned (.tuple #[.slice none 0 0, .int .i64 3])))
set_option maxRecDepth 20000 in
set_option maxHeartbeats 2000000 in
theorem kv_decode (w : World) (A : Option Addr) (c : Nat) (bs : List UInt8) (hrd : Rd w A bs) (hc : bs.length ≤ c) (hl : bs.length ≤ 1000000) :
    Calls Try.prog 15 #[.slice A bs.length c] w fun e w' => DecPost w bs e w' := by
  obtain ⟨W0, hW0⟩ : ∃ W0, W0 = w.alloc (.cells #[.slice A bs.length c, .bool false] 75) := ⟨_, rfl⟩
  have hb0 : Below w.heap.size w W0 := by rw [hW0]; exact (Below.refl _ w).alloc (Nat.le_refl _) _
  have hz0 : W0.heap.size = w.heap.size + 1 := by rw [hW0]; simp
  have hr0 : RdS W0 W0 w.heap.size bs false := ⟨A, c, by rw [hW0]; exact heap_new w _ _ rfl, hc, Chg.refl _ _, fun W hW => by
    have hch : Chg (· = w.heap.size) w W := (Chg.of_below hb0).trans hW
    refine ⟨hrd.1, fun hp => ?_⟩
    obtain ⟨a, e, h1⟩ := hrd.2 hp
    refine ⟨a, e, fun j hj => ?_⟩
    have h6 : (a.add j).block = a.block := by unfold Addr.add; split <;> rfl
    have hlt : (a.add j).block < w.heap.size := block_lt_of_cell (h1 j hj)
    rw [World.cell?_of_block (w := w) (hch.block _ hlt (by show (a.add j).block ≠ _; omega))]
    exact h1 j hj⟩
  obtain ⟨m, hm⟩ : ∃ m, m = bs.length := ⟨_, rfl⟩
  rw [← hm] at hc hl hW0 ⊢
  have HB0 := Lib.hid hb0; have HR0 := Lib.hid hr0; have HW0 := Lib.hid hW0; have HM := Lib.hid hm; have HZ0 := Lib.hid hz0
  clear hb0 hr0 hW0 hm hz0
  go_enter Try.func15, Try.ntmps15
  go_wp2
  rw [← HW0.out]
  go_loopw [4] (fun l wr => ∃ acc rest, decB bs = (decB rest).map (acc ++ ·) ∧ PutsR wr W0.heap.size l acc ∧ RdS W0 wr w.heap.size rest false ∧ acc.length + rest.length ≤ m ∧ Below w.heap.size w wr ∧ W0.heap.size ≤ wr.heap.size ∧ acc.all PutD.good = true) (fun l _ => m - lenV l)
  case atStart => exact ⟨[], bs, by cases decB bs <;> simp, PutsR.nil _ _, HR0.out, by rw [HM.out]; simp, HB0.out, Nat.le_refl _, rfl⟩
  case round =>
    obtain ⟨acc, rest, hdec, hpr, hrs, hlen, hb, hz, hgd⟩ := hrel
    obtain ⟨A1, c1, hl0, hc1⟩ : ∃ A1 c1, _ = Value.slice A1 acc.length c1 ∧ acc.length ≤ c1 := by
      obtain ⟨xs, ho, _⟩ := hpr
      exact orow_shape ho
    have hcs := hrs.cells
    obtain ⟨A2, c2, r0, hc2⟩ := hcs.2.1
    have r1 := hcs.2.2.1
    have f0 := hcs.2.2.2 0
    have f1 := hcs.2.2.2 1
    obtain ⟨q, hq⟩ : ∃ q, q = acc.length := ⟨_, rfl⟩
    obtain ⟨s, hs⟩ : ∃ s, s = rest.length := ⟨_, rfl⟩
    dsimp only at hl0
    rw [← hq] at hl0 hc1 hlen
    rw [← hs] at r0 hc2 hlen
    have HQ := Lib.hid hq; have HS := Lib.hid hs
    have HDEC := Lib.hid hdec; have HPR := Lib.hid hpr; have HRS := Lib.hid hrs; have HB := Lib.hid hb; have HGD := Lib.hid hgd; have HZ := Lib.hid hz
    clear hdec hpr hrs hb hcs hq hs hgd hz
    by_cases hs0 : 0 < s
    · have hs0i : (0 : Int) < s := by omega
      have hne : rest ≠ [] := List.ne_nil_of_length_pos (by rw [← HS.out]; exact hs0)
      have hput := Lib.hid (rd_put W0 wr w.heap.size rest false HRS.out (by rw [← HS.out]; omega))
      have hptl := putM_lt rest false hne
      have hstep := decB_step rest hne
      have hbadd := decB_bad rest hne
      have hpg := putM_good rest false
      generalize putM rest false = pm at *
      obtain ⟨x1, rest1, bad1⟩ := pm
      dsimp only at *
      rw [← HS.out] at hptl
      have HPT := Lib.hid hptl; have HST := Lib.hid hstep; have HBA := Lib.hid hbadd; have HPG := Lib.hid hpg
      subst hl0
      clear hptl hstep hbadd hpg hne
      go_wp2_with fail
      refine hput.out.mono ?_
      rintro e w1 ⟨v1, rfl, hsl1, hr1, hch1⟩
      obtain ⟨A3, c3, hv1, hc3⟩ : ∃ A c, v1 = .slice A x1.val.length c ∧ x1.val.length ≤ c := by
        obtain ⟨A, c, h1, h2, h3⟩ := hsl1.rd
        exact ⟨A, c, h1, h2⟩
      have hrlt : w.heap.size < W0.heap.size := by rw [HZ0.out]; omega
      have hpr1 := HPR.out.chg hch1 hrlt HRS.out.cells2
      have hb1 : Below w.heap.size w w1 := hch1.below HB.out HB.out.size (fun k hk => by rw [show k = w.heap.size from hk]; exact Nat.le_refl _)
      have hz1 : W0.heap.size ≤ w1.heap.size := Nat.le_trans HZ.out hch1.size
      obtain ⟨nv, hnv⟩ : ∃ nv, nv = x1.val.length := ⟨_, rfl⟩
      rw [← hnv] at hv1 hc3
      subst hv1
      have HSL1 := Lib.hid hsl1; have HR1 := Lib.hid hr1; have HPR1 := Lib.hid hpr1; have HB1 := Lib.hid hb1; have HNV := Lib.hid hnv; have HZ1 := Lib.hid hz1; have HRL := Lib.hid hrlt
      obtain ⟨k1, l1, gone1⟩ := x1
      dsimp only at *
      clear hsl1 hr1 hpr1 hb1 hch1 hput hnv hz1 hrlt
      go_wp2_with (at_builtin; go_loud (refine PutsR.app W0.heap.size rfl (.tmp 15) (.tmp 18) rfl _ _ k1 gone1 A3 nv c3 l1 w1.heap.size rfl rfl rfl HPR1.out HSL1.out HZ1.out (by rw [← HQ.out]; omega) ?_))
      intro v2 w2 hpr2 hb2
      have hr2 := HR1.out.low hb2 HRL.out
      have hbt : Below w.heap.size w w2 := HB1.out.trans (hb2.mono (Nat.le_of_lt HRL.out))
      have hz2 : W0.heap.size ≤ w2.heap.size := Nat.le_trans HZ1.out hb2.size
      obtain ⟨A4, c4, hl4, hc4⟩ : ∃ A1 c1, v2 = Value.slice A1 (q + 1) c1 ∧ q + 1 ≤ c1 := by
        obtain ⟨xs, ho, _⟩ := hpr2
        rw [List.length_append, ← HQ.out] at ho
        exact orow_shape ho
      have hcs := hr2.cells
      have d1 := hcs.2.2.1
      have e1 := hcs.2.2.2 1
      have HPR2 := Lib.hid hpr2; have HR2 := Lib.hid hr2; have HBT := Lib.hid hbt; have HZ2 := Lib.hid hz2
      subst hl4
      clear hpr2 hb2 hr2 hbt hz2 hcs
      cases bad1 with
      | true =>
        have hd : decB bs = none := by rw [HDEC.out, HBA.out rfl]; rfl
        have HD := Lib.hid hd
        clear hd
        go_wp2
        go_ret2
        exact ⟨HBT.out, .inr ⟨HD.out, rfl⟩⟩
      | false =>
        have hd : decB bs = (decB rest1).map ((acc ++ [⟨k1, l1, gone1⟩]) ++ ·) := by
          rw [HDEC.out, HST.out rfl, Option.map_map]
          congr 1
          funext y
          simp
        have HD := Lib.hid hd
        clear hd
        go_wp2
        go_roundw
        case rel => exact ⟨_, rest1, HD.out, HPR2.out, HR2.out, by rw [List.length_append, ← HQ.out]; have := HPT.out; simp; omega, HBT.out, HZ2.out, by rw [List.all_append, HGD.out]; simpa using HPG.out rfl⟩
        case measure => simp [lenV]; omega
    · have hs0n : s = 0 := by omega
      have hnil : rest = [] := List.eq_nil_of_length_eq_zero (by rw [← HS.out]; exact hs0n)
      have hd : decB bs = some acc := by rw [HDEC.out, hnil, decB_nil]; simp
      have HD := Lib.hid hd
      have hs0i : ¬ (0 : Int) < s := by omega
      subst hl0
      clear hd hnil hs0n
      go_wp2
      go_ret2
      obtain ⟨xs, ho, hp⟩ := HPR.out
      exact ⟨HB.out, .inl ⟨acc, _, HD.out, rfl, xs, orow_base ho (by rw [HZ0.out]; omega), hp⟩⟩
end Go.Proofs.Ytgaccogekmaijaa
