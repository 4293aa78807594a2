/- The document's own table: Get, Range. -/
import Derived.Test.YtgaccogekmaijaaKvRf3
namespace Go.Proofs.Ytgaccogekmaijaa
open Go.RowKit Go.Maps
set_option linter.unusedVariables false
set_option linter.unusedSimpArgs false
attribute [local irreducible] Stu.wpR Stu.relOp wpR relOp
def getS (L : List KvMath.Ent) (k : ByteArray) : ByteArray := ((KvMath.get L k).map fun v => (⟨v.toArray⟩ : ByteArray)).getD ⟨#[]⟩
set_option maxRecDepth 20000 in
theorem ref_get {w : World} {B g : Nat} {L : List KvMath.Ent} (h : RT w B g L) (hr : KvMath.Rise L) (hL : L.length ≤ 1000000) (k : ByteArray) :
    Calls Try.prog 22 #[.pointer (some ⟨g, 0, none⟩), .string k] w fun e w' => e = .returned (.tuple #[.string (getS L k), .bool (KvMath.get L k).isSome]) ∧ Below w.heap.size w w' := by
  have hfind := ref_find w B g L h hr hL k
  rw [← KvMath.has_get L k hr]
  have HH : Hid (KvMath.has L k = true → ∃ hp : KvMath.pos L k < L.length, L[KvMath.pos L k].1 = k ∧ getS L k = vS (L[KvMath.pos L k])) := Lib.hid fun e => by
    obtain ⟨hp, e2⟩ := (KvMath.has_at L k hr).1 e
    refine ⟨hp, e2, ?_⟩
    have h3 : (k, L[KvMath.pos L k].2) ∈ L := by
      have e3 : (k, L[KvMath.pos L k].2) = L[KvMath.pos L k] := Prod.ext e2.symm rfl
      rw [e3]
      exact List.getElem_mem hp
    unfold getS
    rw [(KvMath.get_iff hr k _).2 h3]
    rfl
  have HG : Hid (KvMath.has L k = false → getS L k = ⟨#[]⟩) := Lib.hid fun e => by
    rw [KvMath.has_get L k hr] at e
    unfold getS
    cases e2 : KvMath.get L k with
    | none => rfl
    | some v => rw [e2] at e; cases e
  obtain ⟨Am, cm, g0, hcm, hrow⟩ := h.rd
  generalize KvMath.pos L k = q at *
  generalize KvMath.has L k = hs at *
  generalize getS L k = gs at *
  obtain ⟨n, hnn⟩ : ∃ n, n = L.length := ⟨_, rfl⟩
  rw [← hnn] at g0 hcm hL
  have HN := Lib.hid hnn; have HF := Lib.hid hfind; have HROW := Lib.hid hrow
  clear hnn hfind hrow h
  go_enter Try.func22, Try.ntmps22
  go_wp2_with fail
  refine HF.out.mono ?_
  rintro e w1 ⟨rfl, hb1⟩
  have x0 := cell_below hb1 g0
  have HB1 := Lib.hid hb1
  clear HF g0
  cases hs with
  | false =>
    have HG2 := Lib.hid (HG.out rfl)
    clear HG HH hb1
    go_wp2
    go_ret2
    exact ⟨by rw [HG2.out]; rfl, HB1.out⟩
  | true =>
    obtain ⟨hp, hk, hv⟩ := HH.out rfl
    have hqn : q < n := by rw [HN.out]; exact hp
    obtain ⟨g', rfl, hrow⟩ := HROW.out (by omega)
    have x1 := cell_below hb1 (hrow q hp).2
    have HV := Lib.hid hv
    have hqnI : (q : Int) < n := by omega
    generalize vS L[q] = z at x1 HV
    clear HG HH hb1 hk hv hrow
    go_wp2
    go_ret2
    exact ⟨by rw [HV.out]; rfl, HB1.out⟩
/-- a row of the call's own -/
def prn (from_ to : ByteArray) (p : KvMath.Ent) : Bool := !KvMath.bl p.1 from_ && KvMath.inR to p
theorem tw_filter (to : ByteArray) : ∀ (L : List KvMath.Ent), KvMath.Rise L → L.takeWhile (KvMath.inR to) = L.filter (KvMath.inR to) := by
  intro L
  induction L with
  | nil => intro _; rfl
  | cons p L ih =>
    intro h
    cases e : KvMath.inR to p with
    | true => rw [List.takeWhile_cons_of_pos e, List.filter_cons_of_pos e, ih h.tail]
    | false =>
      rw [List.takeWhile_cons_of_neg (by simp [e]), List.filter_cons_of_neg (by simp [e])]
      refine (KvMath.filter_none fun q hq => ?_).symm
      have hpq := h.head q hq
      unfold KvMath.inR at e ⊢
      rw [Bool.or_eq_false_iff] at e ⊢
      refine ⟨e.1, ?_⟩
      cases e3 : KvMath.bl q.1 to with
      | false => rfl
      | true => rw [KvMath.bl_trans hpq e3] at e; exact e.2
theorem range_filter (L : List KvMath.Ent) (h : KvMath.Rise L) (from_ to : ByteArray) (most : Int) : KvMath.range L from_ to most = (L.filter (prn from_ to)).take most.toNat := by
  unfold KvMath.range
  congr 1
  have h1 : L.drop (KvMath.pos L from_) = L.filter fun p => !KvMath.bl p.1 from_ := by
    rw [KvMath.drop_pos L from_ h]
    conv => rhs; rw [KvMath.split3 L from_ h]
    rw [List.filter_append, List.filter_append]
    rw [KvMath.filter_none (l := KvMath.low L from_) fun p hp => by rw [(KvMath.mem_low.1 hp).2]; rfl]
    rw [KvMath.filter_all (l := KvMath.at_ L from_) fun p hp => by
      have := (List.mem_filter.1 hp).2
      rw [decide_eq_true_eq] at this
      rw [this, KvMath.bl_irrefl]; rfl]
    rw [KvMath.filter_all (l := KvMath.high L from_) fun p hp => by rw [KvMath.bl_asymm (KvMath.mem_high.1 hp).2]; rfl]
    rfl
  rw [h1, tw_filter to _ (h.filter _), List.filter_filter]
  congr 1
  funext p
  unfold prn
  rw [Bool.and_comm]
theorem PR0.below {S0 n : Nat} {xs : List Value} {v : Value} {W W' : World} (h : PR0 S0 n xs v W) (hb : Below W.heap.size W W') : PR0 S0 n xs v W' :=
  ⟨orow_stay h.1 (fun k cs fr _ hk => (hb.block k (Array.getElem?_eq_some_iff.1 hk).1).trans hk), fun e b hb2 => (hb.block b (Array.getElem?_eq_some_iff.1 (h.2 e b hb2)).1).trans (h.2 e b hb2)⟩
set_option maxRecDepth 20000 in
set_option maxHeartbeats 2000000 in
theorem ref_range {w : World} {B g : Nat} {L : List KvMath.Ent} (h : RT w B g L) (hr : KvMath.Rise L) (hL : L.length ≤ 1000000) (fr to : ByteArray) (most : Int) :
    Calls Try.prog 24 #[.pointer (some ⟨g, 0, none⟩), .string fr, .string to, .int .i64 most] w fun e w' => ∃ v, e = .returned v ∧ w'.ownsRow w.heap.size 82 2 v (KvMath.range L fr to most).length (pvl (KvMath.range L fr to most)) ∧ Below w.heap.size w w' := by
  rw [range_filter L hr]
  have HRT := Lib.hid h
  obtain ⟨n, hnn⟩ : ∃ n, n = L.length := ⟨_, rfl⟩
  rw [← hnn] at hL
  have HN := Lib.hid hnn
  obtain ⟨s0, hs0⟩ : ∃ s0, s0 = w.heap.size := ⟨_, rfl⟩
  have HS0 := Lib.hid hs0
  rw [← hs0]
  obtain ⟨R, hR⟩ : ∃ R, R = (L.filter (prn fr to)).take most.toNat := ⟨_, rfl⟩
  rw [← hR]
  have HRR := Lib.hid hR
  clear hnn h hs0 hR
  go_enter Try.func24, Try.ntmps24
  go_wp2_with fail
  go_loopw [9, 10] (fun r i wr => ∃ p m : Nat, p ≤ n ∧ i = .int .i64 p ∧ m = ((L.take p).filter (prn fr to)).length ∧ m ≤ most.toNat ∧ PR0 s0 m (pvl ((L.take p).filter (prn fr to))) r wr ∧ Below s0 w wr) (fun _ i _ => n - (intOf i).toNat)
  case atStart => exact ⟨0, 0, by omega, rfl, rfl, by omega, ⟨⟨rfl, .inl ⟨rfl, rfl⟩⟩, fun _ b hb => by simp [Value.ownBlock] at hb⟩, Below.refl _ _⟩
  case round =>
    rename World => wL
    obtain ⟨p, m, hp, rfl, hm, hmm, hpr, hb⟩ := hrel
    have hrt : RT wL B g L := HRT.out.below (by rw [← HS0.out]; exact hb)
    obtain ⟨Am, cm, g0, hcm, hrow⟩ := hrt.rd
    rw [← HN.out] at g0 hcm
    obtain ⟨Ar, cr, rfl, hcr⟩ := shpn.of_row hpr.1
    have hwp : IntKind.i64.wrap ((p : Int) + 1) = ((p + 1 : Nat) : Int) := by rw [IntKind.wrap_i64]; omega
    by_cases hlt : p < n
    · have hltI : (p : Int) < n := by omega
      by_cases hmo : (m : Int) < most
      · have hpx : p < L.length := by rw [← HN.out]; exact hlt
        obtain ⟨g', rfl, hrow2⟩ := hrow (by omega)
        obtain ⟨x0, x1⟩ := hrow2 p hpx
        have hsucc : (L.take (p + 1)).filter (prn fr to) = (L.take p).filter (prn fr to) ++ if prn fr to L[p] then [L[p]] else [] := by
          rw [List.take_add_one, List.getElem?_eq_getElem hpx, List.filter_append]
          cases e : prn fr to L[p] <;> simp [e]
        have hpn : prn fr to L[p] = (!KvMath.bl L[p].1 fr && (decide (to.size = 0) || KvMath.bl L[p].1 to)) := rfl
        have hpv : pvl [L[p]] = [.string L[p].1, .string (vS L[p])] := rfl
        generalize L[p] = y at *
        have HSU := Lib.hid hsucc
        have HM := Lib.hid hm; have HPR := Lib.hid hpr; have HB := Lib.hid hb; have HPV := Lib.hid hpv; have HPN := Lib.hid hpn
        clear hsucc hm hpr hb hrow hrow2 hrt hpv hpn
        obtain ⟨yk, yv⟩ := y
        dsimp only at *
        have hne : to.toList.isEmpty = decide (to.size = 0) := by
          rw [Lib.toList_data]
          have : to.size = to.data.toList.length := by rw [Array.length_toList]; rfl
          rw [this]
          cases to.data.toList <;> simp
        unfold KvMath.bl at HPN
        cases hb1 : Op.bytesLess yk.toList fr.toList with
        | true =>
          have HE := Lib.hid (show prn fr to (yk, yv) = false by rw [HPN.out]; rw [hb1]; rfl)
          go_wp2
          go_roundw
          case rel =>
            have e : (L.take (p + 1)).filter (prn fr to) = (L.take p).filter (prn fr to) := by rw [HSU.out, HE.out]; simp
            exact ⟨p + 1, m, by omega, by go_num, by rw [e]; exact HM.out, hmm, by rw [e]; exact HPR.out, HB.out⟩
          case measure => simp [intOf]; omega
        | false =>
          by_cases hto : to.size = 0
          · rw [decide_eq_true hto] at hne
            have HE := Lib.hid (show prn fr to (yk, yv) = true by rw [HPN.out]; rw [hb1, decide_eq_true hto]; rfl)
            obtain ⟨W1, hW1⟩ : ∃ W1, W1 = wL.alloc (.cells #[.string yk, .string (vS (yk, yv))] 82) := ⟨_, rfl⟩
            have hbA : Below wL.heap.size wL W1 := by rw [hW1]; exact (Below.refl _ wL).alloc (Nat.le_refl _) _
            have hm9 : m ≤ 1000000 := by
              have h1 := HM.out
              have h2 := List.length_filter_le (prn fr to) (L.take p)
              rw [List.length_take] at h2
              have h3 := HN.out
              omega
            obtain ⟨v2, W2, hrun2, ho2, hte⟩ := app1_run (ty := 47) (bytes := 32) Try.underlying47 info_rpair rfl (by decide) (by decide) (by decide) (show W1.heap[wL.heap.size]? = _ by rw [hW1]; exact heap_new wL _ _ rfl) rfl (pvl_one [(yk, yv)]) (Nat.le_trans (Nat.le_trans (Nat.le_of_eq HS0.out) HB.out.size) hbA.size) hm9 (HPR.out.below hbA).1 (HPR.out.below hbA).2
            have HRUN := Lib.hid hrun2; have HW1 := Lib.hid hW1
            have HPR2 : Hid (PR0 s0 (m + 1) (pvl ((L.take (p + 1)).filter (prn fr to))) v2 W2) := Lib.hid ⟨by
              rw [HSU.out, HE.out, if_pos rfl, pvl_app]
              exact ho2, fun e => by omega⟩
            have HB2 : Hid (Below s0 w W2) := Lib.hid (HB.out.trans ((hbA.mono (by rw [HS0.out]; exact HB.out.size)).trans hte.1))
            have HSU2 : Hid (m + 1 = ((L.take (p + 1)).filter (prn fr to)).length) := Lib.hid (by rw [HSU.out, HE.out, List.length_append, ← HM.out]; rfl)
            clear hrun2 ho2 hte hW1 hbA hm9
            go_wp2_with (at_builtin; rw [← HW1.out]; refine Lib.wpList_append_run _ rfl _ _ _ _ rfl _ _ rfl rfl _ _ HRUN.out ?_)
            go_roundw
            case rel => exact ⟨p + 1, m + 1, by omega, by go_num, HSU2.out, by omega, HPR2.out, HB2.out⟩
            case measure => simp [intOf]; omega
          · rw [decide_eq_false hto] at hne
            cases hb2 : Op.bytesLess yk.toList to.toList with
            | true =>
              have HE := Lib.hid (show prn fr to (yk, yv) = true by rw [HPN.out]; rw [hb1, hb2, decide_eq_false hto]; rfl)
              obtain ⟨W1, hW1⟩ : ∃ W1, W1 = wL.alloc (.cells #[.string yk, .string (vS (yk, yv))] 82) := ⟨_, rfl⟩
              have hbA : Below wL.heap.size wL W1 := by rw [hW1]; exact (Below.refl _ wL).alloc (Nat.le_refl _) _
              have hm9 : m ≤ 1000000 := by
                have h1 := HM.out
                have h2 := List.length_filter_le (prn fr to) (L.take p)
                rw [List.length_take] at h2
                have h3 := HN.out
                omega
              obtain ⟨v2, W2, hrun2, ho2, hte⟩ := app1_run (ty := 47) (bytes := 32) Try.underlying47 info_rpair rfl (by decide) (by decide) (by decide) (show W1.heap[wL.heap.size]? = _ by rw [hW1]; exact heap_new wL _ _ rfl) rfl (pvl_one [(yk, yv)]) (Nat.le_trans (Nat.le_trans (Nat.le_of_eq HS0.out) HB.out.size) hbA.size) hm9 (HPR.out.below hbA).1 (HPR.out.below hbA).2
              have HRUN := Lib.hid hrun2; have HW1 := Lib.hid hW1
              have HPR2 : Hid (PR0 s0 (m + 1) (pvl ((L.take (p + 1)).filter (prn fr to))) v2 W2) := Lib.hid ⟨by
                rw [HSU.out, HE.out, if_pos rfl, pvl_app]
                exact ho2, fun e => by omega⟩
              have HB2 : Hid (Below s0 w W2) := Lib.hid (HB.out.trans ((hbA.mono (by rw [HS0.out]; exact HB.out.size)).trans hte.1))
              have HSU2 : Hid (m + 1 = ((L.take (p + 1)).filter (prn fr to)).length) := Lib.hid (by rw [HSU.out, HE.out, List.length_append, ← HM.out]; rfl)
              clear hrun2 ho2 hte hW1 hbA hm9
              go_wp2_with (at_builtin; rw [← HW1.out]; refine Lib.wpList_append_run _ rfl _ _ _ _ rfl _ _ rfl rfl _ _ HRUN.out ?_)
              go_roundw
              case rel => exact ⟨p + 1, m + 1, by omega, by go_num, HSU2.out, by omega, HPR2.out, HB2.out⟩
              case measure => simp [intOf]; omega
            | false =>
              have HE := Lib.hid (show prn fr to (yk, yv) = false by rw [HPN.out]; rw [hb1, hb2, decide_eq_false hto]; rfl)
              go_wp2
              go_roundw
              case rel =>
                have e : (L.take (p + 1)).filter (prn fr to) = (L.take p).filter (prn fr to) := by rw [HSU.out, HE.out]; simp
                exact ⟨p + 1, m, by omega, by go_num, by rw [e]; exact HM.out, hmm, by rw [e]; exact HPR.out, HB.out⟩
              case measure => simp [intOf]; omega
      · have e : (L.filter (prn fr to)).take most.toNat = (L.take p).filter (prn fr to) := by
          have h1 : L = L.take p ++ L.drop p := (List.take_append_drop _ _).symm
          conv => lhs; rw [h1]
          rw [List.filter_append, List.take_append_of_le_length (by omega), List.take_of_length_le (by omega)]
        have HM := Lib.hid hm; have HPR := Lib.hid hpr; have HB := Lib.hid hb; have HE := Lib.hid (HRR.out.trans e)
        clear hm hpr hb hrow hrt e
        go_wp2
        go_ret
        exact ⟨_, rfl, by rw [HE.out, ← HM.out]; exact HPR.out.1, HB.out⟩
    · have hpn : p = n := by omega
      have hltI : ¬ (p : Int) < n := by omega
      have e : (L.filter (prn fr to)).take most.toNat = (L.take p).filter (prn fr to) := by
        rw [hpn, HN.out, List.take_length] at hm ⊢
        exact List.take_of_length_le (by omega)
      have HM := Lib.hid hm; have HPR := Lib.hid hpr; have HB := Lib.hid hb; have HE := Lib.hid (HRR.out.trans e)
      clear hm hpr hb hrow hrt e hpn
      go_wp2
      go_ret
      exact ⟨_, rfl, by rw [HE.out, ← HM.out]; exact HPR.out.1, HB.out⟩
end Go.Proofs.Ytgaccogekmaijaa
