/- Crash of a device. -/
import Derived.Test.YtbpecfbliglboaaDevPut
import Derived.Test.YtbpecfbliglboaaInts
import Derived.Test.YtbpecfbliglboaaConcat
import Derived.Deep.Slices
namespace DevMath
theorem crashed_snoc (keep : List Int) (torn : Int) (i : Nat) (f : Int → Option (List UInt8)) (rs : List (Int × List UInt8)) (r : Int × List UInt8) :
    crashed keep torn i f (rs ++ [r]) = (if keep.contains ((i + rs.length : Nat) : Int) then put (crashed keep torn i f rs) r.1 r.2 else if ((i + rs.length : Nat) : Int) = torn then put (crashed keep torn i f rs) r.1 (r.2.take 256 ++ ((crashed keep torn i f rs r.1).getD zeros).drop 256) else crashed keep torn i f rs) := by
  induction rs generalizing i f with
  | nil => simp [crashed]
  | cons x rs ih =>
    rw [List.cons_append, crashed, ih, crashed, List.length_cons]
    rw [show i + 1 + rs.length = i + (rs.length + 1) by omega]
/-- every safe sector is a sector -/
def Good (n : Nat) (f : Int → Option (List UInt8)) : Prop := ∀ k l, f k = some l → 0 ≤ k ∧ k < n ∧ l.length = 512
theorem Good.put {n : Nat} {f : Int → Option (List UInt8)} (h : Good n f) {k : Int} {l : List UInt8} (h0 : 0 ≤ k) (h1 : k < n) (hl : l.length = 512) : Good n (put f k l) := by
  intro j x hx
  unfold DevMath.put at hx
  split at hx
  · rename_i e; subst e; cases hx; exact ⟨h0, h1, hl⟩
  · exact h j x hx
theorem Good.sector {n : Nat} {f : Int → Option (List UInt8)} (h : Good n f) (k : Int) : ((f k).getD zeros).length = 512 := by
  cases hk : f k with
  | none => rw [Option.getD_none]; exact List.length_replicate
  | some l => rw [Option.getD_some]; exact (h k l hk).2.2
theorem Good.crashed {n : Nat} (keep : List Int) (torn : Int) (rs : List (Int × List UInt8)) (hr : ∀ r ∈ rs, 0 ≤ r.1 ∧ r.1 < n ∧ r.2.length = 512) (i : Nat) (f : Int → Option (List UInt8)) (h : Good n f) : Good n (crashed keep torn i f rs) := by
  induction rs generalizing i f with
  | nil => exact h
  | cons r rs ih =>
    obtain ⟨h0, h1, h2⟩ := hr r (List.mem_cons_self ..)
    rw [DevMath.crashed]
    refine ih (fun x hx => hr x (List.mem_cons_of_mem _ hx)) _ _ ?_
    split
    · exact h.put h0 h1 h2
    · split
      · refine h.put h0 h1 ?_
        have := h.sector r.1
        rw [List.length_append, List.length_take, List.length_drop]
        omega
      · exact h
end DevMath
namespace Go.Proofs.Ytbpecfbliglboaa
open Go.RowKit Go.Maps
set_option linter.unusedVariables false
set_option linter.unusedSimpArgs false
attribute [local irreducible] wpR relOp
/-- the device behind the first k writes of a crash -/
def dk (d : DevMath.Dev) (keep : List Int) (torn : Int) (k : Nat) : DevMath.Dev := { d with safe := DevMath.crashed keep torn 0 d.safe (d.cache.take k) }
theorem dk_succ (d : DevMath.Dev) (keep : List Int) (torn : Int) (k : Nat) (h : k < d.cache.length) :
    dk d keep torn (k + 1) = if keep.contains (k : Int) then { dk d keep torn k with safe := DevMath.put (dk d keep torn k).safe d.cache[k].1 d.cache[k].2 } else if (k : Int) = torn then { dk d keep torn k with safe := DevMath.put (dk d keep torn k).safe d.cache[k].1 (d.cache[k].2.take 256 ++ ((dk d keep torn k).sector d.cache[k].1).drop 256) } else dk d keep torn k := by
  unfold dk
  rw [take_succ_at d.cache k h, DevMath.crashed_snoc, List.length_take, Nat.min_eq_left (by omega), Nat.zero_add]
  split
  · rfl
  · split
    · rfl
    · rfl
theorem Rd.take {w : World} {A : Option Addr} {l : List UInt8} (h : Rd w A l) (k : Nat) : Rd w A (l.take k) :=
  ⟨by have := h.1; rw [List.length_take]; omega, fun hp => by
    rw [List.length_take] at hp
    obtain ⟨a, e, hc⟩ := h.2 (by omega)
    refine ⟨a, e, fun j hj => ?_⟩
    rw [List.length_take] at hj
    rw [List.getElem_take]
    exact hc j (by omega)⟩
theorem add_add' (a : Addr) (i j : Nat) : (a.add i).add j = a.add (i + j) := Go.Deep.add_add a i j
theorem Rd.drop {w : World} {A : Option Addr} {l : List UInt8} (h : Rd w A l) (k : Nat) : Rd w (A.map (·.add k)) (l.drop k) :=
  ⟨by have := h.1; rw [List.length_drop]; omega, fun hp => by
    rw [List.length_drop] at hp
    obtain ⟨a, e, hc⟩ := h.2 (by omega)
    subst e
    refine ⟨a.add k, rfl, fun j hj => ?_⟩
    rw [List.length_drop] at hj
    rw [List.getElem_drop, add_add']
    exact hc _ (by omega)⟩
theorem Sl.rd_eq {w : World} {A : Option Addr} {n c : Nat} {l : List UInt8} (h : Sl w (.slice A n c) l) : Rd w A l ∧ n = l.length := by
  obtain ⟨A', c', e, _, hr⟩ := h.rd
  injection e with e1 e2 e3
  subst e1
  exact ⟨hr, e2⟩
def crTbl2 (sec l : List UInt8) : Nat → Option Sp
  | 12 => some (slSp 512 sec)
  | 14 => some (.lit 33)
  | 15 => some (slSp 512 l)
  | _ => none
theorem sector_rel {B' : Nat} (W : World) (B g m : Nat) (vc vk : Value) (d : DevMath.Dev) (h : DvM W B g m vc vk d) (at_ : Int) (wf : (Lit.int .i64 at_).wf = true) (hB : B' ≤ W.heap.size) (sec : List UInt8) (hs : sec = d.sector at_) (hl : sec.length = 512) :
    Calls Try.prog 46 #[.pointer (some ⟨g, 0, none⟩), .int .i64 at_] W fun e w' => ∃ v, e = .returned v ∧ Gr B' W w' ∧ (∃ A c, v = .slice A 512 c ∧ 512 ≤ c) ∧ Sl w' v sec := by
  subst hs
  refine (sector_any W B g m vc vk d h at_ wf).mono ?_
  rintro e w1 ⟨v, rfl, h1, h2⟩
  obtain ⟨A', c', rfl, h3, h4⟩ := h1.rd
  exact ⟨_, rfl, Gr.of_below h2 hB, ⟨A', c', by rw [hl], by rw [← hl]; exact h3⟩, h1⟩
theorem concat_rel {B' : Nat} (W : World) (g : Nat) {t : TypeId} {fr : Nat × Nat} (vs : List Value) (l1 l2 l : List UInt8) (hB : B' ≤ W.heap.size) (hg : W.heap[g]? = some (.cells vs.toArray t fr)) (hl : Cellsl W vs [l1, l2]) (h1 : l1.length = 256) (h2 : l2.length = 256) (he : l = l1 ++ l2) :
    Calls Try.prog 48 #[.slice (some ⟨g, 0, none⟩) 2 2] W fun e w' => ∃ v, e = .returned v ∧ Gr B' W w' ∧ (∃ A c, v = .slice A 512 c ∧ 512 ≤ c) ∧ Sl w' v l := by
  subst he
  refine (concat_any W _ 2 [l1, l2] (Rdl.of_block hg (by simp) hl) (by simp) (by simp [total]; omega) (by simp [total]; omega) (by simp)).mono ?_
  rintro e w1 ⟨v, rfl, ho, hb⟩
  have hf : [l1, l2].flatten = l1 ++ l2 := by simp
  rw [hf] at ho
  obtain ⟨A', c', rfl, h3, h4⟩ := ho.rd
  have hlen : (l1 ++ l2).length = 512 := by rw [List.length_append]; omega
  exact ⟨_, rfl, Gr.of_below hb hB, ⟨A', c', by rw [hlen], by rw [← hlen]; exact h3⟩, ho.sl⟩
set_option maxRecDepth 20000 in
set_option maxHeartbeats 1000000 in
theorem crash_any (w : World) (B g m : Nat) (vc vk : Value) (d : DevMath.Dev) (h : DvM w B g m vc vk d) (hI : DvI d) (hcl : d.cache.length ≤ 1000000000) (kv : Value) (keep : List Int) (torn : Int) (hk : ∀ W, Chg (Own g m vc) w W → IntR W kv keep) (hkl : keep.length ≤ 1000000000) :
    Calls Try.prog 19 #[.pointer (some ⟨g, 0, none⟩), kv, .int .i64 torn] w fun e w' => e = .returned (.tuple #[]) ∧ DvM w' B g m (if d.off then vc else .slice none 0 0) vk (d.crash keep torn) ∧ Chg (Own g m vc) w w' := by
  unfold DevMath.Dev.crash
  cases ho : d.off with
  | true =>
    rw [if_pos rfl, if_pos rfl]
    obtain ⟨h0, h1, h2, h3, h4, h5, h6, h7⟩ := h.cells
    rw [ho] at h3
    have HD := Lib.hid h
    clear h h0 h1 h2 h4 h5 h6 h7
    go_enter Try.func19, Try.ntmps19
    go_wp2
    refine bodyPost_ret (results_none rfl _ _ _) rfl ?_
    exact ⟨rfl, HD.out, Chg.refl _ _⟩
  | false =>
    rw [if_neg (by decide), if_neg (by decide)]
    obtain ⟨h0, h1, h2, h3, h4, h5, h6, h7⟩ := h.cells
    rw [ho] at h3
    obtain ⟨Ac, cc, rfl, hcc⟩ := h.ca.shape
    obtain ⟨n, hnn⟩ : ∃ n, n = d.cache.length := ⟨_, rfl⟩
    rw [← hnn] at h2 hcc hcl ⊢
    have HN := Lib.hid hnn; have HD := Lib.hid h
    clear hnn h0 h1 h4 h5 h6 h7 h
    go_enter Try.func19, Try.ntmps19
    go_wp2
    go_loopw [17] (fun i wr => ∃ k : Nat, k ≤ n ∧ i = .int .i64 k ∧ DvM wr B g m (.slice Ac n cc) vk (dk d keep torn k) ∧ Chg (Own g m (.slice Ac n cc)) w wr) (fun i _ => n - (intOf i).toNat)
    case atStart => exact ⟨0, by omega, rfl, by rw [HN.out]; exact HD.out, Chg.refl _ _⟩
    case round =>
      obtain ⟨k, hkn, rfl, hdv, hch⟩ := hrel
      by_cases hlt : k < n
      · have hkl2 : k < d.cache.length := by rw [← HN.out]; exact hlt
        obtain ⟨A', c', e1, _, hcells⟩ := hdv.ca.rd
        have eA : Ac = A' := by injection e1
        subst eA
        clear e1
        obtain ⟨b, vb, rfl, q1, q2, q3⟩ := hcells k hkl2
        have hsucc := dk_succ d keep torn k hkl2
        have hcf := hI.cf _ (List.getElem_mem hkl2)
        change wr.cell? ⟨b, k * 2, none⟩ = some (.int .i64 (d.cache[k]'hkl2).1) at q1
        change Sl wr vb (d.cache[k]'hkl2).2 at q3
        generalize d.cache[k]'hkl2 = r at q1 q3 hsucc hcf
        obtain ⟨Av, cv, hvb, hcv, hrv⟩ := q3.rd
        rw [hcf.2.2] at hvb
        subst hvb
        have hkw : IntR wr kv keep := hk wr hch
        obtain ⟨W1, hW1, hB1, hs1, hbx⟩ := box2 wr (.int .i64 r.1) (.slice Av 512 cv) 75
        have hkW1 : IntR W1 kv keep := hkw.below hB1
        have hcon := Lib.hid (contains_any W1 kv keep hkW1 hkl k)
        have HDv := Lib.hid (hdv.below hB1); have HCh := Lib.hid (hch.trans (Chg.of_below hB1)); have HS := Lib.hid (q3.below hB1); have HSu := Lib.hid hsucc; have HBx := Lib.hid hbx
        have hbk := hdv.lt
        clear hdv hch hcells hsucc hkw hkW1 hB1 q3 hrv hbx
        go_wp2_with fail
        rw [← hW1]
        clear hW1 q1 q2
        refine hcon.out.mono ?_
        rintro e w2 ⟨rfl, rfl⟩
        have hw2 : IntKind.i64.wrap ((k : Int) + 1) = ((k + 1 : Nat) : Int) := by rw [IntKind.wrap_i64]; omega
        cases hct : keep.contains (k : Int) with
        | true =>
          have hsu := HSu.out
          rw [hct, if_pos rfl] at hsu
          have HU := Lib.hid hsu
          clear hsu hcon
          obtain ⟨_, g1, _⟩ := HDv.out.cells
          have HC : Hid (∀ W, Gr w2.heap.size w2.drew W → W.cell? ⟨g, 1, none⟩ = some (.map (some m)) ∧ W.cell? ⟨wr.heap.size, 0, none⟩ = some (.int .i64 r.1) ∧ W.cell? ⟨wr.heap.size, 1, none⟩ = some (.slice Av 512 cv)) := Lib.hid fun W hW => by
            have hb := Below.trans (Below.drew (Below.refl w2.heap.size w2)) hW.1
            exact ⟨cell_below hb g1, (HBx.out W hb).1, (HBx.out W hb).2⟩
          go_wp2_with fail
          (refine wp_region_tbl_tail _ 8 (fun _ => none) w2.heap.size (by kernel_rfl) (by kernel_rfl) (by kernel_rfl) ?_; simp only [List.take_succ_cons, List.take_zero, List.drop_succ_cons, List.drop_zero])
          repeat (first
            | (refine wpR_plain ?_ (by rfl) (fun K hK => ?_); (focus (first | (simp only [Region.wanted]; done) | (go_simp; done))); apply Exists.intro; refine ⟨fun W hW => ?_, ?_⟩; (go_simp; (try simp only [plainUpon_value, true_and]); rfl); go_simp; refine hK _ ?_; clear hK K)
            | (refine wpR_plain ?_ (by rfl) (fun K hK => ?_); (focus (first | (simp only [Region.wanted]; done) | (go_simp; done))); apply Exists.intro; refine ⟨fun W hW => ?_, ?_⟩; (have hcw := HC.out W hW; go_simp; (try simp only [plainUpon_value, true_and]); rfl); go_simp; refine hK _ ?_; clear hK K))
          refine wpR_nil (fun W hW hF => ?_)
          have hb := Below.trans (Below.drew (Below.refl w2.heap.size w2)) hW.1
          obtain ⟨w3, hrun, hd3, hc3⟩ := (HDv.out.below hb).put hI.n1 r.1 hcf.1 hcf.2.1 (HS.out.below hb)
          have HD3 := Lib.hid hd3
          have HC3 := Lib.hid ((HCh.out.trans (Chg.of_below hb)).trans (hc3.imp fun k hk => .inr (.inl hk)))
          clear hF hW hb hd3 hc3 g1
          go_wp2
          go_roundw
          case rel => exact ⟨k + 1, by omega, by go_num, by rw [HU.out]; exact HD3.out, HC3.out⟩
          case measure => simp [intOf]; omega
        | false =>
          clear hcon
          by_cases hto : (k : Int) = torn
          · have hsu := HSu.out
            rw [hct, if_neg (by decide), if_pos hto] at hsu
            have hgood : DevMath.Good d.sectors (dk d keep torn k).safe := DevMath.Good.crashed keep torn _ (fun x hx => hI.cf x (List.mem_of_mem_take hx)) 0 _ hI.sf
            have hsl := hgood.sector r.1
            obtain ⟨sec, hsec⟩ : ∃ sec, sec = (dk d keep torn k).sector r.1 := ⟨_, rfl⟩
            have hsl2 : sec.length = 512 := by rw [hsec]; exact hsl
            rw [← hsec] at hsu
            obtain ⟨l, hl⟩ : ∃ l, l = r.2.take 256 ++ sec.drop 256 := ⟨_, rfl⟩
            rw [← hl] at hsu
            have HU := Lib.hid hsu; have HSec := Lib.hid hsec; have HSl := Lib.hid hsl2; have HL := Lib.hid hl
            have HT1 : Hid ((r.2.take 256).length = 256) := Lib.hid (by rw [List.length_take, hcf.2.2]; rfl)
            have HT2 : Hid ((sec.drop 256).length = 256) := Lib.hid (by rw [List.length_drop, hsl2])
            have hbe : ((k : Int) == torn) = true := by rw [beq_iff_eq]; exact hto
            have hbe2 : decide ((k : Int) = torn) = true := decide_eq_true hto
            obtain ⟨_, g1, _⟩ := HDv.out.cells
            have wfr : (Lit.int .i64 r.1).wf = true := by have := hcf.1; have := hcf.2.1; have := hI.n1; simp [Lit.wf, IntKind.min, IntKind.max, IntKind.signed, IntKind.bits]; omega
            have hbW : Hid (∀ W, Gr w2.heap.size w2.drew W → Below w2.heap.size w2 W) := Lib.hid fun W hW => Below.trans (Below.drew (Below.refl w2.heap.size w2)) hW.1
            have hsW : Hid (∀ W, Gr w2.heap.size w2.drew W → w2.heap.size ≤ W.heap.size) := Lib.hid fun W hW => (hbW.out W hW).size
            have HC : Hid (∀ W, Gr w2.heap.size w2.drew W → W.cell? ⟨g, 1, none⟩ = some (.map (some m)) ∧ W.cell? ⟨wr.heap.size, 0, none⟩ = some (.int .i64 r.1) ∧ W.cell? ⟨wr.heap.size, 1, none⟩ = some (.slice Av 512 cv)) := Lib.hid fun W hW => ⟨cell_below (hbW.out W hW) g1, (HBx.out W (hbW.out W hW)).1, (HBx.out W (hbW.out W hW)).2⟩
            have hcv2 : 256 ≤ cv := by have := hcv; rw [hcf.2.2] at this; omega
            have hcv3 : (256 : Int) ≤ cv := by omega
            have hcv4 : (512 : Int) ≤ cv := by have := hcv; rw [hcf.2.2] at this; omega
            have hcv5 : ¬ cv = 256 := by omega
            clear hsu hto hsl hsl2 hsec hl
            go_wp2_with fail
            (refine wp_region_tbl_tail _ 16 (crTbl2 sec l) w2.heap.size (by kernel_rfl) (by kernel_rfl) (by kernel_rfl) ?_; simp only [List.take_succ_cons, List.take_zero, List.drop_succ_cons, List.drop_zero])
            iterate 12 (first
              | (refine wpR_plain ?_ (by rfl) (fun K hK => ?_); (focus (first | (simp only [Region.wanted]; done) | (go_simp; done))); apply Exists.intro; refine ⟨fun W hW => ?_, ?_⟩; (go_simp; (try simp only [plainUpon_value, true_and]); rfl); go_simp; refine hK _ ?_; clear hK K)
              | (refine wpR_plain ?_ (by rfl) (fun K hK => ?_); (focus (first | (simp only [Region.wanted]; done) | (go_simp; done))); apply Exists.intro; refine ⟨fun W hW => ?_, ?_⟩; (have hcw := HC.out W hW; go_simp; (try simp only [plainUpon_value, true_and]); rfl); go_simp; refine hK _ ?_; clear hK K))
            (refine wpR_prop (by rfl) ?_ (fun W hW hF => ?_) (fun K v hv hK => ?_); (focus (first | (simp only [Region.wanted]; done) | (go_simp; done))); (go_simp; simp only [relUpon_enter]; exact sector_rel W B g m _ vk _ (HDv.out.below (hbW.out W hW)) r.1 wfr (hsW.out W hW) sec HSec.out HSl.out); obtain ⟨A5, c5, rfl, hc5⟩ := hv; go_simp; refine hK _ ?_; clear hK K)
            have hq1 : (256 : Int) ≤ c5 := by omega
            have hq2 : (512 : Int) ≤ c5 := by omega
            have hq3 : ¬ c5 = 256 := by omega
            (refine wpR_plain ?_ (by rfl) (fun K hK => ?_); (focus (first | (simp only [Region.wanted]; done) | (go_simp; done))); apply Exists.intro; refine ⟨fun W hW => ?_, ?_⟩; (go_simp; (try simp only [plainUpon_value, true_and]); rfl); go_simp; refine hK _ ?_; clear hK K)
            (refine wpR_lit (by rfl) ?_ (Nat.le_refl _) ?_; (focus (first | (simp only [Region.wanted]; done) | (go_simp; done))); apply Exists.intro; apply Exists.intro; refine ⟨fun W => ?_, ?_, ?_, fun K g hK => ?_⟩; (go_simp; exact ⟨rfl, rfl⟩); rfl; (simp only [Oper.argv, Op.operands]; go_simp); go_simp; refine hK _ ?_; clear hK K)
            (refine wpR_prop (by rfl) ?_ (fun W hW hF => ?_) (fun K v hv hK => ?_); (focus (first | (simp only [Region.wanted]; done) | (go_simp; done))); (go_simp; simp only [relUpon_enter]; obtain ⟨fr, hb⟩ := hF 14 rfl; have hsec := (show Sl W (.slice A5 512 c5) sec from hF 12 rfl); exact concat_rel W _ [.slice Av 256 cv, .slice (A5.map (·.add 256)) 256 (c5 - 256)] (r.2.take 256) (sec.drop 256) l (hsW.out W hW) hb ⟨⟨_, _, by rw [HT1.out], by rw [HT1.out]; exact hcv2, (HS.out.below (hbW.out W hW)).rd_eq.1.take 256⟩, ⟨_, _, by rw [HT2.out], by rw [HT2.out]; omega, hsec.rd_eq.1.drop 256⟩, trivial⟩ HT1.out HT2.out HL.out); obtain ⟨A6, c6, rfl, hc6⟩ := hv; go_simp; refine hK _ ?_; clear hK K)
            refine wpR_nil (fun W hW hF => ?_)
            have hsl6 := (show Sl W (.slice A6 512 c6) l from hF 15)
            obtain ⟨w3, hrun, hd3, hc3⟩ := (HDv.out.below (hbW.out W hW)).put hI.n1 r.1 hcf.1 hcf.2.1 hsl6
            have HD3 := Lib.hid hd3
            have HC3 := Lib.hid ((HCh.out.trans (Chg.of_below (hbW.out W hW))).trans (hc3.imp fun k hk => .inr (.inl hk)))
            clear hF hW hd3 hc3 g1 hsl6
            go_wp2
            go_roundw
            case rel => exact ⟨k + 1, by omega, by go_num, by rw [HU.out]; exact HD3.out, HC3.out⟩
            case measure => simp [intOf]; omega
          · have hsu := HSu.out
            rw [hct, if_neg (by decide), if_neg hto] at hsu
            have HU := Lib.hid hsu
            have hbe : ((k : Int) == torn) = false := by rw [beq_eq_false_iff_ne]; exact hto
            have hbe2 : decide ((k : Int) = torn) = false := decide_eq_false hto
            clear hsu hto
            go_wp2
            go_roundw
            case rel => exact ⟨k + 1, by omega, by go_num, by rw [HU.out]; exact HDv.out, HCh.out⟩
            case measure => simp [intOf]; omega
      · obtain rfl : k = n := by omega
        obtain ⟨h0, h1, h2', h3', h4, h5, h6, h7⟩ := hdv.cells
        have f2 := h7 2; have f3 := h7 3; have f4 := h7 4
        have HDv := Lib.hid hdv; have HCh := Lib.hid hch
        clear hdv hch h7
        go_wp2
        go_end0
        have x1 := heap_setCell_same wr g 2 _ _ (.slice none 0 0) HDv.out.st
        have x2 := heap_setCell_same _ g 3 _ _ (.bool true) x1
        have x3 := heap_setCell_same _ g 4 _ _ (.int .i64 0) x2
        have hc3 : Chg (· = g) wr (((wr.setCell ⟨g, 2, none⟩ (.slice none 0 0)).setCell ⟨g, 3, none⟩ (.bool true)).setCell ⟨g, 4, none⟩ (.int .i64 0)) := ((Chg.setCell _ _ _ _).trans (Chg.setCell _ _ _ _)).trans (Chg.setCell _ _ _ _)
        refine ⟨rfl, HDv.out.turn_nil x3 hc3 ?_ rfl rfl rfl, HCh.out.trans (hc3.imp fun k hk => .inl hk)⟩
        show DevMath.crashed keep torn 0 d.safe d.cache = DevMath.crashed keep torn 0 d.safe (d.cache.take k)
        rw [List.take_of_length_le (by rw [← HN.out]; exact Nat.le_refl _)]
end Go.Proofs.Ytbpecfbliglboaa
