/- Flush of a device. -/
import Derived.Test.YtbpecfbliglboaaBurn
namespace DevMath
theorem flushed_snoc (f : Int → Option (List UInt8)) (rs : List (Int × List UInt8)) (r : Int × List UInt8) : flushed f (rs ++ [r]) = put (flushed f rs) r.1 r.2 := by
  induction rs generalizing f with
  | nil => rfl
  | cons x rs ih => rw [List.cons_append, flushed, ih, flushed]
theorem Good.flushed {n : Nat} (rs : List (Int × List UInt8)) (hr : ∀ r ∈ rs, 0 ≤ r.1 ∧ r.1 < n ∧ r.2.length = 512) (f : Int → Option (List UInt8)) (h : Good n f) : Good n (flushed f rs) := by
  induction rs generalizing f with
  | nil => exact h
  | cons r rs ih =>
    obtain ⟨h0, h1, h2⟩ := hr r (List.mem_cons_self ..)
    exact ih (fun x hx => hr x (List.mem_cons_of_mem _ hx)) _ (h.put h0 h1 h2)
end DevMath
namespace Go.Proofs.Ytbpecfbliglboaa
open Go.RowKit Go.Maps
set_option linter.unusedVariables false
set_option linter.unusedSimpArgs false
attribute [local irreducible] wpR relOp
theorem DvI.crash {d : DevMath.Dev} (h : DvI d) (keep : List Int) (torn : Int) : DvI (d.crash keep torn) := by
  unfold DevMath.Dev.crash
  split
  · exact h
  · exact ⟨h.n1, DevMath.Good.crashed keep torn d.cache h.cf 0 d.safe h.sf, (fun r hr => by cases hr), Int.le_refl _, by show (0 : Int) ≤ _; decide, h.t0⟩
theorem DvI.burn {d : DevMath.Dev} (h : DvI d) : DvI d.burn := by
  unfold DevMath.Dev.burn
  split
  · rename_i hc
    have h1 : DvI { d with fuse := d.fuse - 1 } := ⟨h.n1, h.sf, h.cf, by show 0 ≤ d.fuse - 1; omega, by have := h.f1; show d.fuse - 1 ≤ _; omega, h.t0⟩
    split
    · exact h1.crash _ _
    · exact h1
  · exact h
theorem burn_cache (d : DevMath.Dev) : d.burn.cache = d.cache ∨ d.burn.cache = [] := by
  unfold DevMath.Dev.burn DevMath.Dev.crash
  repeat (first | split | exact .inl rfl | exact .inr rfl)
theorem burn_keep (d : DevMath.Dev) : d.burn.keep = d.keep := by
  unfold DevMath.Dev.burn DevMath.Dev.crash
  repeat (first | split | rfl)
theorem burn_sectors (d : DevMath.Dev) : d.burn.sectors = d.sectors := by
  unfold DevMath.Dev.burn DevMath.Dev.crash
  repeat (first | split | rfl)
/-- the device behind the first k writes of a flush -/
def fk (d : DevMath.Dev) (k : Nat) : DevMath.Dev := { d with safe := DevMath.flushed d.safe (d.cache.take k) }
theorem fk_succ (d : DevMath.Dev) (k : Nat) (h : k < d.cache.length) : fk d (k + 1) = { fk d k with safe := DevMath.put (fk d k).safe d.cache[k].1 d.cache[k].2 } := by
  unfold fk
  rw [take_succ_at d.cache k h, DevMath.flushed_snoc]
set_option maxRecDepth 20000 in
set_option maxHeartbeats 1000000 in
theorem flush_any (w : World) (B g m : Nat) (vc vk : Value) (d : DevMath.Dev) (h : DvM w B g m vc vk d) (hI : DvI d) (hcl : d.cache.length ≤ 1000000000) (hkl : d.keep.length ≤ 1000000000) :
    Calls Try.prog 17 #[.pointer (some ⟨g, 0, none⟩)] w fun e w' => e = .returned (.int .i64 d.flush.2) ∧ ∃ vc', Vc vc vc' ∧ DvM w' B g m vc' vk d.flush.1 ∧ Chg (Own g m vc) w w' := by
  unfold DevMath.Dev.flush
  have hcon := burn_any w B g m vc vk d h hI hcl hkl
  have hI1 := hI.burn
  have hcl1 : d.burn.cache.length ≤ 1000000000 := by
    rcases burn_cache d with e | e
    · rw [e]; exact hcl
    · rw [e]; simp
  clear h hI hcl hkl
  generalize d.burn = d at hcon hI1 hcl1 ⊢
  have hcon := Lib.hid hcon
  by_cases ho : d.off = true
  · rw [if_pos ho]
    have hno : (!d.off) = false := by rw [ho]; rfl
    go_enter Try.func17, Try.ntmps17
    go_wp2_with fail
    refine hcon.out.mono ?_
    rintro e w1 ⟨rfl, vc', hvc, hd1, hc1⟩
    rw [hno]
    have HD := Lib.hid hd1; have HC := Lib.hid hc1
    clear hd1 hc1 hcon
    go_wp2
    go_ret
    exact ⟨rfl, vc', hvc, HD.out, HC.out⟩
  · rw [if_neg ho]
    have hno : (!d.off) = true := by cases h : d.off <;> simp_all
    go_enter Try.func17, Try.ntmps17
    go_wp2_with fail
    refine hcon.out.mono ?_
    rintro e w1 ⟨rfl, vc', hvc, hd1, hc1⟩
    rw [hno]
    clear hcon ho hno
    obtain ⟨h0, h1, h2, h3, h4, h5, h6, h7⟩ := hd1.cells
    obtain ⟨Ac, cc, rfl, hcc⟩ := hd1.ca.shape
    obtain ⟨n, hnn⟩ : ∃ n, n = d.cache.length := ⟨_, rfl⟩
    rw [← hnn] at h2 hcc hcl1 hd1 hvc
    have HN := Lib.hid hnn; have HD := Lib.hid hd1; have HC1 := Lib.hid hc1; have HV := Lib.hid hvc
    clear hnn h0 h1 h3 h4 h5 h6 h7 hd1 hc1 hvc
    go_wp2_with fail
    go_loopw [13] (fun i wr => ∃ k : Nat, k ≤ n ∧ i = .int .i64 k ∧ DvM wr B g m (.slice Ac n cc) vk (fk d k) ∧ Chg (Own g m (.slice Ac n cc)) w1 wr) (fun i _ => n - (intOf i).toNat)
    case atStart => exact ⟨0, by omega, rfl, HD.out, Chg.refl _ _⟩
    case round =>
      obtain ⟨k, hkn, rfl, hdv, hch⟩ := hrel
      by_cases hlt : k < n
      · have hkl2 : k < d.cache.length := by rw [← HN.out]; exact hlt
        obtain ⟨A', c', e1, _, hcells⟩ := hdv.ca.rd
        have eA : Ac = A' := by injection e1
        subst eA
        clear e1
        obtain ⟨b, vb, rfl, q1, q2, q3⟩ := hcells k hkl2
        have hsucc := fk_succ d k hkl2
        have hcf := hI1.cf _ (List.getElem_mem hkl2)
        change wr.cell? ⟨b, k * 2, none⟩ = some (.int .i64 (d.cache[k]'hkl2).1) at q1
        change Sl wr vb (d.cache[k]'hkl2).2 at q3
        generalize d.cache[k]'hkl2 = r at q1 q3 hsucc hcf
        obtain ⟨Av, cv, hvb, hcv, hrv⟩ := q3.rd
        rw [hcf.2.2] at hvb
        subst hvb
        obtain ⟨W1, hW1, hB1, hs1, hbx⟩ := box2 wr (.int .i64 r.1) (.slice Av 512 cv) 75
        have HDv := Lib.hid (hdv.below hB1); have HCh := Lib.hid (hch.trans (Chg.of_below hB1)); have HS := Lib.hid (q3.below hB1); have HU := Lib.hid hsucc; have HBx := Lib.hid hbx
        have hbk := hdv.lt
        have hgk := hbk g (.inl rfl)
        obtain ⟨_, g1, _⟩ := HDv.out.cells
        have HC : Hid (∀ W, Gr W1.heap.size W1.drew W → W.cell? ⟨g, 1, none⟩ = some (.map (some m)) ∧ W.cell? ⟨wr.heap.size, 0, none⟩ = some (.int .i64 r.1) ∧ W.cell? ⟨wr.heap.size, 1, none⟩ = some (.slice Av 512 cv)) := Lib.hid fun W hW => by
          have hb := Below.trans (Below.drew (Below.refl W1.heap.size W1)) hW.1
          exact ⟨cell_below hb g1, (HBx.out W hb).1, (HBx.out W hb).2⟩
        clear hdv hch hcells hsucc hB1 q3 hrv hbx
        go_wp2_with fail
        rw [← hW1]
        clear hW1 q1 q2
        (refine wp_region_tbl_tail _ 8 (fun _ => none) W1.heap.size (by kernel_rfl) (by kernel_rfl) (by kernel_rfl) ?_; simp only [List.take_succ_cons, List.take_zero, List.drop_succ_cons, List.drop_zero])
        repeat (first
          | (refine wpR_plain ?_ (by rfl) (fun K hK => ?_); (focus (first | (simp only [Region.wanted]; done) | (go_simp; done))); apply Exists.intro; refine ⟨fun W hW => ?_, ?_⟩; (go_simp; (try simp only [plainUpon_value, true_and]); rfl); go_simp; refine hK _ ?_; clear hK K)
          | (refine wpR_plain ?_ (by rfl) (fun K hK => ?_); (focus (first | (simp only [Region.wanted]; done) | (go_simp; done))); apply Exists.intro; refine ⟨fun W hW => ?_, ?_⟩; (have hcw := HC.out W hW; go_simp; (try simp only [plainUpon_value, true_and]); rfl); go_simp; refine hK _ ?_; clear hK K))
        refine wpR_nil (fun W hW hF => ?_)
        have hb := Below.trans (Below.drew (Below.refl W1.heap.size W1)) hW.1
        obtain ⟨w3, hrun, hd3, hc3⟩ := (HDv.out.below hb).put hI1.n1 r.1 hcf.1 hcf.2.1 (HS.out.below hb)
        have HD3 := Lib.hid hd3
        have HC3 := Lib.hid ((HCh.out.trans (Chg.of_below hb)).trans (hc3.imp fun k hk => .inr (.inl hk)))
        have hw2 : IntKind.i64.wrap ((k : Int) + 1) = ((k + 1 : Nat) : Int) := by rw [IntKind.wrap_i64]; omega
        clear hF hW hb hd3 hc3 g1
        go_wp2
        go_roundw
        case rel => exact ⟨k + 1, by omega, by go_num, by rw [HU.out]; exact HD3.out, HC3.out⟩
        case measure => simp [intOf]; omega
      · obtain rfl : k = n := by omega
        obtain ⟨h0, h1, h2', h3', h4, h5, h6, h7⟩ := hdv.cells
        have f2 := h7 2
        have HDv := Lib.hid hdv; have HCh := Lib.hid hch
        clear hdv hch h7
        go_wp2
        go_ret
        have x1 := heap_setCell_same wr g 2 _ _ (.slice none 0 0) HDv.out.st
        have hc3 : Chg (· = g) wr (wr.setCell ⟨g, 2, none⟩ (.slice none 0 0)) := Chg.setCell _ _ _ _
        refine ⟨rfl, _, .inr rfl, HDv.out.turn_nil x1 hc3 ?_ rfl rfl rfl, HC1.out.trans ((HCh.out.imp fun k hk => Own.of_vc HV.out hk).trans (hc3.imp fun k hk => .inl hk))⟩
        show DevMath.flushed d.safe d.cache = DevMath.flushed d.safe (d.cache.take k)
        rw [List.take_of_length_le (by rw [← HN.out]; exact Nat.le_refl _)]
end Go.Proofs.Ytbpecfbliglboaa
