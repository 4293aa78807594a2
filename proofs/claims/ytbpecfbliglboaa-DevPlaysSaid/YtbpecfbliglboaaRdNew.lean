/- The reference's device: NewDev. -/
import Derived.Test.YtbpecfbliglboaaRdWrite
import Derived.Test.YtbpecfbliglboaaWrite
namespace Go.Proofs.Ytbpecfbliglboaa
open Go.RowKit Go.Maps
set_option linter.unusedVariables false
set_option linter.unusedSimpArgs false
attribute [local irreducible] wpR relOp
def z0s : ByteArray := ⟨DevMath.zeros.toArray⟩
theorem info_rstr : (Try.prog.info? 9).map (fun i => (i.zero, i.size, i.bytes)) = some (some (.string ByteArray.empty), 1, 16) := by kernel_rfl
theorem zeros_relG {Tr : Nat → Option ATr} (W : World) : Calls Try.prog 50 #[] W fun e w'' => ∃ v, e = .returned v ∧ GA Tr W w'' ∧ v = .string z0s := by
  refine (ref_zeros W).mono ?_
  rintro e w1 ⟨⟨z, rfl, hz⟩, hb⟩
  refine ⟨_, rfl, GA.of_below hb, ?_⟩
  have : z = z0s := by
    apply ByteArray.ext
    apply Array.ext'
    rw [hz]
    rfl
  rw [this]
/-- the new device, p sectors laid -/
def NewI (w wr : World) (n p : Nat) : Prop := ∃ A c, wr.heap[w.heap.size]? = some (.cells #[.int .i64 n, .bool false, .slice A p c, .slice none 0 0, .int .i64 0, .slice none 0 0, .int .i64 0] 51) ∧ wr.ownsRow (w.heap.size + 1) 9 1 (.slice A p c) p (svl (List.replicate p z0s)) ∧ Below w.heap.size w wr ∧ w.heap.size + 1 ≤ wr.heap.size
def newTbl (Tr : Nat → Option ATr) (S0 B n : Nat) (xs : List Value) (pp : ATr) (hgst : ∀ news W W', pp.good news W → Chg (Td Tr) W W' → pp.good news W') (h1 : pp.pos = xs.length) (h2 : pp.len + xs.length = (n + 1) * 1) : Nat → Option (SpG Tr)
  | 5 => some (.rel (fun v => v = .string z0s) (fun _ _ => True) ⟨_, rfl⟩ (fun _ _ _ _ _ => trivial))
  | 6 => some (.lit 9 fun xs => xs)
  | 7 => some (rowG Tr S0 B 9 1 (n + 1) xs pp hgst h1 h2)
  | _ => none
set_option maxRecDepth 20000 in
theorem new_app {o : Oper} {a : Act} {W : World} {Tr : Nat → Option ATr} {pp : ATr} {S0 B n gL : Nat} {xs : List Value} {v : Value} {s x : Operand}
    (ho : o.op = .call { callee := .builtin .append, args := #[s, x], argTypes := #[48, 48] }) (hs : a.eval s = v) (hx : a.eval x = .slice (some ⟨gL, 0, none⟩) 1 1)
    (hpp : pp = ⟨n, 1, fun news W => news = [.string z0s]⟩)
    (h9 : LitG S0 9 [.string z0s] (.slice (some ⟨gL, 0, none⟩) 1 1) W)
    (hrow : W.ownsRow B 9 1 v n xs) (hn : n ≤ 1000000) (hB : B ≤ S0) (hS : S0 ≤ W.heap.size) (hB0 : ∀ k, S0 ≤ k → Tr k = none) (hTv : ∀ k, v.ownBlock = some k → Tr k = some pp) :
    relUpon Try.prog (GA Tr) W (fun v W' => (∃ A c, v = .slice A (n + 1) c ∧ n + 1 ≤ c) ∧ RowQ Tr S0 B 9 1 (n + 1) xs pp v W') ((execOp a.eval o).run Try.prog W) := by
  refine rel_app Tr pp S0 B s x 48 9 (.string ByteArray.empty) 1 16 ho Try.underlying48 info_rstr rfl (by decide) (by decide) v n xs [.string z0s] (some ⟨gL, 0, none⟩) 1 1 hs hx hrow rfl (Src.lit h9) ?_ (Nat.le_trans hB hS) (by omega) hB0 hS hTv (by rw [hpp]; simp) (by rw [hpp]) (fun W' hch => ?_)
  · intro u hu
    simp at hu
    rcases hu with rfl
    rfl
  · rw [hpp]
set_option maxRecDepth 20000 in
set_option maxHeartbeats 1000000 in
theorem ref_new (w : World) (n : Nat) (hn : n ≤ 8192) :
    Calls Try.prog 25 #[.int .i64 n] w fun e w' => e = .returned (.pointer (some ⟨w.heap.size, 0, none⟩)) ∧ (∃ vs ss, RdM w' w.heap.size w.heap.size 0 vs (.slice none 0 0) (.slice none 0 0) (DevMath.Dev.new n) ss []) ∧ Below w.heap.size w w' := by
  go_enter Try.func25, Try.ntmps25
  go_wp2
  go_loopw [4] (fun i wr => ∃ p : Nat, p ≤ n ∧ i = .int .i64 p ∧ NewI w wr n p) (fun i _ => n - (intOf i).toNat)
  case atStart =>
    refine ⟨0, by omega, rfl, none, 0, heap_new _ _ _ rfl, ⟨rfl, .inl ⟨rfl, rfl⟩⟩, (Below.refl _ w).alloc (Nat.le_refl _) _, Nat.le_of_eq (by rw [World.alloc, Array.size_push])⟩
  case round =>
    obtain ⟨p, hp, rfl, A, c, hst, hrow, hbw, hsz⟩ := hrel
    by_cases hlt : p < n
    · obtain ⟨S0, hS0⟩ : ∃ S0, S0 = wr.heap.size := ⟨_, rfl⟩
      obtain ⟨xs, hxs⟩ : ∃ xs, xs = svl (List.replicate p z0s) := ⟨_, rfl⟩
      rw [← hxs] at hrow
      obtain ⟨pp, hpp⟩ : ∃ pp : ATr, pp = ⟨p, 1, fun news W => news = [.string z0s]⟩ := ⟨_, rfl⟩
      obtain ⟨Tr, hTr⟩ : ∃ Tr : Nat → Option ATr, ∀ k, Tr k = if some k = (Value.slice A p c).ownBlock then some pp else none := ⟨_, fun k => rfl⟩
      have hB0 : ∀ k, S0 ≤ k → Tr k = none := by
        intro k hk
        rw [hTr]
        refine if_neg (fun e => ?_)
        have := (hrow.lt k e.symm).2
        omega
      have hgst : ∀ news W W', pp.good news W → Chg (Td Tr) W W' → pp.good news W' := by
        intro news W W' hg hch
        rw [hpp] at hg ⊢
        exact hg
      have hst2 : GSt Tr := by
        intro g q hq news W W' hg hch
        rw [hTr] at hq
        split at hq
        · injection hq with hq
          subst hq
          exact hgst _ _ _ hg hch
        · cases hq
      have hgn : Tr w.heap.size = none := by
        rw [hTr]
        refine if_neg (fun e => ?_)
        have := (hrow.lt _ e.symm).1
        omega
      have hrd : wr.cell? ⟨w.heap.size, 2, none⟩ = some (.slice A p c) := by rw [cell_of_row _ _ 2 _ _ _ hst]; rfl
      have HC : Hid (∀ W, GA Tr wr.drew W → W.cell? ⟨w.heap.size, 2, none⟩ = some (.slice A p c)) := Lib.hid fun W hW => hW.cell hrd hgn
      have HRow : Hid (∀ W, GA Tr wr.drew W → W.ownsRow (w.heap.size + 1) 9 1 (.slice A p c) p xs) := Lib.hid fun W hW => by
        refine ((GA.drew Tr wr).trans hst2 hW).row hrow (fun k hk q hq => ?_)
        rw [hTr] at hq
        split at hq
        · injection hq with hq
          subst hq
          rw [hpp]
          simp
        · cases hq
      have HSz : Hid (∀ W, GA Tr wr.drew W → S0 ≤ W.heap.size) := Lib.hid fun W hW => by rw [hS0]; exact hW.size
      have HTv : Hid (∀ k, (Value.slice A p c).ownBlock = some k → Tr k = some pp) := Lib.hid fun k hk => by rw [hTr, if_pos hk.symm]
      have HSW : Hid (∀ W, GA Tr wr.drew W → W.heap[w.heap.size]? = some (.cells #[.int .i64 n, .bool false, .slice A p c, .slice none 0 0, .int .i64 0, .slice none 0 0, .int .i64 0] 51)) := Lib.hid fun W hW => hW.heap hst hgn
      have HBW : Hid (∀ W, GA Tr wr.drew W → Below w.heap.size w W) := Lib.hid fun W hW => by
        refine Chg.below (S := Td Tr) hbw ((GA.drew Tr wr).trans hst2 hW).chg (by omega) (fun k hk => ?_)
        unfold Td at hk
        rw [hTr] at hk
        split at hk
        · rename_i e
          have := (hrow.lt _ e.symm).1
          omega
        · cases hk
      have HS0 : Hid (S0 ≤ wr.drew.heap.size) := Lib.hid (by rw [hS0]; exact Nat.le_refl _)
      have HPP := Lib.hid hpp; have HXS := Lib.hid hxs; have HXL : Hid (xs.length = p) := Lib.hid (by rw [hxs, svl_len]; simp)
      have hSB : w.heap.size + 1 ≤ S0 := by omega
      have hsz0 := Lib.hid hsz
      have HSS := Lib.hid hS0
      have hn1 : p ≤ 1000000 := by omega
      clear hst hrow hbw hsz hpp hTr hgn hrd hxs hS0
      go_wp2_with fail
      refine wp_region_app_tail _ 8 (Tr) (newTbl Tr S0 (w.heap.size + 1) p xs pp hgst (by rw [HPP.out]; exact HXL.out.symm) (by rw [HPP.out, HXL.out]; show 1 + p = _; omega)) (S0) (hB0) (hst2) (by kernel_rfl) (by kernel_rfl) (by kernel_rfl) ?_; simp only [List.take_succ_cons, List.take_zero, List.drop_succ_cons, List.drop_zero]
      repeat (first
        | (refine wpR_plain ?_ (by rfl) (fun K hK => ?_); (focus (first | (simp only [Region.wanted]; done) | (go_simp; done))); apply Exists.intro; refine ⟨fun W hW => ?_, ?_⟩; (go_simp; (try simp only [plainUpon_value, true_and]); rfl); go_simp; refine hK _ ?_; clear hK K)
        | (refine wpR_plain ?_ (by rfl) (fun K hK => ?_); (focus (first | (simp only [Region.wanted]; done) | (go_simp; done))); apply Exists.intro; refine ⟨fun W hW => ?_, ?_⟩; (have hcw := HC.out W hW; go_simp; (try simp only [plainUpon_value, true_and]); rfl); go_simp; refine hK _ ?_; clear hK K))
      (refine wpR_propG (by rfl) ?_ (fun W hW hF => ?_) (fun K v hv hK => ?_); (focus (first | (simp only [Region.wanted]; done) | (go_simp; done))); (go_simp; simp only [relUpon_enter]; exact zeros_relG W); (obtain rfl := hv); go_simp; refine hK _ ?_; clear hK K)
      (refine wpR_litG (by rfl) ?_ HS0.out ?_; (focus (first | (simp only [Region.wanted]; done) | (go_simp; done))); apply Exists.intro; apply Exists.intro; refine ⟨fun W => ?_, ?_, ?litc, fun K gL hK => ?_⟩; (case litc => ((simp only [Oper.argv, Op.operands]; go_simp) <;> rfl)); (focus (go_simp; first | exact ⟨rfl, rfl⟩ | rfl)); (focus rfl); go_simp; refine hK _ ?_; clear hK K)
      (refine wpR_propG (by rfl) ?_ (fun W hW hF => ?_) (fun K v hv hK => ?_); (focus (first | (simp only [Region.wanted]; done) | (go_simp; done))); (exact new_app rfl rfl rfl HPP.out (hF 6 rfl) (HRow.out W hW) hn1 hSB (HSz.out W hW) hB0 HTv.out); obtain ⟨A10, c10, rfl, hc10⟩ := hv; go_simp; refine hK _ ?_; clear hK K)
      refine wpR_nil (fun W hW hF => ?_)
      have h10 : RowQ Tr S0 (w.heap.size + 1) 9 1 (p + 1) xs pp (.slice A10 (p + 1) c10) W := hF 7
      have HS := Lib.hid (HSW.out W hW)
      have HB := Lib.hid (HBW.out W hW)
      have hz := HSz.out W hW
      have c2' : W.cell? ⟨w.heap.size, 2, none⟩ = some (.slice A p c) := by rw [cell_of_row _ _ 2 _ _ _ HS.out]; rfl
      have f2' : W.frozen? ⟨w.heap.size, 2, none⟩ = false := frozen_of_row _ _ 2 _ _ HS.out
      have H10 := Lib.hid h10
      have HZ : Hid (w.heap.size + 1 ≤ W.heap.size) := Lib.hid (by omega)
      have hwp : IntKind.i64.wrap ((p : Int) + 1) = ((p + 1 : Nat) : Int) := by rw [IntKind.wrap_i64]; omega
      clear hF h10 HC HSW HRow HSz hW HBW hz
      go_wp2
      go_roundw
      case rel =>
        refine ⟨p + 1, by omega, by go_num, A10, c10, ?_, ?_, ?_, ?_⟩
        · exact heap_setCell_same W w.heap.size 2 _ _ (.slice A10 (p + 1) c10) HS.out
        · obtain ⟨_, news, r2, r3⟩ := H10.out
          rw [HPP.out] at r2
          have r2 : news = [.string z0s] := r2
          rw [r2, HXS.out] at r3
          have e1 : svl (List.replicate (p + 1) z0s) = svl (List.replicate p z0s) ++ [.string z0s] := by
            rw [List.replicate_succ']
            simp [svl]
          rw [e1]
          refine orow_stay r3 (fun k cs fr hk => (Chg.setCell W w.heap.size 2 (.slice A10 (p + 1) c10)).heap hk (fun e => ?_))
          have e : k = w.heap.size := e
          subst e
          rw [HS.out] at hk
          injection hk with hk
          injection hk with _ hk
          exact absurd hk (by decide)
        · exact Chg.below HB.out (Chg.setCell W w.heap.size 2 (.slice A10 (p + 1) c10)) (by have := HZ.out; omega) (fun k hk => by have hk : k = w.heap.size := hk; omega)
        · exact Nat.le_trans HZ.out (Chg.setCell W w.heap.size 2 (.slice A10 (p + 1) c10)).size
      case measure => simp [intOf]; omega
    · have hpn : p = n := by omega
      subst hpn
      have HSt := Lib.hid hst; have HRow := Lib.hid hrow; have HB := Lib.hid hbw
      clear hst hrow hbw
      go_wp2
      go_ret
      refine ⟨rfl, ⟨.slice A p c, List.replicate p z0s, ?_⟩, HB.out⟩
      refine ⟨HSt.out, orow_low HRow.out (Nat.le_succ _), ⟨rfl, .inl ⟨rfl, rfl⟩⟩, ?_, by simp [DevMath.Dev.new], fun i hi => ?_, rfl, by simp [DevMath.Dev.new], Nat.le_refl _, by decide⟩
      · exact ⟨none, 0, rfl, Nat.le_refl _, (fun a e => by cases e), fun hp => by simp [DevMath.Dev.new] at hp⟩
      · simp [DevMath.Dev.sector, DevMath.Dev.new, z0s]
end Go.Proofs.Ytbpecfbliglboaa
