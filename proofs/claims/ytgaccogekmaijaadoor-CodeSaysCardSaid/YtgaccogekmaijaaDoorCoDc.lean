/- Bytes read as they were written. -/
import Derived.Test.YtgaccogekmaijaaDoorCoSm
import Derived.Test.YtgaccogekmaijaaDoorClone
namespace CodeMath
def decodeS (how : List UInt8) (b : List UInt8) : List UInt8 :=
  if how.map foldB = [98, 97, 115, 101, 54, 52] then (match dec b with | some x => x | none => b)
  else if how.map foldB = [113, 117, 111, 116, 101, 100, 45, 112, 114, 105, 110, 116, 97, 98, 108, 101] then fqS b else b
theorem dec_len (b r : List UInt8) (h : dec b = some r) : r.length ≤ 3 * b.length := by
  have key : ∀ f s r, decF f s = some r → r.length ≤ 3 * s.length := by
    intro f
    induction f with
    | zero => intro s r h; simp [decF] at h; subst h; simp
    | succ f ih =>
      intro s r h
      simp only [decF] at h
      by_cases hs : s = []
      · rw [if_pos hs] at h; injection h with h; subst h; simp
      · rw [if_neg hs] at h
        split at h
        · cases h
        · obtain ⟨r', h1, h2⟩ := Option.map_eq_some_iff.1 h
          have := ih _ _ h1
          subst h2
          have h0 : 0 < s.length := List.length_pos_iff.2 hs
          rw [List.length_append, List.length_take]
          rw [List.length_drop] at this
          have : (b3 (quad (s.take 4))).length = 3 := rfl
          omega
  unfold dec at h
  split at h
  · cases h
  · have h1 := key _ _ _ h
    have h2 := List.length_filter_le (fun c => !blank c) b
    omega
end CodeMath
namespace Go.Proofs.YtgaccogekmaijaaDoor
open Go.RowKit Go.Maps
set_option linter.unusedVariables false
set_option linter.unusedSimpArgs false
attribute [local irreducible] wpR relOp Stu.wpR Stu.relOp
/-- a slice that is read -/
def Rv (W : World) (v : Value) (l : List UInt8) : Prop := ∃ A c, v = .slice A l.length c ∧ l.length ≤ c ∧ Rd W A l
theorem Rv.below {W W' : World} {v : Value} {l : List UInt8} (h : Rv W v l) (hb : Below W.heap.size W W') : Rv W' v l := by
  obtain ⟨A, c, h1, h2, h3⟩ := h
  exact ⟨A, c, h1, h2, h3.below hb⟩
theorem Ob.rv {w : World} {base e : Nat} {v : Value} {l : List UInt8} (h : Ob w base e v l) : Rv w v l := h.rd
theorem Rv.of {W : World} {A : Option Addr} {n c : Nat} {l : List UInt8} (h : Rd W A l) (hn : l.length = n) (hc : n ≤ c) : Rv W (.slice A n c) l := ⟨A, c, by rw [hn], by omega, h⟩
theorem Rv.shp {W : World} {v : Value} {l : List UInt8} {n : Nat} (h : Rv W v l) (hn : l.length = n) : ∃ A c, v = .slice A n c ∧ n ≤ c ∧ Rd W A l := by
  obtain ⟨A, c, h1, h2, h3⟩ := h
  exact ⟨A, c, by rw [h1, hn], by omega, h3⟩
def crvS (n : Nat) (l : List UInt8) : Stu.SpU CB CB := ⟨false, fun _ v => shpn n v, fun _ v W => Rv W v l, fun _ _ => True, fun _ _ _ _ h hg => h.below hg, fun _ _ _ _ _ => trivial⟩
theorem crv_str {n : Nat} {W : World} {l : List UInt8} {z : ByteArray} {A : Option Addr} {c : Nat} {o : Oper} {a : Act} {x : Operand} (ho : o.op = .convert 22 9 x) (hx : a.eval x = .slice A n c) (hs : Rv W (.slice A n c) l) (hz : z = ⟨l.toArray⟩) (xs : List Value) :
    Stu.relUpon Tryd.prog CB W (fun v W' => (cvaS (.string z)).p xs v ∧ (cvaS (.string z)).q xs v W') ((execOp a.eval o).run Tryd.prog W) := by
  obtain ⟨A', c', e, _, h3⟩ := hs
  injection e with e1 e2 e3
  subst e1
  have hr := h3.str n c e2.symm
  unfold execOp
  simp only [ho, Sem.run_bind, Sem.run_pure, Result.andThen_ok, hx, hr]
  exact ⟨Below.refl _ _, by rw [hz]; rfl, trivial⟩
theorem clone_n (w : World) (A : Option Addr) (n c : Nat) (l : List UInt8) (hr : Rd w A l) (hn : l.length = n) (hl : n ≤ 140737488351232) :
    Calls Tryd.prog 28 #[.slice A n c] w fun e w' => ∃ v, e = .returned v ∧ Ob w' w.heap.size 5 v l ∧ Below w.heap.size w w' := by
  subst hn; exact clone_any w A c l hr hl
theorem fq_n (w : World) (A : Option Addr) (n c : Nat) (b : List UInt8) (hr : Rd w A b) (hn : b.length = n) (hc : n ≤ c) (hcap : c ≤ 9223372036854775807) (hl : n ≤ 1000000) :
    Calls Tryd.prog 11 #[.slice A n c] w fun e w' => ∃ v, e = .returned v ∧ Ob w' w.heap.size 5 v (CodeMath.fqS b) ∧ Below w.heap.size w w' := by
  subst hn; exact fromq_any w A c b hr hc hcap (by omega)
set_option maxRecDepth 20000 in
set_option maxHeartbeats 4000000 in
theorem decode_any (w : World) (how : ByteArray) (A : Option Addr) (n c : Nat) (b : List UInt8) (hh : how.size ≤ 140737488351232) (hr : Rd w A b) (hn : b.length = n) (hc : n ≤ c) (hcap : c ≤ 9223372036854775807) (hl : n ≤ 1000000) :
    Calls Tryd.prog 13 #[.string how, .slice A n c] w fun e w' => ∃ v, e = .returned v ∧ Rv w' v (CodeMath.decodeS how.data.toList b) ∧ Below w.heap.size w w' := by
  have HSM := Lib.hid (small_any w how hh)
  have hdef : CodeMath.decodeS how.data.toList b = if how.data.toList.map CodeMath.foldB = [98, 97, 115, 101, 54, 52] then (match CodeMath.dec b with | some x => x | none => b)
      else if how.data.toList.map CodeMath.foldB = [113, 117, 111, 116, 101, 100, 45, 112, 114, 105, 110, 116, 97, 98, 108, 101] then CodeMath.fqS b else b := rfl
  generalize CodeMath.decodeS how.data.toList b = res at *
  generalize how.data.toList.map CodeMath.foldB = fl at *
  obtain ⟨S, hS⟩ : ∃ S : ByteArray, S = ⟨fl.toArray⟩ := ⟨_, rfl⟩
  have hSl : S.toList = fl := by rw [Lib.toList_data, hS]
  rw [← hS] at HSM
  have HR := Lib.hid hr; have HN := Lib.hid hn
  clear hr hn hS hh
  by_cases h1 : fl = [98, 97, 115, 101, 54, 52]
  · have hb1 : (S.toList == [98, 97, 115, 101, 54, 52]) = true := by rw [hSl, h1]; rfl
    rw [if_pos h1] at hdef
    have HD := Lib.hid hdef
    clear hdef hSl h1
    go_enter Tryd.func13, Tryd.ntmps13
    go_wp2_with fail
    refine HSM.out.mono ?_
    rintro e w1 ⟨rfl, hb⟩
    have HB1 := Lib.hid hb
    have HDN := Lib.hid (dec_n w1 A n c b (HR.out.below hb) HN.out hc hl)
    clear hb HSM
    go_wp2_with fail
    refine HDN.out.mono ?_
    clear HDN
    rintro e w2 ⟨hb2, ⟨l, v, hd, rfl, ho⟩ | ⟨hd, rfl⟩⟩
    · have HRES : Hid (res = l) := Lib.hid (by rw [HD.out, hd])
      have HB2 := Lib.hid (below_then HB1.out HB1.out.size hb2)
      have HO := Lib.hid ho.rv
      clear hb2 hd ho
      go_wp2
      go_ret
      exact ⟨_, rfl, by rw [HRES.out]; exact HO.out, HB2.out⟩
    · have HRES : Hid (res = b) := Lib.hid (by rw [HD.out, hd])
      have HB2 := Lib.hid (below_then HB1.out HB1.out.size hb2)
      have HCL := Lib.hid (clone_n w2 A n c b (HR.out.below HB2.out) HN.out (by omega))
      clear hb2 hd
      go_wp2_with fail
      refine HCL.out.mono ?_
      rintro e w3 ⟨v, rfl, ho, hb3⟩
      have HB3 := Lib.hid (below_then HB2.out HB2.out.size hb3)
      have HO := Lib.hid ho.rv
      clear ho hb3 HCL
      go_wp2
      go_ret
      exact ⟨_, rfl, by rw [HRES.out]; exact HO.out, HB3.out⟩
  · have hb1 : (S.toList == [98, 97, 115, 101, 54, 52]) = false := by rw [hSl, beq_eq_false_iff_ne]; exact h1
    rw [if_neg h1] at hdef
    by_cases h2 : fl = [113, 117, 111, 116, 101, 100, 45, 112, 114, 105, 110, 116, 97, 98, 108, 101]
    · have hb2 : (S.toList == [113, 117, 111, 116, 101, 100, 45, 112, 114, 105, 110, 116, 97, 98, 108, 101]) = true := by rw [hSl, h2]; rfl
      rw [if_pos h2] at hdef
      have HD := Lib.hid hdef
      clear hdef hSl h1 h2
      go_enter Tryd.func13, Tryd.ntmps13
      go_wp2_with fail
      refine HSM.out.mono ?_
      rintro e w1 ⟨rfl, hb⟩
      have HB1 := Lib.hid hb
      have HDN := Lib.hid (fq_n w1 A n c b (HR.out.below hb) HN.out hc hcap hl)
      clear hb HSM
      go_wp2_with fail
      refine HDN.out.mono ?_
      clear HDN
      rintro e w2 ⟨v, rfl, ho, hb2'⟩
      have HB2 := Lib.hid (below_then HB1.out HB1.out.size hb2')
      have HO := Lib.hid ho.rv
      clear hb2' ho
      go_wp2
      go_ret
      exact ⟨_, rfl, by rw [HD.out]; exact HO.out, HB2.out⟩
    · have hb2 : (S.toList == [113, 117, 111, 116, 101, 100, 45, 112, 114, 105, 110, 116, 97, 98, 108, 101]) = false := by rw [hSl, beq_eq_false_iff_ne]; exact h2
      rw [if_neg h2] at hdef
      have HD := Lib.hid hdef
      clear hdef hSl h1 h2
      go_enter Tryd.func13, Tryd.ntmps13
      go_wp2_with fail
      refine HSM.out.mono ?_
      rintro e w1 ⟨rfl, hb⟩
      have HB1 := Lib.hid hb
      have HDN := Lib.hid (clone_n w1 A n c b (HR.out.below hb) HN.out (by omega))
      clear hb HSM
      go_wp2_with fail
      refine HDN.out.mono ?_
      clear HDN
      rintro e w2 ⟨v, rfl, ho, hb2'⟩
      have HB2 := Lib.hid (below_then HB1.out HB1.out.size hb2')
      have HO := Lib.hid ho.rv
      clear hb2' ho
      go_wp2
      go_ret
      exact ⟨_, rfl, by rw [HD.out]; exact HO.out, HB2.out⟩
end Go.Proofs.YtgaccogekmaijaaDoor
