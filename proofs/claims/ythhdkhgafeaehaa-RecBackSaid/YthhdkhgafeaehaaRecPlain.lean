/- Plain laws of records: what is written is read; a byte that is another makes it none; records one behind the other. -/
import Derived.Test.YthhdkhgafeaehaaRecMath
namespace RecMath
set_option linter.unusedVariables false
set_option linter.unusedSimpArgs false
theorem xor_self_zero (l : List UInt8) : List.zipWith (· ^^^ ·) l l = List.replicate l.length 0 := by
  induction l with
  | nil => rfl
  | cons a l ih => rw [List.zipWith_cons_cons, ih, UInt8.xor_self, List.length_cons, List.replicate_succ]
/-- one byte that is another makes the sum another -/
theorem add_other (p s : List UInt8) (x y : UInt8) (h : x ≠ y) : CrcMath.add 0 (p ++ x :: s) ≠ CrcMath.add 0 (p ++ y :: s) := by
  intro he
  have h1 := CrcMath.add_eq_iff (p ++ x :: s) (p ++ y :: s) (by simp) he
  rw [List.zipWith_append rfl, xor_self_zero, List.zipWith_cons_cons, xor_self_zero, CrcMath.run_append, CrcMath.run_zero_zero] at h1
  have h0 : CrcMath.sts (8 * p.length) 0 = 0 := by
    have : ∀ n, CrcMath.sts n 0 = 0 := by
      intro n
      induction n with
      | zero => rfl
      | succ n ih => rw [CrcMath.sts_succ, ih]; decide
    exact this _
  rw [h0] at h1
  have h2 : CrcMath.run (CrcMath.by8 0 (x ^^^ y)) (List.replicate s.length 0) = 0 := h1
  rw [CrcMath.run_zero_zero] at h2
  have h3 := CrcMath.sts_zero _ _ h2
  unfold CrcMath.by8 at h3
  have h4 := CrcMath.sts_zero _ _ h3
  replace h4 : BitVec.ofNat 32 (x ^^^ y).toNat = (0 : CrcMath.W) := by simpa using h4
  have h5 : (x ^^^ y).toNat = 0 := by
    have := congrArg BitVec.toNat h4
    rw [BitVec.toNat_ofNat] at this
    have h6 := (x ^^^ y).toNat_lt
    have h8 : (x ^^^ y).toNat % 2 ^ 32 = 0 := this
    rw [Nat.mod_eq_of_lt (by omega)] at h8
    exact h8
  have h7 : x ^^^ y = 0 := UInt8.toNat_inj.1 h5
  exact h (UInt8.xor_eq_zero_iff.1 h7)
theorem get_parts (N len : Nat) (x2 body x4 rest : List UInt8) (h2 : x2.length = 8) (hb : body.length = len) (h4 : x4.length = 4) (hl : len ≤ 200000) :
    get (be 4 len ++ (x2 ++ (body ++ (x4 ++ rest)))) = if i64 (rd x2) < 1 ∨ rd x4 ≠ (CrcMath.add 0 (be 4 len ++ (x2 ++ body))).toNat then ⟨0, [], 0, 3⟩ else ⟨i64 (rd x2), body, 16 + len, 0⟩ := by
  have h1 : (be 4 len).length = 4 := be_length _ _
  have e1 : (be 4 len ++ (x2 ++ (body ++ (x4 ++ rest)))).take 4 = be 4 len := List.take_left' h1
  have e2 : (be 4 len ++ (x2 ++ (body ++ (x4 ++ rest)))).drop 4 = x2 ++ (body ++ (x4 ++ rest)) := List.drop_left' h1
  have e3 : (x2 ++ (body ++ (x4 ++ rest))).take 8 = x2 := List.take_left' h2
  have e4 : (be 4 len ++ (x2 ++ (body ++ (x4 ++ rest)))).drop (12 + len) = x4 ++ rest := by
    rw [show be 4 len ++ (x2 ++ (body ++ (x4 ++ rest))) = (be 4 len ++ (x2 ++ body)) ++ (x4 ++ rest) by simp]
    exact List.drop_left' (by simp [h1, h2, hb]; omega)
  have e5 : (be 4 len ++ (x2 ++ (body ++ (x4 ++ rest)))).take (12 + len) = be 4 len ++ (x2 ++ body) := by
    rw [show be 4 len ++ (x2 ++ (body ++ (x4 ++ rest))) = (be 4 len ++ (x2 ++ body)) ++ (x4 ++ rest) by simp]
    exact List.take_left' (by simp [h1, h2, hb]; omega)
  have e6 : (be 4 len ++ (x2 ++ (body ++ (x4 ++ rest)))).drop 12 = body ++ (x4 ++ rest) := by
    rw [show be 4 len ++ (x2 ++ (body ++ (x4 ++ rest))) = (be 4 len ++ x2) ++ (body ++ (x4 ++ rest)) by simp]
    exact List.drop_left' (by simp [h1, h2])
  have e7 : (x4 ++ rest).take 4 = x4 := List.take_left' h4
  have e8 : (body ++ (x4 ++ rest)).take len = body := List.take_left' hb
  have e9 : rd (be 4 len) = len := rd_be 4 len (by have : (256 : Nat) ^ 4 = 4294967296 := by decide
                                                   omega)
  have e10 : (be 4 len ++ (x2 ++ (body ++ (x4 ++ rest)))).length = 16 + len + rest.length := by simp [h1, h2, hb, h4]; omega
  unfold get
  rw [e1, e2, e3, e9, e4, e5, e6, e7, e8, if_neg (by omega), if_neg (by omega), if_neg (by omega)]
theorem recB_parts (N : Nat) (body rest : List UInt8) : recB N body ++ rest = be 4 body.length ++ (be 8 N ++ (body ++ (be 4 (CrcMath.add 0 (headB N body)).toNat ++ rest))) := by simp [recB, headB]
theorem crc_small (x : CrcMath.W) : x.toNat < 256 ^ 4 := by
  have := x.isLt
  have h : (256 : Nat) ^ 4 = 2 ^ 32 := by decide
  omega
theorem get_recB (N : Nat) (body rest : List UInt8) (h1 : 1 ≤ N) (h2 : N < 9223372036854775808) (hb : body.length ≤ 200000) : get (recB N body ++ rest) = ⟨(N : Int), body, 16 + body.length, 0⟩ := by
  have e1 : rd (be 8 N) = N := rd_be 8 N (by have : (256 : Nat) ^ 8 = 18446744073709551616 := by decide
                                             omega)
  have e2 : i64 N = N := by unfold i64; rw [if_pos h2]
  rw [recB_parts, get_parts N body.length _ body _ rest (be_length _ _) rfl (be_length _ _) hb, e1, e2, rd_be 4 _ (crc_small _), if_neg]
  intro h
  rcases h with h | h
  · omega
  · exact h (by rw [headB, List.append_assoc])
/-- a record that is cut off is none -/
theorem get_cut (N : Nat) (body : List UInt8) (k : Nat) (hk : k < 16 + body.length) (hb : body.length ≤ 200000) : (get ((recB N body).take k)).err = 8 := by
  have hlen : ((recB N body).take k).length = k := by rw [List.length_take, recB_length]; omega
  unfold get
  by_cases h4 : k < 4
  · rw [if_pos (by omega)]
  · rw [if_neg (by omega)]
    have e1 : ((recB N body).take k).take 4 = be 4 body.length := by
      rw [List.take_take, Nat.min_eq_left (by omega), ← List.append_nil (recB N body), recB_parts]
      exact List.take_left' (be_length _ _)
    have e9 : rd (be 4 body.length) = body.length := rd_be 4 _ (by have : (256 : Nat) ^ 4 = 4294967296 := by decide
                                                                   omega)
    rw [e1, e9, if_neg (by omega), if_pos (by omega)]
theorem set_split (l : List UInt8) (i : Nat) (h : i < l.length) : ∃ p s, l = p ++ l[i] :: s ∧ ∀ x, l.set i x = p ++ x :: s := by
  refine ⟨l.take i, l.drop (i + 1), ?_, fun x => ?_⟩
  · rw [← List.drop_eq_getElem_cons h, List.take_append_drop]
  · rw [List.set_eq_take_append_cons_drop, if_pos h]
/-- a record one of whose bytes behind its length is another is none -/
theorem get_turned (N : Nat) (body : List UInt8) (at_ : Nat) (x : UInt8) (h4 : 4 ≤ at_) (ha : at_ < (recB N body).length) (hx : x ≠ (recB N body)[at_]) (hb : body.length ≤ 200000) : (get ((recB N body).set at_ x)).err = 3 := by
  obtain ⟨m, hm⟩ : ∃ m, m = be 8 N ++ body := ⟨_, rfl⟩
  obtain ⟨x4, hx4⟩ : ∃ x4, x4 = be 4 (CrcMath.add 0 (be 4 body.length ++ m)).toNat := ⟨_, rfl⟩
  have hml : m.length = 8 + body.length := by rw [hm, List.length_append, be_length]
  have hxl : x4.length = 4 := by rw [hx4, be_length]
  have hrd : rd x4 = (CrcMath.add 0 (be 4 body.length ++ m)).toNat := by rw [hx4]; exact rd_be 4 _ (crc_small _)
  have he : recB N body = be 4 body.length ++ (m ++ x4) := by
    rw [hx4, hm, recB, headB]; simp
  have h1 : (be 4 body.length).length = 4 := be_length _ _
  have hlen : at_ < 16 + body.length := by rw [recB_length] at ha; exact ha
  simp only [he] at hx ⊢
  rw [List.set_append_right at_ x (by omega), h1]
  rw [List.getElem_append_right (by omega)] at hx
  simp only [h1] at hx
  by_cases hz : at_ - 4 < m.length
  · rw [List.set_append_left _ x hz]
    rw [List.getElem_append_left hz] at hx
    obtain ⟨p, s, e1, e2⟩ := set_split m (at_ - 4) hz
    have hne : CrcMath.add 0 (be 4 body.length ++ m.set (at_ - 4) x) ≠ CrcMath.add 0 (be 4 body.length ++ m) := by
      rw [e2 x]
      conv => rhs; rw [e1]
      rw [← List.append_assoc, ← List.append_assoc]
      exact add_other _ _ _ _ hx
    generalize hm' : m.set (at_ - 4) x = m' at hne ⊢
    have hml' : m'.length = 8 + body.length := by rw [← hm', List.length_set, hml]
    have e3 : be 4 body.length ++ (m' ++ x4) = be 4 body.length ++ (m'.take 8 ++ (m'.drop 8 ++ (x4 ++ []))) := by
      rw [List.append_nil, ← List.append_assoc (m'.take 8), List.take_append_drop]
    rw [e3, get_parts N body.length (m'.take 8) (m'.drop 8) x4 [] (by rw [List.length_take]; omega) (by rw [List.length_drop]; omega) hxl hb, List.take_append_drop, if_pos]
    refine .inr ?_
    rw [hrd]
    intro h
    exact hne (BitVec.eq_of_toNat_eq h.symm)
  · have hz' : at_ - 4 - m.length < x4.length := by omega
    rw [List.set_append_right _ x (by omega)]
    rw [List.getElem_append_right (by omega)] at hx
    obtain ⟨p, s, e1, e2⟩ := set_split x4 _ hz'
    have hne : x4.set (at_ - 4 - m.length) x ≠ x4 := by
      intro h
      rw [e2 x] at h
      have h5 : p ++ x :: s = p ++ x4[at_ - 4 - m.length] :: s := h.trans e1
      have h6 := List.append_cancel_left h5
      injection h6 with h6 _
      exact hx h6
    generalize hx' : x4.set (at_ - 4 - m.length) x = x4' at hne ⊢
    have hxl' : x4'.length = 4 := by rw [← hx', List.length_set, hxl]
    have e3 : be 4 body.length ++ (m ++ x4') = be 4 body.length ++ (be 8 N ++ (body ++ (x4' ++ []))) := by rw [hm]; simp
    rw [e3, get_parts N body.length (be 8 N) body x4' [] (be_length _ _) rfl hxl' hb, if_pos]
    refine .inr ?_
    rw [← hm, ← hrd]
    intro h
    exact hne (rd_inj _ _ (by rw [hxl', hxl]) h)
end RecMath
