/- Contracts that are proved one after the other (RecPlain, RecPl2, WalMath, WalDev, WalCom, WalPut). -/
import Derived.Test.YtbpecfbliglboaaRecMath
import Derived.Test.YtbpecfbliglboaaDevMath
/- Plain laws of records: what is written is read; a byte that is another makes it none; records one behind the other. -/
namespace RecMath
set_option linter.unusedVariables false
set_option linter.unusedSimpArgs false
theorem xor_self_zero (l : List UInt8) : List.zipWith (· ^^^ ·) l l = List.replicate l.length 0 := by
  induction l with
  | nil => rfl
  | cons a l ih => rw [List.zipWith_cons_cons, ih, UInt8.xor_self, List.length_cons, List.replicate_succ]
/-- one byte that is another makes the sum another -/
theorem add_other (p s : List UInt8) (x y : UInt8) (h : x ≠ y) : CrcMath.add 0 (p ++ x :: s) ≠ CrcMath.add 0 (p ++ y :: s) := by
  intro he
  have h1 := CrcMath.add_eq_iff (p ++ x :: s) (p ++ y :: s) (by simp) he
  rw [List.zipWith_append rfl, xor_self_zero, List.zipWith_cons_cons, xor_self_zero, CrcMath.run_append, CrcMath.run_zero_zero] at h1
  have h0 : CrcMath.sts (8 * p.length) 0 = 0 := by
    have : ∀ n, CrcMath.sts n 0 = 0 := by
      intro n
      induction n with
      | zero => rfl
      | succ n ih => rw [CrcMath.sts_succ, ih]; decide
    exact this _
  rw [h0] at h1
  have h2 : CrcMath.run (CrcMath.by8 0 (x ^^^ y)) (List.replicate s.length 0) = 0 := h1
  rw [CrcMath.run_zero_zero] at h2
  have h3 := CrcMath.sts_zero _ _ h2
  unfold CrcMath.by8 at h3
  have h4 := CrcMath.sts_zero _ _ h3
  replace h4 : BitVec.ofNat 32 (x ^^^ y).toNat = (0 : CrcMath.W) := by simpa using h4
  have h5 : (x ^^^ y).toNat = 0 := by
    have := congrArg BitVec.toNat h4
    rw [BitVec.toNat_ofNat] at this
    have h6 := (x ^^^ y).toNat_lt
    have h8 : (x ^^^ y).toNat % 2 ^ 32 = 0 := this
    rw [Nat.mod_eq_of_lt (by omega)] at h8
    exact h8
  have h7 : x ^^^ y = 0 := UInt8.toNat_inj.1 h5
  exact h (UInt8.xor_eq_zero_iff.1 h7)
theorem get_parts (N len : Nat) (x2 body x4 rest : List UInt8) (h2 : x2.length = 8) (hb : body.length = len) (h4 : x4.length = 4) (hl : len ≤ 200000) :
    get (be 4 len ++ (x2 ++ (body ++ (x4 ++ rest)))) = if i64 (rd x2) < 1 ∨ rd x4 ≠ (CrcMath.add 0 (be 4 len ++ (x2 ++ body))).toNat then ⟨0, [], 0, 3⟩ else ⟨i64 (rd x2), body, 16 + len, 0⟩ := by
  have h1 : (be 4 len).length = 4 := be_length _ _
  have e1 : (be 4 len ++ (x2 ++ (body ++ (x4 ++ rest)))).take 4 = be 4 len := List.take_left' h1
  have e2 : (be 4 len ++ (x2 ++ (body ++ (x4 ++ rest)))).drop 4 = x2 ++ (body ++ (x4 ++ rest)) := List.drop_left' h1
  have e3 : (x2 ++ (body ++ (x4 ++ rest))).take 8 = x2 := List.take_left' h2
  have e4 : (be 4 len ++ (x2 ++ (body ++ (x4 ++ rest)))).drop (12 + len) = x4 ++ rest := by
    rw [show be 4 len ++ (x2 ++ (body ++ (x4 ++ rest))) = (be 4 len ++ (x2 ++ body)) ++ (x4 ++ rest) by simp]
    exact List.drop_left' (by simp [h1, h2, hb]; omega)
  have e5 : (be 4 len ++ (x2 ++ (body ++ (x4 ++ rest)))).take (12 + len) = be 4 len ++ (x2 ++ body) := by
    rw [show be 4 len ++ (x2 ++ (body ++ (x4 ++ rest))) = (be 4 len ++ (x2 ++ body)) ++ (x4 ++ rest) by simp]
    exact List.take_left' (by simp [h1, h2, hb]; omega)
  have e6 : (be 4 len ++ (x2 ++ (body ++ (x4 ++ rest)))).drop 12 = body ++ (x4 ++ rest) := by
    rw [show be 4 len ++ (x2 ++ (body ++ (x4 ++ rest))) = (be 4 len ++ x2) ++ (body ++ (x4 ++ rest)) by simp]
    exact List.drop_left' (by simp [h1, h2])
  have e7 : (x4 ++ rest).take 4 = x4 := List.take_left' h4
  have e8 : (body ++ (x4 ++ rest)).take len = body := List.take_left' hb
  have e9 : rd (be 4 len) = len := rd_be 4 len (by have : (256 : Nat) ^ 4 = 4294967296 := by decide
                                                   omega)
  have e10 : (be 4 len ++ (x2 ++ (body ++ (x4 ++ rest)))).length = 16 + len + rest.length := by simp [h1, h2, hb, h4]; omega
  unfold get
  rw [e1, e2, e3, e9, e4, e5, e6, e7, e8, if_neg (by omega), if_neg (by omega), if_neg (by omega)]
theorem recB_parts (N : Nat) (body rest : List UInt8) : recB N body ++ rest = be 4 body.length ++ (be 8 N ++ (body ++ (be 4 (CrcMath.add 0 (headB N body)).toNat ++ rest))) := by simp [recB, headB]
theorem crc_small (x : CrcMath.W) : x.toNat < 256 ^ 4 := by
  have := x.isLt
  have h : (256 : Nat) ^ 4 = 2 ^ 32 := by decide
  omega
theorem get_recB (N : Nat) (body rest : List UInt8) (h1 : 1 ≤ N) (h2 : N < 9223372036854775808) (hb : body.length ≤ 200000) : get (recB N body ++ rest) = ⟨(N : Int), body, 16 + body.length, 0⟩ := by
  have e1 : rd (be 8 N) = N := rd_be 8 N (by have : (256 : Nat) ^ 8 = 18446744073709551616 := by decide
                                             omega)
  have e2 : i64 N = N := by unfold i64; rw [if_pos h2]
  rw [recB_parts, get_parts N body.length _ body _ rest (be_length _ _) rfl (be_length _ _) hb, e1, e2, rd_be 4 _ (crc_small _), if_neg]
  intro h
  rcases h with h | h
  · omega
  · exact h (by rw [headB, List.append_assoc])
/-- a record that is cut off is none -/
theorem get_cut (N : Nat) (body : List UInt8) (k : Nat) (hk : k < 16 + body.length) (hb : body.length ≤ 200000) : (get ((recB N body).take k)).err = 8 := by
  have hlen : ((recB N body).take k).length = k := by rw [List.length_take, recB_length]; omega
  unfold get
  by_cases h4 : k < 4
  · rw [if_pos (by omega)]
  · rw [if_neg (by omega)]
    have e1 : ((recB N body).take k).take 4 = be 4 body.length := by
      rw [List.take_take, Nat.min_eq_left (by omega), ← List.append_nil (recB N body), recB_parts]
      exact List.take_left' (be_length _ _)
    have e9 : rd (be 4 body.length) = body.length := rd_be 4 _ (by have : (256 : Nat) ^ 4 = 4294967296 := by decide
                                                                   omega)
    rw [e1, e9, if_neg (by omega), if_pos (by omega)]
theorem set_split (l : List UInt8) (i : Nat) (h : i < l.length) : ∃ p s, l = p ++ l[i] :: s ∧ ∀ x, l.set i x = p ++ x :: s := by
  refine ⟨l.take i, l.drop (i + 1), ?_, fun x => ?_⟩
  · rw [← List.drop_eq_getElem_cons h, List.take_append_drop]
  · rw [List.set_eq_take_append_cons_drop, if_pos h]
/-- a record one of whose bytes behind its length is another is none -/
theorem get_turned (N : Nat) (body : List UInt8) (at_ : Nat) (x : UInt8) (h4 : 4 ≤ at_) (ha : at_ < (recB N body).length) (hx : x ≠ (recB N body)[at_]) (hb : body.length ≤ 200000) : (get ((recB N body).set at_ x)).err = 3 := by
  obtain ⟨m, hm⟩ : ∃ m, m = be 8 N ++ body := ⟨_, rfl⟩
  obtain ⟨x4, hx4⟩ : ∃ x4, x4 = be 4 (CrcMath.add 0 (be 4 body.length ++ m)).toNat := ⟨_, rfl⟩
  have hml : m.length = 8 + body.length := by rw [hm, List.length_append, be_length]
  have hxl : x4.length = 4 := by rw [hx4, be_length]
  have hrd : rd x4 = (CrcMath.add 0 (be 4 body.length ++ m)).toNat := by rw [hx4]; exact rd_be 4 _ (crc_small _)
  have he : recB N body = be 4 body.length ++ (m ++ x4) := by
    rw [hx4, hm, recB, headB]; simp
  have h1 : (be 4 body.length).length = 4 := be_length _ _
  have hlen : at_ < 16 + body.length := by rw [recB_length] at ha; exact ha
  simp only [he] at hx ⊢
  rw [List.set_append_right at_ x (by omega), h1]
  rw [List.getElem_append_right (by omega)] at hx
  simp only [h1] at hx
  by_cases hz : at_ - 4 < m.length
  · rw [List.set_append_left _ x hz]
    rw [List.getElem_append_left hz] at hx
    obtain ⟨p, s, e1, e2⟩ := set_split m (at_ - 4) hz
    have hne : CrcMath.add 0 (be 4 body.length ++ m.set (at_ - 4) x) ≠ CrcMath.add 0 (be 4 body.length ++ m) := by
      rw [e2 x]
      conv => rhs; rw [e1]
      rw [← List.append_assoc, ← List.append_assoc]
      exact add_other _ _ _ _ hx
    generalize hm' : m.set (at_ - 4) x = m' at hne ⊢
    have hml' : m'.length = 8 + body.length := by rw [← hm', List.length_set, hml]
    have e3 : be 4 body.length ++ (m' ++ x4) = be 4 body.length ++ (m'.take 8 ++ (m'.drop 8 ++ (x4 ++ []))) := by
      rw [List.append_nil, ← List.append_assoc (m'.take 8), List.take_append_drop]
    rw [e3, get_parts N body.length (m'.take 8) (m'.drop 8) x4 [] (by rw [List.length_take]; omega) (by rw [List.length_drop]; omega) hxl hb, List.take_append_drop, if_pos]
    refine .inr ?_
    rw [hrd]
    intro h
    exact hne (BitVec.eq_of_toNat_eq h.symm)
  · have hz' : at_ - 4 - m.length < x4.length := by omega
    rw [List.set_append_right _ x (by omega)]
    rw [List.getElem_append_right (by omega)] at hx
    obtain ⟨p, s, e1, e2⟩ := set_split x4 _ hz'
    have hne : x4.set (at_ - 4 - m.length) x ≠ x4 := by
      intro h
      rw [e2 x] at h
      have h5 : p ++ x :: s = p ++ x4[at_ - 4 - m.length] :: s := h.trans e1
      have h6 := List.append_cancel_left h5
      injection h6 with h6 _
      exact hx h6
    generalize hx' : x4.set (at_ - 4 - m.length) x = x4' at hne ⊢
    have hxl' : x4'.length = 4 := by rw [← hx', List.length_set, hxl]
    have e3 : be 4 body.length ++ (m ++ x4') = be 4 body.length ++ (be 8 N ++ (body ++ (x4' ++ []))) := by rw [hm]; simp
    rw [e3, get_parts N body.length (be 8 N) body x4' [] (be_length _ _) rfl hxl' hb, if_pos]
    refine .inr ?_
    rw [← hm, ← hrd]
    intro h
    exact hne (rd_inj _ _ (by rw [hxl', hxl]) h)
end RecMath
/- Records one behind the other, plain. -/
namespace RecMath
set_option linter.unusedVariables false
set_option linter.unusedSimpArgs false
/-- the records' bytes, one behind the other, numbers from N on -/
def recs : Nat → List (List UInt8) → List UInt8
  | _, [] => []
  | N, l :: ls => recB N l ++ recs (N + 1) ls
theorem recs_snoc (N : Nat) (ls : List (List UInt8)) (x : List UInt8) : recs N (ls ++ [x]) = recs N ls ++ recB (N + ls.length) x := by
  induction ls generalizing N with
  | nil => simp [recs]
  | cons l ls ih =>
    rw [List.cons_append, recs, recs, ih, List.append_assoc, List.length_cons]
    rw [show N + 1 + ls.length = N + (ls.length + 1) by omega]
/-- how many bytes the first i take -/
def upto (ls : List (List UInt8)) (i : Nat) : Nat := (ls.take i).foldr (fun l n => 16 + l.length + n) 0
theorem recs_length (N : Nat) (ls : List (List UInt8)) : (recs N ls).length = ls.foldr (fun l n => 16 + l.length + n) 0 := by
  induction ls generalizing N with
  | nil => rfl
  | cons l ls ih => rw [recs, List.length_append, recB_length, ih]; rfl
theorem upto_cons (l : List UInt8) (ls : List (List UInt8)) (i : Nat) : upto (l :: ls) (i + 1) = 16 + l.length + upto ls i := rfl
theorem upto_zero (ls : List (List UInt8)) : upto ls 0 = 0 := rfl
theorem upto_succ (ls : List (List UInt8)) (i : Nat) (h : i < ls.length) : upto ls (i + 1) = upto ls i + (16 + ls[i].length) := by
  induction ls generalizing i with
  | nil => simp at h
  | cons l ls ih =>
    cases i with
    | zero => simp [upto_cons, upto_zero]
    | succ i =>
      rw [upto_cons, upto_cons, ih i (by simpa using h)]
      simp only [List.getElem_cons_succ]
      omega
/-- how many of the first i lie whole within cut bytes -/
def whole (ls : List (List UInt8)) (cut : Int) : Nat → Nat
  | 0 => 0
  | i + 1 => if (upto ls (i + 1) : Int) ≤ cut then i + 1 else whole ls cut i
theorem whole_spec (ls : List (List UInt8)) (cut : Nat) (i : Nat) : whole ls cut i ≤ i ∧ upto ls (whole ls cut i) ≤ cut ∧ (whole ls cut i = i ∨ cut < upto ls (whole ls cut i + 1)) := by
  induction i with
  | zero => exact ⟨Nat.le_refl _, by simp [whole, upto_zero], .inl rfl⟩
  | succ i ih =>
    rw [whole]
    split
    · rename_i h; exact ⟨Nat.le_refl _, by omega, .inl rfl⟩
    · rename_i h
      obtain ⟨h1, h2, h3⟩ := ih
      refine ⟨by omega, h2, ?_⟩
      rcases h3 with h3 | h3
      · right; rw [h3]; omega
      · exact .inr h3
/-- the records of the first W -/
def pairs : Nat → List (List UInt8) → List (Int × List UInt8)
  | _, [] => []
  | N, l :: ls => ((N : Int), l) :: pairs (N + 1) ls
theorem pairs_length (N : Nat) (ls : List (List UInt8)) : (pairs N ls).length = ls.length := by
  induction ls generalizing N with
  | nil => rfl
  | cons l ls ih => simp [pairs, ih]
theorem pairs_at (N : Nat) (ls : List (List UInt8)) (i : Nat) (h : i < ls.length) : (pairs N ls)[i]'(by rw [pairs_length]; exact h) = (((N + i : Nat) : Int), ls[i]) := by
  induction ls generalizing N i with
  | nil => simp at h
  | cons l ls ih =>
    cases i with
    | zero => rfl
    | succ i =>
      have := ih (N + 1) i (by simpa using h)
      simp only [pairs, List.getElem_cons_succ]
      rw [this, show N + 1 + i = N + (i + 1) by omega]
theorem scan_cut (ls : List (List UInt8)) (N W cut f : Nat) (h1 : 1 ≤ N) (hN : N + ls.length < 9223372036854775808) (hl : ∀ l ∈ ls, l.length ≤ 200000) (hW : W ≤ ls.length) (hc : upto ls W ≤ cut) (hn : W = ls.length ∨ cut < upto ls (W + 1)) (hf : ((recs N ls).take cut).length ≤ f) :
    scan f ((recs N ls).take cut) N = (pairs N (ls.take W), upto ls W) := by
  induction ls generalizing N W cut f with
  | nil =>
    have : W = 0 := by simpa using hW
    subst this
    simp [recs]
    exact scan_stop f [] N (.inl (get_nil_err [] (by simp)))
  | cons l ls ih =>
    have hll := hl l (List.mem_cons_self ..)
    have hrl : (recB N l).length = 16 + l.length := recB_length N l
    cases W with
    | zero =>
      rcases hn with hn | hn
      · simp at hn
      · rw [upto_cons, upto_zero] at hn
        rw [recs, List.take_append_of_le_length (by omega)]
        have hg := get_cut N l cut (by omega) hll
        rw [scan_stop f _ N (.inl (by rw [hg]; decide))]
        simp [pairs, upto_zero]
    | succ W =>
      rw [upto_cons] at hc
      have e1 : (recs N (l :: ls)).take cut = recB N l ++ (recs (N + 1) ls).take (cut - (16 + l.length)) := by
        rw [recs, List.take_append, hrl, List.take_of_length_le (by omega)]
      rw [e1] at hf ⊢
      have hg := get_recB N l ((recs (N + 1) ls).take (cut - (16 + l.length))) h1 (by simp at hN; omega) hll
      rw [scan_go f _ N (by rw [hg]; simp) hf, hg]
      dsimp only
      rw [List.drop_left' hrl]
      have := ih (N + 1) W (cut - (16 + l.length)) f (by omega) (by simp at hN; omega) (fun x hx => hl x (List.mem_cons_of_mem _ hx)) (by simpa using hW) (by omega)
        (by rcases hn with hn | hn
            · left; simpa using hn
            · right; rw [upto_cons] at hn; omega)
        (by rw [List.length_append] at hf; omega)
      rw [show ((N : Int) + 1) = ((N + 1 : Nat) : Int) by omega, this]
      rw [List.take_succ_cons, pairs, upto_cons]
theorem upto_all (ls : List (List UInt8)) (N : Nat) : upto ls ls.length = (recs N ls).length := by
  rw [recs_length, upto, List.take_length]
/-- records that stand whole are all found -/
theorem scan_all (ls : List (List UInt8)) (hN : 1 + ls.length < 9223372036854775808) (hl : ∀ l ∈ ls, l.length ≤ 200000) : scanAll (recs 1 ls) 1 = (pairs 1 ls, (recs 1 ls).length) := by
  have h := scan_cut ls 1 ls.length (recs 1 ls).length (recs 1 ls).length (Nat.le_refl _) hN hl (Nat.le_refl _) (by rw [upto_all ls 1]; exact Nat.le_refl _) (.inl rfl) (by rw [List.take_length]; exact Nat.le_refl _)
  rw [List.take_length, List.take_length, upto_all ls 1] at h
  exact h
theorem pairs_snd (N : Nat) (ls : List (List UInt8)) : (pairs N ls).map (·.2) = ls := by
  induction ls generalizing N with
  | nil => rfl
  | cons l ls ih => simp [pairs, ih]
end RecMath
/- What was written ahead, plain: the header, what is loaded. -/
namespace WalMath
set_option linter.unusedVariables false
set_option linter.unusedSimpArgs false
open RecMath (be rd recs scanAll)
/-- a log as it is told: its region, how many bytes are the base, what counts, the records -/
structure Lg where
  region : Nat
  base : Nat
  buf : List UInt8
  all : List (List UInt8)
def empty : Lg := ⟨0, 0, [], []⟩
def size (n : Nat) : Nat := (n - 1) / 2
def frm (n r : Nat) : Nat := 1 + r * size n
def room (n : Nat) : Nat := size n * 512
def magic : List UInt8 := [70, 82, 75, 49]
def head24 (r b e c : Nat) : List UInt8 := magic ++ be 4 r ++ be 4 b ++ be 4 e ++ be 4 c ++ be 4 0
def crc (l : List UInt8) : Nat := (CrcMath.add 0 l).toNat
def header (r b e c : Nat) : List UInt8 := head24 r b e c ++ be 4 (crc (head24 r b e c)) ++ List.replicate 484 0
def rd4 (h : List UInt8) (k : Nat) : Nat := rd ((h.drop k).take 4)
/-- so many sectors from one on -/
def cat (S : Nat → List UInt8) (a : Nat) : Nat → List UInt8
  | 0 => []
  | n + 1 => cat S a n ++ S (a + n)
def load (n : Nat) (S : Nat → List UInt8) : Option Lg :=
  if (S 0).take 4 ≠ magic ∨ rd4 (S 0) 24 ≠ crc ((S 0).take 24) then none
  else if 2 ≤ rd4 (S 0) 4 ∨ rd4 (S 0) 12 < rd4 (S 0) 8 ∨ room n < rd4 (S 0) 12 then none
  else
    let buf := (cat S (frm n (rd4 (S 0) 4)) (size n)).take (rd4 (S 0) 12)
    let sc := scanAll (buf.drop (rd4 (S 0) 8)) 1
    if sc.1.length ≠ rd4 (S 0) 16 ∨ sc.2 ≠ rd4 (S 0) 12 - rd4 (S 0) 8 then none
    else some ⟨rd4 (S 0) 4, rd4 (S 0) 8, buf, sc.1.map (·.2)⟩
def loadD (n : Nat) (S : Nat → List UInt8) : Lg := (load n S).getD empty
theorem head24_len (r b e c : Nat) : (head24 r b e c).length = 24 := by simp [head24, magic, RecMath.be_length]
theorem header_len (r b e c : Nat) : (header r b e c).length = 512 := by
  unfold header
  rw [List.length_append, List.length_append, head24_len, RecMath.be_length, List.length_replicate]
theorem header_tail (r b e c : Nat) : (header r b e c).drop 256 = List.replicate 256 0 := by
  have h : (head24 r b e c ++ be 4 (crc (head24 r b e c))).length = 28 := by rw [List.length_append, head24_len, RecMath.be_length]
  unfold header
  rw [List.drop_append, h, List.drop_eq_nil_of_le (by omega), List.nil_append, List.drop_replicate]
theorem crc_lt (l : List UInt8) : crc l < 256 ^ 4 := RecMath.crc_small _
theorem rd4_at (p x s : List UInt8) (k : Nat) (hp : p.length = k) (hx : x.length = 4) : rd4 (p ++ x ++ s) k = rd x := by
  unfold rd4
  rw [List.append_assoc, List.drop_left' hp, List.take_left' hx]
theorem header_take4 (r b e c : Nat) : (header r b e c).take 4 = magic := by
  unfold header head24
  simp only [List.append_assoc]
  exact List.take_left' rfl
theorem header_take24 (r b e c : Nat) : (header r b e c).take 24 = head24 r b e c := by
  unfold header
  rw [List.append_assoc]
  exact List.take_left' (head24_len r b e c)
theorem header_crc (r b e c : Nat) : rd4 (header r b e c) 24 = crc (head24 r b e c) := by
  unfold header
  rw [rd4_at _ _ _ 24 (head24_len r b e c) (RecMath.be_length _ _), RecMath.rd_be _ _ (crc_lt _)]
theorem header_r (r b e c : Nat) (h : r < 256 ^ 4) : rd4 (header r b e c) 4 = r := by
  have e0 : header r b e c = magic ++ be 4 r ++ (be 4 b ++ be 4 e ++ be 4 c ++ be 4 0 ++ be 4 (crc (head24 r b e c)) ++ List.replicate 484 0) := by simp only [header, head24, List.append_assoc]
  rw [e0, rd4_at _ _ _ 4 rfl (RecMath.be_length _ _), RecMath.rd_be _ _ h]
theorem header_b (r b e c : Nat) (h : b < 256 ^ 4) : rd4 (header r b e c) 8 = b := by
  have e0 : header r b e c = (magic ++ be 4 r) ++ be 4 b ++ (be 4 e ++ be 4 c ++ be 4 0 ++ be 4 (crc (head24 r b e c)) ++ List.replicate 484 0) := by simp only [header, head24, List.append_assoc]
  rw [e0, rd4_at _ _ _ 8 (by simp [magic, RecMath.be_length]) (RecMath.be_length _ _), RecMath.rd_be _ _ h]
theorem header_e (r b e c : Nat) (h : e < 256 ^ 4) : rd4 (header r b e c) 12 = e := by
  have e0 : header r b e c = (magic ++ be 4 r ++ be 4 b) ++ be 4 e ++ (be 4 c ++ be 4 0 ++ be 4 (crc (head24 r b e c)) ++ List.replicate 484 0) := by simp only [header, head24, List.append_assoc]
  rw [e0, rd4_at _ _ _ 12 (by simp [magic, RecMath.be_length]) (RecMath.be_length _ _), RecMath.rd_be _ _ h]
theorem header_c (r b e c : Nat) (h : c < 256 ^ 4) : rd4 (header r b e c) 16 = c := by
  have e0 : header r b e c = (magic ++ be 4 r ++ be 4 b ++ be 4 e) ++ be 4 c ++ (be 4 0 ++ be 4 (crc (head24 r b e c)) ++ List.replicate 484 0) := by simp only [header, head24, List.append_assoc]
  rw [e0, rd4_at _ _ _ 16 (by simp [magic, RecMath.be_length]) (RecMath.be_length _ _), RecMath.rd_be _ _ h]
theorem cat_len (S : Nat → List UInt8) (hS : ∀ k, (S k).length = 512) (a n : Nat) : (cat S a n).length = n * 512 := by
  induction n with
  | zero => simp [cat]
  | succ n ih => rw [cat, List.length_append, ih, hS]; omega
theorem cat_at (S : Nat → List UInt8) (hS : ∀ k, (S k).length = 512) (a n p : Nat) (hp : p < n * 512) : (cat S a n).getD p 0 = (S (a + p / 512)).getD (p % 512) 0 := by
  induction n with
  | zero => omega
  | succ n ih =>
    have hl := cat_len S hS a n
    rw [cat, List.getD_eq_getElem?_getD, List.getD_eq_getElem?_getD]
    by_cases h : p < n * 512
    · rw [List.getElem?_append_left (by rw [hl]; exact h), ← List.getD_eq_getElem?_getD, ih h, List.getD_eq_getElem?_getD]
    · rw [List.getElem?_append_right (by rw [hl]; omega), hl]
      have e1 : p / 512 = n := by omega
      have e2 : p - n * 512 = p % 512 := by omega
      rw [e1, e2]
theorem take_eq (l m : List UInt8) (h : m.length ≤ l.length) (hp : ∀ p, p < m.length → l.getD p 0 = m.getD p 0) : l.take m.length = m := by
  apply List.ext_getElem
  · rw [List.length_take]; omega
  · intro i h1 h2
    have := hp i h2
    rw [List.getD_eq_getElem?_getD, List.getD_eq_getElem?_getD, List.getElem?_eq_getElem (by omega), List.getElem?_eq_getElem h2] at this
    rw [List.getElem_take]
    simpa using this
/-- a log as it may be -/
structure Wf (n : Nat) (g : Lg) : Prop where
  reg : g.region < 2
  parts : ∃ bb, g.buf = bb ++ recs 1 g.all ∧ bb.length = g.base
  fits : g.buf.length ≤ room n
  small : ∀ l ∈ g.all, l.length ≤ 200000
theorem Wf.count {n : Nat} {g : Lg} (h : Wf n g) : g.all.length ≤ g.buf.length := by
  obtain ⟨bb, h1, h2⟩ := h.parts
  have : ∀ (N : Nat) (ls : List (List UInt8)), ls.length ≤ (recs N ls).length := by
    intro N ls
    induction ls generalizing N with
    | nil => simp
    | cons l ls ih =>
      have := ih (N + 1)
      rw [recs, List.length_append, RecMath.recB_length, List.length_cons]; omega
  have := this 1 g.all
  rw [h1, List.length_append]; omega
theorem Wf.empty (n : Nat) : Wf n empty := ⟨by decide, ⟨[], rfl, rfl⟩, Nat.zero_le _, fun l h => by cases h⟩
/-- the sectors tell of the log -/
def Tells (n : Nat) (S : Nat → List UInt8) (g : Lg) : Prop :=
  ((S 0 = List.replicate 512 0 ∧ g = empty) ∨ S 0 = header g.region g.base g.buf.length g.all.length) ∧
  ∀ p, p < g.buf.length → (S (frm n g.region + p / 512)).getD (p % 512) 0 = g.buf.getD p 0
theorem load_zero (n : Nat) (S : Nat → List UInt8) (h : S 0 = List.replicate 512 0) : load n S = none := by
  exact if_pos (.inl (by rw [h]; decide))
theorem load_tells (n : Nat) (hn : n ≤ 8192) (S : Nat → List UInt8) (hS : ∀ k, (S k).length = 512) (g : Lg) (hw : Wf n g) (ht : Tells n S g) : loadD n S = g := by
  obtain ⟨h0 | h0, hp⟩ := ht
  · obtain ⟨h0, rfl⟩ := h0
    unfold loadD
    rw [load_zero n S h0]
    rfl
  · have hc := hw.count
    obtain ⟨bb, hb1, hb2⟩ := hw.parts
    have hroom : room n ≤ 2097152 := by unfold room size; omega
    have h256 : (256 : Nat) ^ 4 = 4294967296 := by decide
    have hfit := hw.fits
    have hreg := hw.reg
    have hbl : g.base ≤ g.buf.length := by rw [hb1, List.length_append]; omega
    have r1 : rd4 (S 0) 4 = g.region := by rw [h0]; exact header_r _ _ _ _ (by omega)
    have r2 : rd4 (S 0) 8 = g.base := by rw [h0]; exact header_b _ _ _ _ (by omega)
    have r3 : rd4 (S 0) 12 = g.buf.length := by rw [h0]; exact header_e _ _ _ _ (by omega)
    have r4 : rd4 (S 0) 16 = g.all.length := by rw [h0]; exact header_c _ _ _ _ (by omega)
    have r5 : (S 0).take 4 = magic := by rw [h0]; exact header_take4 _ _ _ _
    have r6 : rd4 (S 0) 24 = crc ((S 0).take 24) := by rw [h0, header_crc, header_take24]
    have hbuf : (cat S (frm n g.region) (size n)).take g.buf.length = g.buf := by
      refine take_eq _ _ (by rw [cat_len S hS]; exact hfit) (fun p h => ?_)
      rw [cat_at S hS _ _ _ (Nat.lt_of_lt_of_le h hfit)]
      exact hp p h
    have hdrop : g.buf.drop g.base = recs 1 g.all := by rw [hb1, ← hb2]; exact List.drop_left' rfl
    have hsc := RecMath.scan_all g.all (by omega) hw.small
    unfold loadD load
    rw [if_neg (by rw [r5, r6]; simp), r1, r2, r3, r4, if_neg (by omega)]
    simp only [hbuf, hdrop, hsc, RecMath.pairs_length, RecMath.pairs_snd]
    rw [if_neg (by
      rintro (h | h)
      · exact h rfl
      · apply h
        rw [hb1, List.length_append]; omega)]
    rfl
end WalMath
/- What was written ahead, plain: the calls on the device, and falls in their midst. -/
namespace WalMath
set_option linter.unusedVariables false
set_option linter.unusedSimpArgs false
open DevMath (Dev put flushed crashed zeros)
/-- the sectors that are safe -/
def secs (d : Dev) : Nat → List UInt8 := fun k => d.sector (k : Int)
def sk (f : Int → Option (List UInt8)) (k : Int) : List UInt8 := (f k).getD zeros
theorem secs_eq (d : Dev) (k : Nat) : secs d k = sk d.safe (k : Int) := rfl
/-- each byte of each sector is as P says; sectors are of one length -/
def AllB (P : Int → Nat → UInt8 → Prop) (f : Int → Option (List UInt8)) : Prop := ∀ k : Int, (sk f k).length = 512 ∧ ∀ p, p < 512 → P k p ((sk f k).getD p 0)
def OkW (P : Int → Nat → UInt8 → Prop) (ws : List (Int × List UInt8)) : Prop := ∀ r ∈ ws, r.2.length = 512 ∧ ∀ p, p < 512 → P r.1 p (r.2.getD p 0)
theorem sk_put (f : Int → Option (List UInt8)) (k j : Int) (l : List UInt8) : sk (put f k l) j = if j = k then l else sk f j := by
  unfold sk put
  split <;> rfl
theorem AllB.put {P : Int → Nat → UInt8 → Prop} {f : Int → Option (List UInt8)} (h : AllB P f) {k : Int} {l : List UInt8} (hl : l.length = 512) (hp : ∀ p, p < 512 → P k p (l.getD p 0)) : AllB P (put f k l) := by
  intro j
  rw [sk_put]
  by_cases e : j = k
  · subst e
    rw [if_pos rfl]
    exact ⟨hl, hp⟩
  · rw [if_neg e]
    exact h j
theorem mix_getD (a b : List UInt8) (ha : a.length = 512) (hb : b.length = 512) (p : Nat) (hp : p < 512) : (a.take 256 ++ b.drop 256).getD p 0 = if p < 256 then a.getD p 0 else b.getD p 0 := by
  rw [List.getD_eq_getElem?_getD, List.getD_eq_getElem?_getD, List.getD_eq_getElem?_getD]
  by_cases h : p < 256
  · rw [if_pos h, List.getElem?_append_left (by rw [List.length_take]; omega), List.getElem?_take_of_lt h]
  · rw [if_neg h, List.getElem?_append_right (by rw [List.length_take]; omega), List.length_take, List.getElem?_drop]
    congr 2
    omega
theorem AllB.crashed {P : Int → Nat → UInt8 → Prop} (keep : List Int) (torn : Int) : ∀ (ws : List (Int × List UInt8)) (i : Nat) (f : Int → Option (List UInt8)), AllB P f → OkW P ws → AllB P (crashed keep torn i f ws) := by
  intro ws
  induction ws with
  | nil => intro i f h _; exact h
  | cons r ws ih =>
    intro i f h hw
    obtain ⟨w1, w2⟩ := hw r (List.mem_cons_self ..)
    refine ih (i + 1) _ ?_ (fun x hx => hw x (List.mem_cons_of_mem _ hx))
    split
    · exact h.put w1 w2
    · split
      · obtain ⟨f1, f2⟩ := h r.1
        refine h.put (by rw [List.length_append, List.length_take, List.length_drop, w1]; have : ((f r.1).getD zeros).length = 512 := f1; omega) (fun p hp => ?_)
        have := mix_getD r.2 (sk f r.1) w1 f1 p hp
        show P r.1 p ((r.2.take 256 ++ (sk f r.1).drop 256).getD p 0)
        rw [this]
        split
        · exact w2 p hp
        · exact f2 p hp
      · exact h
theorem AllB.flushed {P : Int → Nat → UInt8 → Prop} : ∀ (ws : List (Int × List UInt8)) (f : Int → Option (List UInt8)), AllB P f → OkW P ws → AllB P (flushed f ws) := by
  intro ws
  induction ws with
  | nil => intro f h _; exact h
  | cons r ws ih =>
    intro f h hw
    obtain ⟨w1, w2⟩ := hw r (List.mem_cons_self ..)
    exact ih _ (h.put w1 w2) (fun x hx => hw x (List.mem_cons_of_mem _ hx))
/-- writes, one after the other, as long as they go -/
def wrs : Dev → List (Int × List UInt8) → Dev × Int
  | d, [] => (d, 0)
  | d, r :: ws => if (d.write r.1 r.2).2 = 0 then wrs (d.write r.1 r.2).1 ws else d.write r.1 r.2
/-- the log's way: writes, all safe, the header, all safe -/
def commitD (d : Dev) (ws : List (Int × List UInt8)) (H : List UInt8) : Dev × Int :=
  let a := wrs d ws
  if a.2 ≠ 0 then (a.1, 7)
  else
    let f := a.1.flush
    if f.2 ≠ 0 then (f.1, 7)
    else
      let h := f.1.write 0 H
      if h.2 ≠ 0 then (h.1, 7)
      else
        let g := h.1.flush
        if g.2 ≠ 0 then (g.1, 7) else (g.1, 0)
/-- a device that is on, with so much in its cache, and so much safe -/
structure On (d : Dev) (n : Nat) (f : Int → Option (List UInt8)) (c : List (Int × List UInt8)) : Prop where
  n : d.sectors = n
  off : d.off = false
  safe : d.safe = f
  cache : d.cache = c
/-- a device that fell, with such a cache -/
structure Fell (d : Dev) (n : Nat) (f : Int → Option (List UInt8)) (c : List (Int × List UInt8)) : Prop where
  n : d.sectors = n
  off : d.off = true
  cache : d.cache = []
  safe : ∃ keep torn, d.safe = crashed keep torn 0 f c
theorem On.burn {d : Dev} {n : Nat} {f : Int → Option (List UInt8)} {c : List (Int × List UInt8)} (h : On d n f c) : On d.burn n f c ∨ Fell d.burn n f c := by
  obtain ⟨h1, h2, h3, h4⟩ := h
  unfold Dev.burn
  split
  · split
    · right
      unfold Dev.crash
      simp only [h2, if_false, Bool.false_eq_true]
      exact ⟨h1, rfl, rfl, ⟨d.keep, d.torn, by rw [h3, h4]⟩⟩
    · exact .inl ⟨h1, h2, h3, h4⟩
  · exact .inl ⟨h1, h2, h3, h4⟩
theorem On.write {d : Dev} {n : Nat} {f : Int → Option (List UInt8)} {c : List (Int × List UInt8)} (h : On d n f c) (k : Int) (l : List UInt8) (hk0 : 0 ≤ k) (hkn : k < n) (hl : l.length = 512) :
    (On (d.write k l).1 n f (c ++ [(k, l)]) ∧ (d.write k l).2 = 0) ∨ (Fell (d.write k l).1 n f c ∧ (d.write k l).2 = 7) := by
  have hb := h.burn
  obtain ⟨h1, h2, h3, h4⟩ := h
  have hhas : d.has k = true := by simp [Dev.has, h1]; exact ⟨hk0, hkn⟩
  unfold Dev.write
  rw [if_neg (by rw [h2]; decide), if_neg (by rw [hhas, hl]; simp)]
  rcases hb with hb | hb
  · left
    rw [if_neg (by rw [hb.off]; decide)]
    exact ⟨⟨hb.n, hb.off, hb.safe, by show d.burn.cache ++ _ = _; rw [hb.cache]⟩, rfl⟩
  · right
    rw [if_pos hb.off]
    exact ⟨hb, rfl⟩
theorem On.flush {d : Dev} {n : Nat} {f : Int → Option (List UInt8)} {c : List (Int × List UInt8)} (h : On d n f c) :
    (On d.flush.1 n (flushed f c) [] ∧ d.flush.2 = 0) ∨ (Fell d.flush.1 n f c ∧ d.flush.2 = 7) := by
  have hb := h.burn
  unfold Dev.flush
  rcases hb with hb | hb
  · left
    rw [if_neg (by rw [hb.off]; decide)]
    exact ⟨⟨hb.n, hb.off, by show flushed d.burn.safe d.burn.cache = _; rw [hb.safe, hb.cache], rfl⟩, rfl⟩
  · right
    rw [if_pos hb.off]
    exact ⟨hb, rfl⟩
theorem On.wrs {n : Nat} {f : Int → Option (List UInt8)} : ∀ (ws : List (Int × List UInt8)) (d : Dev) (c : List (Int × List UInt8)), On d n f c → (∀ r ∈ ws, 0 ≤ r.1 ∧ r.1 < n ∧ r.2.length = 512) →
    (On (wrs d ws).1 n f (c ++ ws) ∧ (wrs d ws).2 = 0) ∨ (∃ c', c' <+: c ++ ws ∧ Fell (wrs d ws).1 n f c' ∧ (wrs d ws).2 = 7) := by
  intro ws
  induction ws with
  | nil => intro d c h _; left; rw [List.append_nil]; exact ⟨h, rfl⟩
  | cons r ws ih =>
    intro d c h hw
    obtain ⟨w1, w2, w3⟩ := hw r (List.mem_cons_self ..)
    rcases h.write r.1 r.2 w1 w2 w3 with ⟨h1, h2⟩ | ⟨h1, h2⟩
    · have e : WalMath.wrs d (r :: ws) = WalMath.wrs (d.write r.1 r.2).1 ws := by
        show (if (d.write r.1 r.2).2 = 0 then _ else _) = _
        rw [if_pos h2]
      rw [e]
      have := ih (d.write r.1 r.2).1 (c ++ [(r.1, r.2)]) h1 (fun x hx => hw x (List.mem_cons_of_mem _ hx))
      rw [List.append_assoc] at this
      exact this
    · right
      have e : WalMath.wrs d (r :: ws) = d.write r.1 r.2 := by
        show (if (d.write r.1 r.2).2 = 0 then _ else _) = _
        rw [if_neg (by rw [h2]; decide)]
      rw [e]
      exact ⟨c, List.prefix_append _ _, h1, h2⟩
end WalMath
/- What was written ahead, plain: a commit, whole or fallen. -/
namespace WalMath
set_option linter.unusedVariables false
set_option linter.unusedSimpArgs false
open DevMath (Dev put flushed crashed zeros)
open RecMath (recs)
/-- a sector out of bytes, noughts behind them -/
def blk (b : List UInt8) (i : Nat) : List UInt8 := (b.drop (i * 512)).take 512 ++ List.replicate (512 - (b.length - i * 512)) 0
theorem blk_len (b : List UInt8) (i : Nat) : (blk b i).length = 512 := by
  unfold blk
  rw [List.length_append, List.length_take, List.length_drop, List.length_replicate]; omega
theorem blk_at (b : List UInt8) (i p : Nat) (hp : p < 512) : (blk b i).getD p 0 = b.getD (i * 512 + p) 0 := by
  unfold blk
  rw [List.getD_eq_getElem?_getD, List.getD_eq_getElem?_getD]
  by_cases h : i * 512 + p < b.length
  · rw [List.getElem?_append_left (by rw [List.length_take, List.length_drop]; omega), List.getElem?_take_of_lt hp, List.getElem?_drop]
  · rw [List.getElem?_append_right (by rw [List.length_take, List.length_drop]; omega), List.length_take, List.length_drop, List.getElem?_replicate]
    rw [List.getElem?_eq_none (by omega)]
    split <;> rfl
/-- the writes of bytes into a region from one of its sectors on -/
def dataW (n r sec : Nat) (b : List UInt8) : List (Int × List UInt8) := (List.range ((b.length + 511) / 512 - sec)).map fun j => (((frm n r + (sec + j) : Nat) : Int), blk b (sec + j))
theorem dataW_mem {n r sec : Nat} {b : List UInt8} {x : Int × List UInt8} (h : x ∈ dataW n r sec b) : ∃ i, sec ≤ i ∧ i * 512 < b.length ∧ x = (((frm n r + i : Nat) : Int), blk b i) := by
  obtain ⟨j, hj, rfl⟩ := List.mem_map.1 h
  rw [List.mem_range] at hj
  exact ⟨sec + j, by omega, by omega, rfl⟩
theorem mem_dataW {n r sec i : Nat} {b : List UInt8} (h1 : sec ≤ i) (h2 : i * 512 < b.length) : (((frm n r + i : Nat) : Int), blk b i) ∈ dataW n r sec b := by
  refine List.mem_map.2 ⟨i - sec, List.mem_range.2 (by omega), ?_⟩
  rw [show sec + (i - sec) = i by omega]
theorem dataW_ok {n r sec : Nat} {b : List UInt8} (hr : r < 2) (hb : b.length ≤ room n) : ∀ x ∈ dataW n r sec b, 0 ≤ x.1 ∧ x.1 < n ∧ x.2.length = 512 := by
  intro x hx
  obtain ⟨i, h1, h2, rfl⟩ := dataW_mem hx
  refine ⟨by simp only; omega, ?_, blk_len b i⟩
  unfold room at hb
  have hi : i < size n := by omega
  have h3 : frm n r + i < n := by
    unfold frm size at *
    have : r = 0 ∨ r = 1 := by omega
    rcases this with rfl | rfl <;> omega
  simp only
  omega
theorem flushed_out (k : Int) : ∀ (ws : List (Int × List UInt8)) (f : Int → Option (List UInt8)), (∀ x ∈ ws, x.1 ≠ k) → sk (flushed f ws) k = sk f k := by
  intro ws
  induction ws with
  | nil => intro f _; rfl
  | cons r ws ih =>
    intro f h
    show sk (flushed (put f r.1 r.2) ws) k = _
    rw [ih _ (fun x hx => h x (List.mem_cons_of_mem _ hx)), sk_put, if_neg (fun e => h r (List.mem_cons_self ..) e.symm)]
theorem flushed_in (k : Int) (v : List UInt8) : ∀ (ws : List (Int × List UInt8)) (f : Int → Option (List UInt8)), (k, v) ∈ ws → (∀ x ∈ ws, x.1 = k → x.2 = v) → sk (flushed f ws) k = v := by
  intro ws
  induction ws with
  | nil => intro f h; cases h
  | cons r ws ih =>
    intro f h hv
    show sk (flushed (put f r.1 r.2) ws) k = _
    by_cases hm : (k, v) ∈ ws
    · exact ih _ hm (fun x hx => hv x (List.mem_cons_of_mem _ hx))
    · rcases List.mem_cons.1 h with h | h
      · subst h
        rw [flushed_out, sk_put, if_pos rfl]
        intro x hx e
        have := hv x (List.mem_cons_of_mem _ hx) e
        apply hm
        rw [← this, ← e]
        exact hx
      · exact absurd h hm
/-- what the sectors tell of a log, byte by byte -/
def Pg (n : Nat) (S0 : List UInt8) (g : Lg) (k : Int) (p : Nat) (x : UInt8) : Prop :=
  (k = 0 → x = S0.getD p 0) ∧ ∀ q, q < g.buf.length → k = ((frm n g.region + q / 512 : Nat) : Int) → p = q % 512 → x = g.buf.getD q 0
def tells (n : Nat) (f : Int → Option (List UInt8)) (g : Lg) : Prop := Tells n (fun k => sk f (k : Int)) g
theorem frm_pos (n r : Nat) : 1 ≤ frm n r := by unfold frm; omega
theorem Pg.all {n : Nat} {f : Int → Option (List UInt8)} {g : Lg} (hl : ∀ k, (sk f k).length = 512) (ht : tells n f g) : AllB (Pg n (sk f 0) g) f := by
  intro k
  refine ⟨hl k, fun p hp => ⟨fun e => by rw [e], fun q hq hk hpq => ?_⟩⟩
  have := ht.2 q hq
  simp only at this
  rw [← hk, ← hpq] at this
  exact this
theorem ext512 (l m : List UInt8) (h1 : l.length = 512) (h2 : m.length = 512) (h : ∀ p, p < 512 → l.getD p 0 = m.getD p 0) : l = m := by
  have := take_eq l m (by omega) (fun p hp => h p (by omega))
  rw [List.take_of_length_le (by omega)] at this
  exact this
theorem Pg.tells {n : Nat} {f f' : Int → Option (List UInt8)} {g : Lg} (hl : ∀ k, (sk f k).length = 512) (ht : tells n f g) (h : AllB (Pg n (sk f 0) g) f') : tells n f' g ∧ sk f' 0 = sk f 0 := by
  have h0 : sk f' 0 = sk f 0 := ext512 _ _ (h 0).1 (hl 0) (fun p hp => ((h 0).2 p hp).1 rfl)
  refine ⟨⟨?_, fun p hp => ?_⟩, h0⟩
  · have := ht.1
    change (sk f 0 = _ ∧ _) ∨ sk f 0 = _ at this
    show (sk f' 0 = _ ∧ _) ∨ sk f' 0 = _
    rw [h0]
    exact this
  · exact ((h _).2 (p % 512) (Nat.mod_lt _ (by decide))).2 p hp rfl rfl
/-- where a commit may write: into the other region, or behind what counts -/
def Way (g g' : Lg) (sec : Nat) : Prop := (g'.region ≠ g.region ∧ sec = 0) ∨ (g'.region = g.region ∧ sec = g.buf.length / 512 ∧ g.buf <+: g'.buf)
theorem frm_apart {n r r' i j : Nat} (hr : r < 2) (hr' : r' < 2) (hne : r ≠ r') (hi : i < size n) (hj : j < size n) : frm n r + i ≠ frm n r' + j := by
  unfold frm
  have h1 : r = 0 ∨ r = 1 := by omega
  have h2 : r' = 0 ∨ r' = 1 := by omega
  rcases h1 with rfl | rfl <;> rcases h2 with rfl | rfl <;> omega
theorem getD_prefix {a b : List UInt8} (h : a <+: b) (q : Nat) (hq : q < a.length) : b.getD q 0 = a.getD q 0 := by
  obtain ⟨c, rfl⟩ := h
  rw [List.getD_eq_getElem?_getD, List.getD_eq_getElem?_getD, List.getElem?_append_left hq]
theorem dataW_old {n : Nat} {S0 : List UInt8} {g g' : Lg} {sec : Nat} (hw : Wf n g) (hw' : Wf n g') (hway : Way g g' sec) : OkW (Pg n S0 g) (dataW n g'.region sec g'.buf) := by
  intro x hx
  obtain ⟨i, h1, h2, rfl⟩ := dataW_mem hx
  refine ⟨blk_len _ _, fun p hp => ⟨fun e => ?_, fun q hq hk hpq => ?_⟩⟩
  · exfalso
    have := frm_pos n g'.region
    simp only at e
    omega
  · simp only at hk ⊢
    have hk' : frm n g'.region + i = frm n g.region + q / 512 := by omega
    have hf := hw.fits
    have hf' := hw'.fits
    unfold room at hf hf'
    rcases hway with ⟨hne, _⟩ | ⟨he, hs, hpre⟩
    · exact absurd hk' (frm_apart hw'.reg hw.reg hne (by omega) (by omega))
    · rw [he] at hk'
      rw [blk_at _ _ _ hp, show i * 512 + p = q by omega]
      exact getD_prefix hpre q hq
theorem len_all {f : Int → Option (List UInt8)} (h : ∀ k, (sk f k).length = 512) : AllB (fun _ _ _ => True) f := fun k => ⟨h k, fun _ _ => trivial⟩
theorem all_len {P : Int → Nat → UInt8 → Prop} {f : Int → Option (List UInt8)} (h : AllB P f) : ∀ k, (sk f k).length = 512 := fun k => (h k).1
/-- all written, and the header: the new log is told -/
theorem tells_new {n : Nat} {f : Int → Option (List UInt8)} {g g' : Lg} {sec : Nat} (hl : ∀ k, (sk f k).length = 512) (hw : Wf n g) (hw' : Wf n g') (ht : tells n f g) (hway : Way g g' sec) :
    tells n (put (flushed f (dataW n g'.region sec g'.buf)) 0 (header g'.region g'.base g'.buf.length g'.all.length)) g' := by
  refine ⟨.inr ?_, fun p hp => ?_⟩
  · show sk _ 0 = _
    rw [sk_put, if_pos rfl]
  · show (sk _ _).getD _ _ = _
    have hfp := frm_pos n g'.region
    rw [sk_put, if_neg (by omega)]
    by_cases hs : sec ≤ p / 512
    · rw [flushed_in _ (blk g'.buf (p / 512)) _ f (mem_dataW hs (by omega)) (fun x hx e => by
        obtain ⟨i, h1, h2, rfl⟩ := dataW_mem hx
        simp only at e ⊢
        rw [show i = p / 512 by omega]), blk_at _ _ _ (Nat.mod_lt _ (by decide))]
      congr 1
      omega
    · rw [flushed_out _ _ f (fun x hx e => by
        obtain ⟨i, h1, h2, rfl⟩ := dataW_mem hx
        simp only at e
        omega)]
      rcases hway with ⟨_, h0⟩ | ⟨he, hse, hpre⟩
      · omega
      · have hpl : p < g.buf.length := by omega
        have := ht.2 p hpl
        rw [he]
        rw [getD_prefix hpre p hpl]
        exact this
theorem crash_one (keep : List Int) (torn : Int) (f : Int → Option (List UInt8)) (H : List UInt8) : crashed keep torn 0 f [(0, H)] = put f 0 H ∨ crashed keep torn 0 f [(0, H)] = put f 0 (H.take 256 ++ (sk f 0).drop 256) ∨ crashed keep torn 0 f [(0, H)] = f := by
  show crashed keep torn 1 _ [] = _ ∨ _
  simp only [crashed]
  split
  · exact .inl rfl
  · split
    · exact .inr (.inl rfl)
    · exact .inr (.inr rfl)
/-- a commit: done, or fallen with the old log or the new one -/
theorem commit_spec {d : Dev} {n : Nat} {f : Int → Option (List UInt8)} {g g' : Lg} {sec : Nat} (hn : 1 ≤ n) (hd : On d n f []) (hl : ∀ k, (sk f k).length = 512) (hw : Wf n g) (hw' : Wf n g') (ht : tells n f g) (hway : Way g g' sec) :
    let r := commitD d (dataW n g'.region sec g'.buf) (header g'.region g'.base g'.buf.length g'.all.length)
    ∃ f', (∀ k, (sk f' k).length = 512) ∧ r.1.sectors = n ∧ r.1.safe = f' ∧ r.1.cache = [] ∧
      ((r.2 = 0 ∧ r.1.off = false ∧ tells n f' g') ∨ (r.2 = 7 ∧ r.1.off = true ∧ (tells n f' g ∨ tells n f' g'))) := by
  intro r
  have hok := dataW_ok hw'.reg hw'.fits (sec := sec)
  have hold := dataW_old (S0 := sk f 0) hw hw' hway
  have hlen : OkW (fun _ _ _ => True) (dataW n g'.region sec g'.buf) := fun x hx => ⟨(hok x hx).2.2, fun _ _ => trivial⟩
  have hnew := tells_new hl hw hw' ht hway
  have hP := Pg.all hl ht
  -- the data's writes have fallen
  have fell : ∀ (d1 : Dev) (c : List (Int × List UInt8)), (∀ x ∈ c, x ∈ dataW n g'.region sec g'.buf) → Fell d1 n f c → ∃ f', (∀ k, (sk f' k).length = 512) ∧ d1.safe = f' ∧ tells n f' g := by
    intro d1 c hc h
    obtain ⟨keep, torn, hs⟩ := h.safe
    have h1 := hP.crashed keep torn c 0 f (fun x hx => hold x (hc x hx))
    exact ⟨_, all_len h1, hs, (Pg.tells hl ht h1).1⟩
  have hH : (header g'.region g'.base g'.buf.length g'.all.length).length = 512 := header_len _ _ _ _
  have hfl : ∀ k, (sk (flushed f (dataW n g'.region sec g'.buf)) k).length = 512 := all_len ((len_all hl).flushed _ f hlen)
  have hPf := hP.flushed _ f hold
  obtain ⟨htf, h0f⟩ := Pg.tells hl ht hPf
  have hfn : ∀ k, (sk (put (flushed f (dataW n g'.region sec g'.buf)) 0 (header g'.region g'.base g'.buf.length g'.all.length)) k).length = 512 := all_len ((len_all hfl).put hH (fun _ _ => trivial))
  have e : r = commitD d (dataW n g'.region sec g'.buf) (header g'.region g'.base g'.buf.length g'.all.length) := rfl
  unfold commitD at e
  have hwr := hd.wrs (dataW n g'.region sec g'.buf) d [] hok
  rw [List.nil_append] at hwr
  rcases hwr with ⟨a1, a2⟩ | ⟨c', a0, a1, a2⟩
  · simp only [a2] at e
    rw [if_neg (by decide)] at e
    rcases a1.flush with ⟨b1, b2⟩ | ⟨b1, b2⟩
    · simp only [b2] at e
      rw [if_neg (by decide)] at e
      rcases b1.write 0 _ (by decide) (by omega) hH with ⟨c1, c2⟩ | ⟨c1, c2⟩
      · simp only [c2] at e
        rw [if_neg (by decide)] at e
        rcases c1.flush with ⟨d1, d2⟩ | ⟨d1, d2⟩
        · simp only [d2] at e
          rw [if_neg (by decide)] at e
          rw [e]
          refine ⟨_, hfn, d1.n, d1.safe, d1.cache, .inl ⟨rfl, d1.off, hnew⟩⟩
        · simp only [d2] at e
          rw [if_pos (by decide)] at e
          rw [e]
          obtain ⟨keep, torn, hs⟩ := d1.safe
          rw [List.nil_append] at hs
          rcases crash_one keep torn (flushed f (dataW n g'.region sec g'.buf)) (header g'.region g'.base g'.buf.length g'.all.length) with h | h | h
          · rw [h] at hs
            exact ⟨_, hfn, d1.n, hs, d1.cache, .inr ⟨rfl, d1.off, .inr hnew⟩⟩
          · have htorn : (header g'.region g'.base g'.buf.length g'.all.length).take 256 ++ (sk (flushed f (dataW n g'.region sec g'.buf)) 0).drop 256 = header g'.region g'.base g'.buf.length g'.all.length := by
              have hz : (sk (flushed f (dataW n g'.region sec g'.buf)) 0).drop 256 = List.replicate 256 0 := by
                rw [h0f]
                rcases ht.1 with ⟨h, _⟩ | h
                · change sk f 0 = _ at h
                  rw [h, List.drop_replicate]
                · change sk f 0 = _ at h
                  rw [h, header_tail]
              rw [hz, ← header_tail g'.region g'.base g'.buf.length g'.all.length, List.take_append_drop]
            rw [h, htorn] at hs
            exact ⟨_, hfn, d1.n, hs, d1.cache, .inr ⟨rfl, d1.off, .inr hnew⟩⟩
          · rw [h] at hs
            exact ⟨_, hfl, d1.n, hs, d1.cache, .inr ⟨rfl, d1.off, .inl htf⟩⟩
      · simp only [c2] at e
        rw [if_pos (by decide)] at e
        rw [e]
        obtain ⟨keep, torn, hs⟩ := c1.safe
        exact ⟨_, hfl, c1.n, hs, c1.cache, .inr ⟨rfl, c1.off, .inl htf⟩⟩
    · simp only [b2] at e
      rw [if_pos (by decide)] at e
      rw [e]
      obtain ⟨f', h1, h2, h3⟩ := fell _ _ (fun x hx => hx) b1
      exact ⟨f', h1, b1.n, h2, b1.cache, .inr ⟨rfl, b1.off, .inl h3⟩⟩
  · simp only [a2] at e
    rw [if_pos (by decide)] at e
    rw [e]
    obtain ⟨f', h1, h2, h3⟩ := fell _ _ (fun x hx => a0.subset hx) a1
    exact ⟨f', h1, a1.n, h2, a1.cache, .inr ⟨rfl, a1.off, .inl h3⟩⟩
end WalMath
/- What was written ahead, plain: the writes of a put, one after the other. -/
namespace WalMath
set_option linter.unusedVariables false
set_option linter.unusedSimpArgs false
theorem dataW_end {n r sec : Nat} {b : List UInt8} (h : b.length ≤ sec * 512) : dataW n r sec b = [] := by
  unfold dataW
  rw [show (b.length + 511) / 512 - sec = 0 by omega]
  rfl
theorem dataW_step {n r sec : Nat} {b : List UInt8} (h : sec * 512 < b.length) : dataW n r sec b = (((frm n r + sec : Nat) : Int), blk b sec) :: dataW n r (sec + 1) b := by
  unfold dataW
  obtain ⟨m, hm⟩ : ∃ m, (b.length + 511) / 512 - sec = m + 1 := ⟨(b.length + 511) / 512 - sec - 1, by omega⟩
  rw [hm, show (b.length + 511) / 512 - (sec + 1) = m by omega, List.range_succ_eq_map, List.map_cons, List.map_map]
  congr 1
  apply List.map_congr_left
  intro j _
  simp only [Function.comp, Nat.succ_eq_add_one]
  rw [show sec + (j + 1) = sec + 1 + j by omega]
end WalMath
