/- The reference's small functions. -/
import Derived.Test.YtgaccogekmaijaaDoorCoDc
import Derived.Test.YtgaccogekmaijaaDoorCoRp
namespace CodeMath
theorem nib_eq (c : UInt8) : digV c = if 48 ≤ c.toNat ∧ c.toNat ≤ 57 then (c.toNat : Int) - 48 else if 65 ≤ c.toNat ∧ c.toNat ≤ 70 then (c.toNat : Int) - 55 else if 97 ≤ c.toNat ∧ c.toNat ≤ 102 then (c.toNat : Int) - 87 else -1 := by
  have key : ∀ n : Fin 256, digV (UInt8.ofNat n.val) = if 48 ≤ (UInt8.ofNat n.val).toNat ∧ (UInt8.ofNat n.val).toNat ≤ 57 then ((UInt8.ofNat n.val).toNat : Int) - 48 else if 65 ≤ (UInt8.ofNat n.val).toNat ∧ (UInt8.ofNat n.val).toNat ≤ 70 then ((UInt8.ofNat n.val).toNat : Int) - 55 else if 97 ≤ (UInt8.ofNat n.val).toNat ∧ (UInt8.ofNat n.val).toNat ≤ 102 then ((UInt8.ofNat n.val).toNat : Int) - 87 else -1 := by decide +kernel
  have h := key ⟨c.toNat, c.toNat_lt⟩
  rw [show UInt8.ofNat (⟨c.toNat, c.toNat_lt⟩ : Fin 256).val = c from by simp] at h
  exact h
end CodeMath
namespace Go.Proofs.YtgaccogekmaijaaDoor
open Go.RowKit Go.Maps
set_option linter.unusedVariables false
set_option linter.unusedSimpArgs false
theorem u8_ne {x : UInt8} {k : Nat} (n : UInt8) (hk : n.toNat = k) (h : x ≠ n) : ((x.toNat : Int) == (k : Int)) = false := by
  rw [beq_eq_false_iff_ne]
  intro e
  exact h (UInt8.toNat_inj.1 (by omega))
theorem u8_eq {x : UInt8} {k : Nat} (n : UInt8) (hk : n.toNat = k) (h : x = n) : ((x.toNat : Int) == (k : Int)) = true := by
  rw [h, hk]; simp
theorem u8_bne {x : UInt8} {k : Nat} (n : UInt8) (hk : n.toNat = k) (h : x ≠ n) : ((x.toNat : Int) != (k : Int)) = true := by
  rw [bne, u8_ne n hk h]; rfl
theorem letters_fn (w : World) : Calls Tryd.prog 29 #[] w fun e w' => e = .returned (.string lettersS) ∧ w' = w := by
  go_enter Tryd.func29, Tryd.ntmps29
  go_wp2
  go_ret
  exact ⟨rfl, rfl⟩
set_option maxRecDepth 20000 in
theorem nib_any (w : World) (x : UInt8) : Calls Tryd.prog 31 #[.int .u8 (x.toNat : Int)] w fun e w' => e = .returned (.int .i64 (CodeMath.digV x)) ∧ w' = w := by
  have hy := x.toNat_lt
  have hd := CodeMath.nib_eq x
  by_cases a1 : (48 : Int) ≤ x.toNat
  · by_cases a2 : (x.toNat : Int) ≤ 57
    · rw [if_pos (by omega)] at hd
      have q1 : IntKind.u8.wrap ((x.toNat : Int) - 48) = (x.toNat : Int) - 48 := by rw [IntKind.wrap_u8]; omega
      have q2 : IntKind.i64.wrap ((x.toNat : Int) - 48) = (x.toNat : Int) - 48 := by rw [IntKind.wrap_i64]; omega
      have HD := Lib.hid hd; clear hd
      go_enter Tryd.func31, Tryd.ntmps31
      go_wp2
      go_ret
      exact ⟨by rw [HD.out]; rfl, rfl⟩
    · by_cases a3 : (65 : Int) ≤ x.toNat
      · by_cases a4 : (x.toNat : Int) ≤ 70
        · rw [if_neg (by omega), if_pos (by omega)] at hd
          have q1 : IntKind.u8.wrap ((x.toNat : Int) - 65) = (x.toNat : Int) - 65 := by rw [IntKind.wrap_u8]; omega
          have q2 : IntKind.i64.wrap ((x.toNat : Int) - 65) = (x.toNat : Int) - 65 := by rw [IntKind.wrap_i64]; omega
          have q3 : IntKind.i64.wrap ((x.toNat : Int) - 65 + 10) = (x.toNat : Int) - 55 := by rw [IntKind.wrap_i64]; omega
          have HD := Lib.hid hd; clear hd
          go_enter Tryd.func31, Tryd.ntmps31
          go_wp2
          go_ret
          exact ⟨by rw [HD.out]; first | rfl | exact ret_int (by omega), rfl⟩
        · by_cases a5 : (97 : Int) ≤ x.toNat
          · by_cases a6 : (x.toNat : Int) ≤ 102
            · rw [if_neg (by omega), if_neg (by omega), if_pos (by omega)] at hd
              have q1 : IntKind.u8.wrap ((x.toNat : Int) - 97) = (x.toNat : Int) - 97 := by rw [IntKind.wrap_u8]; omega
              have q2 : IntKind.i64.wrap ((x.toNat : Int) - 97) = (x.toNat : Int) - 97 := by rw [IntKind.wrap_i64]; omega
              have q3 : IntKind.i64.wrap ((x.toNat : Int) - 97 + 10) = (x.toNat : Int) - 87 := by rw [IntKind.wrap_i64]; omega
              have HD := Lib.hid hd; clear hd
              go_enter Tryd.func31, Tryd.ntmps31
              go_wp2
              go_ret
              exact ⟨by rw [HD.out]; first | rfl | exact ret_int (by omega), rfl⟩
            · rw [if_neg (by omega), if_neg (by omega), if_neg (by omega)] at hd
              have HD := Lib.hid hd; clear hd
              go_enter Tryd.func31, Tryd.ntmps31
              go_wp2
              go_ret
              exact ⟨by rw [HD.out]; rfl, rfl⟩
          · rw [if_neg (by omega), if_neg (by omega), if_neg (by omega)] at hd
            have HD := Lib.hid hd; clear hd
            go_enter Tryd.func31, Tryd.ntmps31
            go_wp2
            go_ret
            exact ⟨by rw [HD.out]; rfl, rfl⟩
      · have a5 : ¬ (97 : Int) ≤ x.toNat := by omega
        rw [if_neg (by omega), if_neg (by omega), if_neg (by omega)] at hd
        have HD := Lib.hid hd; clear hd
        go_enter Tryd.func31, Tryd.ntmps31
        go_wp2
        go_ret
        exact ⟨by rw [HD.out]; rfl, rfl⟩
  · have a3 : ¬ (65 : Int) ≤ x.toNat := by omega
    have a5 : ¬ (97 : Int) ≤ x.toNat := by omega
    rw [if_neg (by omega), if_neg (by omega), if_neg (by omega)] at hd
    have HD := Lib.hid hd; clear hd
    go_enter Tryd.func31, Tryd.ntmps31
    go_wp2
    go_ret
    exact ⟨by rw [HD.out]; rfl, rfl⟩
theorem crlf_short (l : List UInt8) (h : l.length ≤ 1) : CodeMath.crlfAt l = false := by
  match l, h with
  | [], _ => rfl
  | [_], _ => rfl
set_option maxRecDepth 20000 in
theorem crlf_any (w : World) (A : Option Addr) (m c : Nat) (b : List UInt8) (i : Nat) (hr : Rd w A b) (hm : b.length = m) (hi : i ≤ 1000000000) :
    Calls Tryd.prog 30 #[.slice A m c, .int .i64 (i : Int)] w fun e w' => e = .returned (.bool (CodeMath.crlfAt (b.drop i))) ∧ w' = w := by
  have hwi : IntKind.i64.wrap ((i : Int) + 1) = (i : Int) + 1 := by rw [IntKind.wrap_i64]; omega
  by_cases hlt : i + 1 < m
  · have hlti : (i : Int) + 1 < m := by omega
    have hlt0 : (i : Int) < m := by omega
    obtain ⟨a, rfl, x0⟩ := hr.at_ i (by omega)
    obtain ⟨a', ea, x1⟩ := hr.at_ (i + 1) (by omega)
    obtain rfl := Option.some.inj ea
    rw [show a.add (i + 1) = ⟨a.block, a.off + (i + 1), none⟩ by simp [Addr.add]] at x1
    have hd : b.drop i = b[i] :: b[i + 1] :: b.drop (i + 2) := by
      rw [List.drop_eq_getElem_cons (by omega : i < b.length), List.drop_eq_getElem_cons (by omega : i + 1 < b.length)]
    generalize b[i] = x at *
    generalize b[i + 1] = y at *
    have hcr : CodeMath.crlfAt (b.drop i) = (x == 13 && y == 10) := by rw [hd]; rfl
    rw [hcr]
    clear hcr hd hr ea hm
    by_cases hx : x = 13
    · have hxb : ((x.toNat : Int) == 13) = true := u8_eq 13 rfl hx
      by_cases hy : y = 10
      · have hyb : ((y.toNat : Int) == 10) = true := u8_eq 10 rfl hy
        have HX : Hid ((x == 13 && y == 10) = true) := Lib.hid (by rw [hx, hy]; rfl)
        clear hx hy
        go_enter Tryd.func30, Tryd.ntmps30
        go_wp2
        go_ret
        exact ⟨by rw [HX.out]; rfl, rfl⟩
      · have hyb : ((y.toNat : Int) == 10) = false := u8_ne 10 rfl hy
        have HX : Hid ((x == 13 && y == 10) = false) := Lib.hid (by simp [hy])
        clear hx hy
        go_enter Tryd.func30, Tryd.ntmps30
        go_wp2
        go_ret
        exact ⟨by rw [HX.out]; rfl, rfl⟩
    · have hxb : ((x.toNat : Int) == 13) = false := u8_ne 13 rfl hx
      have HX : Hid ((x == 13 && y == 10) = false) := Lib.hid (by simp [hx])
      clear hx
      go_enter Tryd.func30, Tryd.ntmps30
      go_wp2
      go_ret
      exact ⟨by rw [HX.out]; rfl, rfl⟩
  · have hlti : ¬ (i : Int) + 1 < m := by omega
    have HX : Hid (CodeMath.crlfAt (b.drop i) = false) := Lib.hid (crlf_short _ (by rw [List.length_drop, hm]; omega))
    clear hr hm
    go_enter Tryd.func30, Tryd.ntmps30
    go_wp2
    go_ret
    exact ⟨by rw [HX.out]; rfl, rfl⟩
end Go.Proofs.YtgaccogekmaijaaDoor
