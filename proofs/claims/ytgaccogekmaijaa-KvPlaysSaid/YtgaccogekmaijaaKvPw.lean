/- The law KvPlays, walked: the specifications of the regions' calls. -/
import Derived.Test.YtgaccogekmaijaaKvPj
namespace Go.Proofs.Ytgaccogekmaijaa
open Go.RowKit Go.Maps
set_option linter.unusedVariables false
set_option linter.unusedSimpArgs false
attribute [local irreducible] wpR relOp Stu.wpR Stu.relOp
def StB (U : World → Prop) : Prop := ∀ W W', U W → CB W W' → U W'
/-- a turning call with a known answer -/
def tvS (B : Nat) (v0 : Value) (U : World → Prop) (hU : StB U) : Stu.SpU (GT B) (Gs B) := ⟨true, fun _ v => v = v0, fun _ _ _ => True, fun _ W => U W, fun _ _ _ _ _ _ => trivial, fun _ _ _ h hg => hU _ _ h hg.1⟩
/-- a turning call whose answer is a row -/
def trS (B n : Nat) (Q : Value → World → Prop) (hQ : ∀ v W W', Q v W → CB W W' → Q v W') : Stu.SpU (GT B) (Gs B) := ⟨true, fun _ v => shpn n v, fun _ _ _ => True, fun v W => Q v W, fun _ _ _ _ _ _ => trivial, fun v W W' h hg => hQ v W W' h hg.1⟩
/-- a turning call whose answer are bytes -/
def tbS (B n : Nat) (l : List UInt8) (U : World → Prop) (hU : StB U) : Stu.SpU (GT B) (Gs B) := ⟨true, fun _ v => shpn n v, fun _ v W => Sl W v l, fun _ W => U W, fun _ v W W' h hg => Sl.gt hg h, fun _ _ _ h hg => hU _ _ h hg.1⟩
def strS (B : Nat) (z : ByteArray) : Stu.SpU (GT B) (Gs B) := ⟨false, fun _ v => v = .string z, fun _ _ _ => True, fun _ _ => True, fun _ _ _ _ _ _ => trivial, fun _ _ _ _ _ => trivial⟩
theorem Gs.gt {B : Nat} (W W' : World) (h : Gs B W W') : GT B W W' := GT.of_below h.1 h.2
theorem CB.refl (W : World) : CB W W := Below.refl _ _
theorem CB.trans {a b c : World} (h : CB a b) (k : CB b c) : CB a c := below_add h k
theorem CB.gt {B : Nat} (W W' : World) (h : CB W W') (hB : B ≤ W.heap.size) : GT B W W' := GT.of_below h hB
theorem J2.st {w0 : World} {B g r N : Nat} {L1 L2 : List KvMath.Ent} : StB (fun W => J2 w0 W B g r N L1 L2) := fun _ _ h k => h.below k
def JP (w0 : World) (B g r N : Nat) (L1 L2 : List KvMath.Ent) (xs : List PutD) (v : Value) (W : World) : Prop := J2 w0 W B g r N L1 L2 ∧ ∃ b, PutsG (RO w0) W b v xs
theorem JP.st {w0 : World} {B g r N : Nat} {L1 L2 : List KvMath.Ent} {xs : List PutD} : ∀ v W W', JP w0 B g r N L1 L2 xs v W → CB W W' → JP w0 B g r N L1 L2 xs v W' := fun v W W' h k => by
  obtain ⟨h1, b, h2⟩ := h
  exact ⟨h1.below k, b, h2.below k (fun _ _ h => h)⟩
theorem J2.ge {w0 w : World} {B g r N : Nat} {L1 L2 : List KvMath.Ent} (h : J2 w0 w B g r N L1 L2) : B ≤ w.heap.size := by obtain ⟨_, _, _, _, _, _, _, h4⟩ := h.1; exact h4
theorem J2.bel {w0 w : World} {B g r N : Nat} {L1 L2 : List KvMath.Ent} (h : J2 w0 w B g r N L1 L2) : Below B w0 w := by obtain ⟨_, _, _, _, _, _, h3, _⟩ := h.1; exact h3
theorem str_rel {B n : Nat} {W : World} {l : List UInt8} {z : ByteArray} {A : Option Addr} {c : Nat} {o : Oper} {a : Act} {x : Operand} (ho : o.op = .convert 32 9 x) (hx : a.eval x = .slice A n c) (hs : Sl W (.slice A n c) l) (hz : z = ⟨l.toArray⟩) (hB : B ≤ W.heap.size) (xs : List Value) :
    Stu.relUpon Try.prog (Gs B) W (fun v W' => (strS B z).p xs v ∧ (strS B z).q xs v W') ((execOp a.eval o).run Try.prog W) := by
  obtain ⟨A', c', e, _, h3⟩ := hs.rd
  injection e with e1 e2 e3
  subst e1
  have hr := h3.str n c e2.symm
  unfold execOp
  simp only [ho, Sem.run_bind, Sem.run_pure, Result.andThen_ok, hx, hr]
  exact ⟨⟨Below.refl _ _, hB⟩, by rw [hz]; rfl, trivial⟩
theorem J2.mono {w0 w : World} {B g r N N' : Nat} {L1 L2 : List KvMath.Ent} (h : J2 w0 w B g r N L1 L2) (hn : N ≤ N') : J2 w0 w B g r N' L1 L2 := by
  obtain ⟨⟨m, vk, f, n, h1, h2, h3⟩, h4⟩ := h
  exact ⟨⟨m, vk, f, n, h1, Nat.le_trans h2 hn, h3⟩, h4⟩
/-- the calls of a round's first part -/
structure Rnd (wB : World) (B g r N n ne : Nat) (L L' : List KvMath.Ent) (xs : List PutD) (Ap : Option Addr) (cp : Nat) (er : Int) (be : List UInt8) : Prop where
  commit : ∀ W, J2 wB W B g r N L L → Calls Try.prog 11 #[.pointer (some ⟨g, 0, none⟩), .slice Ap n cp] W fun e w' => e = .returned (.int .i64 er) ∧ J2 wB w' B g r (N + n) L' L ∧ GT B W w'
  own : ∀ W L1 L2 N, J2 wB W B g r N L1 L2 → Calls Try.prog 19 #[.slice Ap n cp] W fun e w' => ∃ v, e = .returned v ∧ shpn n v ∧ JP wB B g r N L1 L2 xs v w' ∧ GT B W w'
  rcommit : ∀ W A c, JP wB B g r (N + n) L' L xs (.slice A n c) W → Calls Try.prog 18 #[.pointer (some ⟨r, 0, none⟩), .slice A n c] W fun e w' => e = .returned (.int .i64 er) ∧ J2 wB w' B g r (N + n) L' L' ∧ GT B W w'
  enc : ∀ W, J2 wB W B g r (N + n) L' L' → Calls Try.prog 17 #[.slice Ap n cp] W fun e w' => ∃ v, e = .returned v ∧ shpn ne v ∧ Sl w' v be ∧ J2 wB w' B g r (N + n) L' L' ∧ GT B W w'
  renc : ∀ W A c, JP wB B g r (N + n) L' L' xs (.slice A n c) W → Calls Try.prog 20 #[.slice A n c] W fun e w' => ∃ v, e = .returned v ∧ shpn ne v ∧ Sl w' v be ∧ J2 wB w' B g r (N + n) L' L' ∧ GT B W w'
theorem rnd_of {wB : World} {g r N : Nat} {L : List KvMath.Ent} {xs : List PutD} {Ap : Option Addr} {cp : Nat} (hr : Row KPut 3 wB Ap xs) (hc : xs.length ≤ cp) (hn : xs.length ≤ 8) (hz : ∀ x ∈ xs, x.key.size ≤ 300 ∧ x.val.length ≤ 200) (hN : N ≤ 10000) (hL : L.length ≤ 10000) (hri : KvMath.Rise L) :
    Rnd wB wB.heap.size g r N xs.length (if xs.all PutD.good then KvMath.encB (xs.map PutD.ent) else []).length L (if xs.all PutD.good then KvMath.all L (xs.map PutD.ent) else L) xs Ap cp (if xs.all PutD.good then 0 else 1) (if xs.all PutD.good then KvMath.encB (xs.map PutD.ent) else []) := by
  have hz' : ∀ x ∈ xs, x.key.size ≤ 140737488351232 ∧ x.val.length ≤ 140737488351232 := fun x hx => by have := hz x hx; omega
  refine ⟨fun W h => ?_, fun W L1 L2 N h => ?_, fun W A c h => ?_, fun W h => ?_, fun W A c h => ?_⟩
  · exact j2_commit h Ap cp xs (PutS.of_row hr h.bel (Nat.le_refl _)) hc (by omega) (by omega) (by omega)
  · refine (kv_own wB W h.bel Ap cp xs hr hc (by omega)).mono ?_
    rintro e w' ⟨v, rfl, h1, h2⟩
    exact ⟨v, rfl, h1.shape rfl, ⟨h.below h2, _, h1⟩, GT.of_below h2 h.ge⟩
  · obtain ⟨h1, b, h2⟩ := h
    exact j2_rcommit h1 hri h1.bel (Nat.le_refl _) A c xs h2 hz' (by omega) (by omega)
  · refine (kv_encode W Ap cp xs (puts_below hr h.bel) hc (by omega)).mono ?_
    rintro e w' ⟨v, rfl, h1, h2⟩
    obtain ⟨A, c, rfl, h3, _⟩ := h1.rd
    exact ⟨_, rfl, ⟨A, c, rfl, h3⟩, h1.sl, h.below h2, GT.of_below h2 h.ge⟩
  · obtain ⟨h1, b, h2⟩ := h
    obtain ⟨A', c', e, h4, h3⟩ := h2.row (fun v l ⟨A, c, e, h1', h2'⟩ => ⟨A, c, e, h1', h2' W h1.bel⟩) hz'
    injection e with e1 e2 e3
    subst e1; subst e3
    refine (ref_encode W A c xs h3 h4 (by omega)).mono ?_
    rintro e w' ⟨v, rfl, h5, h6⟩
    obtain ⟨A, c, rfl, h7, _⟩ := h5.rd
    exact ⟨_, rfl, ⟨A, c, rfl, h7⟩, h5.sl, h1.below h6, GT.of_below h6 h1.ge⟩
/-! regions in which all that there is stays -/
def cvaS (v0 : Value) : Stu.SpU CB CB := ⟨false, fun _ v => v = v0, fun _ _ _ => True, fun _ _ => True, fun _ _ _ _ _ _ => trivial, fun _ _ _ _ _ => trivial⟩
def crcS (n : Nat) (R : List KvMath.Ent) : Stu.SpU CB CB := ⟨false, fun _ v => shpn n v, fun _ v W => ∃ b, Recs W b 34 v R, fun _ _ => True, fun _ _ _ _ h hg => by
  obtain ⟨b, h⟩ := h
  exact ⟨b, h.below hg⟩, fun _ _ _ _ _ => trivial⟩
theorem orow_below {w w1 : World} {B e size n : Nat} {v : Value} {xs : List Value} (h : w.ownsRow B e size v n xs) (hb : Below w.heap.size w w1) : w1.ownsRow B e size v n xs := orow_stay h (fun k cs fr _ hk => (hb.block k (Array.getElem?_eq_some_iff.1 hk).1).trans hk)
def crrS (R : List KvMath.Ent) (n : Nat) : Stu.SpU CB CB := ⟨false, fun _ v => shpn n v, fun _ v W => ∃ b, W.ownsRow b 82 2 v R.length (pvl R), fun _ _ => True, fun _ _ _ _ h hg => by
  obtain ⟨b, h⟩ := h
  exact ⟨b, orow_below h hg⟩, fun _ _ _ _ _ => trivial⟩
def cslS (n : Nat) (l : List UInt8) : Stu.SpU CB CB := ⟨false, fun _ v => shpn n v, fun _ v W => Sl W v l, fun _ _ => True, fun _ _ _ _ h hg => h.below hg, fun _ _ _ _ _ => trivial⟩
theorem cstr_rel {n : Nat} {W : World} {l : List UInt8} {z : ByteArray} {A : Option Addr} {c : Nat} {o : Oper} {a : Act} {x : Operand} (ho : o.op = .convert 32 9 x) (hx : a.eval x = .slice A n c) (hs : Sl W (.slice A n c) l) (hz : z = ⟨l.toArray⟩) (xs : List Value) :
    Stu.relUpon Try.prog CB W (fun v W' => (cvaS (.string z)).p xs v ∧ (cvaS (.string z)).q xs v W') ((execOp a.eval o).run Try.prog W) := by
  obtain ⟨A', c', e, _, h3⟩ := hs.rd
  injection e with e1 e2 e3
  subst e1
  have hr := h3.str n c e2.symm
  unfold execOp
  simp only [ho, Sem.run_bind, Sem.run_pure, Result.andThen_ok, hx, hr]
  exact ⟨Below.refl _ _, by rw [hz]; rfl, trivial⟩
/-- the calls of a round's second part -/
structure Rnd2 (wB : World) (B g r N nL nr nb : Nat) (L R : List KvMath.Ent) (fr to : ByteArray) (most : Int) (bb : List UInt8) : Prop where
  len : ∀ W, J2 wB W B g r N L L → Calls Try.prog 13 #[.pointer (some ⟨g, 0, none⟩)] W fun e w' => e = .returned (.int .i64 nL) ∧ CB W w'
  rng : ∀ W, J2 wB W B g r N L L → Calls Try.prog 12 #[.pointer (some ⟨g, 0, none⟩), .string fr, .string to, .int .i64 most] W fun e w' => ∃ v, e = .returned v ∧ shpn nr v ∧ (∃ b, Recs w' b 34 v R) ∧ CB W w'
  rrng : ∀ W, J2 wB W B g r N L L → Calls Try.prog 24 #[.pointer (some ⟨r, 0, none⟩), .string fr, .string to, .int .i64 most] W fun e w' => ∃ v, e = .returned v ∧ shpn nr v ∧ (∃ b, w'.ownsRow b 82 2 v R.length (pvl R)) ∧ CB W w'
  prs : ∀ W va vb, (∃ b, Recs W b 34 va R) → (∃ b, W.ownsRow b 82 2 vb R.length (pvl R)) → Calls Try.prog 23 #[va, vb] W fun e w' => e = .returned (.bool true) ∧ CB W w'
  byt : ∀ W, J2 wB W B g r N L L → Calls Try.prog 14 #[.pointer (some ⟨g, 0, none⟩)] W fun e w' => ∃ v, e = .returned v ∧ shpn nb v ∧ Sl w' v bb ∧ CB W w'
  rbyt : ∀ W, J2 wB W B g r N L L → Calls Try.prog 25 #[.pointer (some ⟨r, 0, none⟩)] W fun e w' => ∃ v, e = .returned v ∧ shpn nb v ∧ Sl w' v bb ∧ CB W w'
theorem rnd2_of {wB : World} {B g r N : Nat} {L : List KvMath.Ent} (fr to : ByteArray) (most : Int) (hL : L.length ≤ 1000) (hri : KvMath.Rise L) (hz : ∀ e ∈ L, 0 < e.1.size ∧ e.1.size ≤ 200 ∧ e.2.length ≤ 200000) :
    Rnd2 wB B g r N L.length (KvMath.range L fr to most).length (bytesB L).length L (KvMath.range L fr to most) fr to most (bytesB L) := by
  have hrl : (KvMath.range L fr to most).length ≤ 1000 := by
    unfold KvMath.range
    rw [List.length_take]
    have h1 : ((L.drop (KvMath.pos L fr)).takeWhile (KvMath.inR to)).length ≤ (L.drop (KvMath.pos L fr)).length := (List.takeWhile_sublist _).length_le
    rw [List.length_drop] at h1
    omega
  refine ⟨fun W h => ?_, fun W h => ?_, fun W h => ?_, fun W va vb h1 h2 => ?_, fun W h => ?_, fun W h => ?_⟩
  · refine (kv_len h.1).mono ?_
    rintro e w' ⟨rfl, rfl⟩
    exact ⟨rfl, Below.refl _ _⟩
  · refine (kv_range h.1 fr to most (by omega)).mono ?_
    rintro e w' ⟨v, rfl, h1, h2⟩
    obtain ⟨A, c, rfl, h3, _⟩ := h1.rd
    exact ⟨_, rfl, ⟨A, c, rfl, h3⟩, ⟨_, h1⟩, h2⟩
  · refine (ref_range h.2 hri (by omega) fr to most).mono ?_
    rintro e w' ⟨v, rfl, h1, h2⟩
    exact ⟨_, rfl, shpn.of_row h1, ⟨_, h1⟩, h2⟩
  · obtain ⟨b, h1⟩ := h1
    obtain ⟨b', h2⟩ := h2
    refine (kv_pairs W b b' va vb _ _ h1 h2 (by omega) (by omega)).mono ?_
    rintro e w' ⟨rfl, h3⟩
    exact ⟨by simp, h3⟩
  · refine (kv_bytes h.1 hL).mono ?_
    rintro e w' ⟨v, rfl, h1, h2⟩
    obtain ⟨A, c, rfl, h3, _⟩ := h1.rd
    exact ⟨_, rfl, ⟨A, c, rfl, h3⟩, h1, h2⟩
  · refine (ref_bytes h.2 hL (fun p hp => (hz p hp).2)).mono ?_
    rintro e w' ⟨v, rfl, h1, h2⟩
    obtain ⟨A, c, rfl, h3, _⟩ := h1.rd
    exact ⟨_, rfl, ⟨A, c, rfl, h3⟩, h1, h2⟩
end Go.Proofs.Ytgaccogekmaijaa
