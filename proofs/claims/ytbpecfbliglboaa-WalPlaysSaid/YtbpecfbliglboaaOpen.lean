/- What an argument reads as: out of the form's reading ('DataW.trod') a typed Lean value, kind by kind, with the bounds that the form's reach gives. Over any program. -/
import Derived.Test.YtbpecfbliglboaaFw
import Derived.ProofKit
import Derived.OpenShut
import Derived.ShutString
import Derived.ChangeOld
import Derived.SizedLaws
import Derived.Deep.Slices
namespace Go.Proofs.Ytbpecfbliglboaa
set_option linter.unusedVariables false
set_option linter.unusedSimpArgs false
open Go.RowKit
variable {P : Program}

/-- The elements xs lie from A on, sz cells each. -/
def Row {α : Type} (K : World → α → List Value → Prop) (sz : Nat) (w : World) (A : Option Addr) (xs : List α) : Prop :=
  0 < xs.length → ∃ a, A = some a ∧ ∀ j, (h : j < xs.length) → ∃ cs, cs.length = sz ∧ K w xs[j] cs ∧ ∀ i, (hi : i < cs.length) → w.cell? (a.add (j * sz + i)) = some cs[i]
def KInt (k : IntKind) (_ : World) (n : Int) (cs : List Value) : Prop := cs = [.int k n] ∧ (Lit.int k n).wf = true
def KByte (_ : World) (b : UInt8) (cs : List Value) : Prop := cs = [.int .u8 (b.toNat : Int)]
def KBool (_ : World) (b : Bool) (cs : List Value) : Prop := cs = [.bool b]
def KStr (_ : World) (s : ByteArray) (cs : List Value) : Prop := cs = [.string s] ∧ s.size ≤ 140737488351232
def KSlice {α : Type} (K : World → α → List Value → Prop) (sz bytes : Nat) (w : World) (xs : List α) (cs : List Value) : Prop :=
  ∃ A c, cs = [.slice A xs.length c] ∧ xs.length ≤ c ∧ c ≤ 9223372036854775807 ∧ xs.length * bytes ≤ 140737488351232 ∧ Row K sz w A xs

def Opn (P : Program) (t : TypeId) {α : Type} (K : World → α → List Value → Prop) : Prop :=
  ∀ (H : Type) (enc : TypeId × Value → H) (w : World) (held : Bool) (fuel : Nat) (cs : List Value) (x : DataW H × List MemPlace),
    DataW.trod enc P w 0 (fun _ => true) held fuel t cs = some x → (x.1.weights P t).all (· ≤ reachBytes) = true → ∃ y, K w y cs
theorem Opn.imp {t : TypeId} {α β : Type} {K : World → α → List Value → Prop} {K' : World → β → List Value → Prop} (h : Opn P t K) (hi : ∀ w x cs, K w x cs → ∃ y, K' w y cs) : Opn P t K' := by
  intro H enc w held fuel cs x hx hw
  obtain ⟨y, hy⟩ := h H enc w held fuel cs x hx hw
  exact hi w y cs hy
theorem Opn.int {t : TypeId} {k : IntKind} (ht : P.underlying t = some (.int k)) : Opn P t (KInt k) := by
  intro H enc w held fuel cs x hx _
  obtain ⟨n, rfl, _, hn⟩ := DataW.trod_int ht hx
  exact ⟨n, rfl, hn⟩
theorem Opn.byte {t : TypeId} (ht : P.underlying t = some (.int .u8)) : Opn P t KByte := by
  intro H enc w held fuel cs x hx _
  obtain ⟨n, rfl, _, hn⟩ := DataW.trod_int ht hx
  have hb := bounds_u8 hn
  refine ⟨UInt8.ofNat n.toNat, ?_⟩
  unfold KByte
  have e : (UInt8.ofNat n.toNat).toNat = n.toNat := by
    have h : (UInt8.ofNat n.toNat).toNat = n.toNat % 256 := rfl
    omega
  rw [e]
  congr 2
  omega
theorem Opn.bool {t : TypeId} (ht : P.underlying t = some .bool) : Opn P t KBool := by
  intro H enc w held fuel cs x hx _
  obtain ⟨b, rfl, _⟩ := DataW.trod_bool ht hx
  exact ⟨b, rfl⟩
theorem Opn.str {t : TypeId} (ht : P.underlying t = some .string) : Opn P t KStr := by
  intro H enc w held fuel cs x hx hw
  obtain ⟨s, rfl, rfl, hs⟩ := DataW.trod_string ht hx
  refine ⟨s, rfl, ?_⟩
  have := List.all_eq_true.1 hw s.data.toList.length (by simp [DataW.weights])
  have h2 : s.data.toList.length ≤ reachBytes := by simpa using this
  simpa [reachBytes] using h2
theorem weightsAll_mem {H : Type} {e : TypeId} {ds : List (DataW H)} {d : DataW H} (hd : d ∈ ds) : ∀ n ∈ d.weights P e, n ∈ DataW.weightsAll P e ds := by
  induction ds with
  | nil => cases hd
  | cons d0 ds ih =>
    intro n hn
    simp only [DataW.weightsAll, List.mem_append]
    rcases List.mem_cons.1 hd with rfl | hd
    · exact .inl hn
    · exact .inr (ih hd n hn)
theorem Opn.slice {t e : TypeId} {α : Type} {K : World → α → List Value → Prop} {sz bytes : Nat} (ht : P.underlying t = some (.slice e)) (hc : P.cellsOf e = sz) (hB : P.bytesOf e = bytes) (he : Opn P e K) : Opn P t (KSlice K sz bytes) := by
  intro H enc w held fuel cs x hx hw
  rcases Go.Deep.open_slice ht hx with ⟨rfl, rfl⟩ | ⟨a, len, cap, m, n, D, Pl, rfl, _, hl, hm, hmm, rfl, hel⟩
  · exact ⟨[], none, 0, rfl, by simp, by simp, by simp, fun h => absurd h (by simp)⟩
  · have hcm : m = cap := by simpa using hmm
    subst hcm
    simp only [DataW.weights, ht] at hw
    have hall := List.all_eq_true.1 hw
    have hsz : ((List.range len).map D).length + ((List.range (m - len)).map fun j => D (len + j)).length = m := by simp; omega
    have h0 : m * bytes ≤ reachBytes := by
      have := hall _ (List.mem_cons_self)
      rw [hsz, hB] at this
      simpa using this
    have hone : ∀ j, j < len → ∃ y cs', cs'.length = sz ∧ K w y cs' ∧ ∀ i, (hi : i < cs'.length) → w.cell? (a.add (j * sz + i)) = some cs'[i] := by
      intro j hj
      obtain ⟨cs', h1, h2⟩ := hel j (by omega)
      rw [hc] at h1
      obtain ⟨_, h3, h4⟩ := World.cells?_some h1
      obtain ⟨y, hy⟩ := he H enc w held n cs' (D j, Pl j) h2 (List.all_eq_true.2 (fun k hk => hall k (List.mem_cons_of_mem _ (List.mem_append_left _ (weightsAll_mem (List.mem_map.2 ⟨j, List.mem_range.2 hj, rfl⟩) k hk)))))
      refine ⟨y, cs', h3, hy, fun i hi => ?_⟩
      have h5 := h4 i (by omega)
      rw [Go.Deep.add_add] at h5
      rw [h5, List.getElem?_eq_getElem hi]
    have hex : ∃ ys : List α, ys.length = len ∧ ∀ j, (h : j < ys.length) → ∃ cs', cs'.length = sz ∧ K w ys[j] cs' ∧ ∀ i, (hi : i < cs'.length) → w.cell? (a.add (j * sz + i)) = some cs'[i] := by
      have : ∀ k, k ≤ len → ∃ ys : List α, ys.length = k ∧ ∀ j, (h : j < ys.length) → ∃ cs', cs'.length = sz ∧ K w ys[j] cs' ∧ ∀ i, (hi : i < cs'.length) → w.cell? (a.add (j * sz + i)) = some cs'[i] := by
        intro k
        induction k with
        | zero => exact fun _ => ⟨[], rfl, fun j h => absurd h (by simp)⟩
        | succ k ih =>
          intro hk
          obtain ⟨ys, h1, h2⟩ := ih (by omega)
          obtain ⟨y, hy⟩ := hone k (by omega)
          refine ⟨ys ++ [y], by simp [h1], fun j hj => ?_⟩
          by_cases e1 : j < ys.length
          · rw [List.getElem_append_left e1]; exact h2 j e1
          · have : j = k := by simp at hj; omega
            subst this
            rw [List.getElem_append_right (by omega)]
            simpa [h1] using hy
      exact this len (Nat.le_refl _)
    obtain ⟨ys, hyl, hys⟩ := hex
    refine ⟨ys, some a, m, by rw [hyl], by omega, by simpa [maxLen] using hm, ?_, fun _ => ⟨a, rfl, hys⟩⟩
    rw [hyl]
    exact Nat.le_trans (Nat.mul_le_mul_right _ hl) (by simpa [reachBytes] using h0)

/-- The fields of a struct, one behind the other. -/
def OpnF (P : Program) (fs : List Field) {α : Type} (K : World → α → List Value → Prop) : Prop :=
  ∀ (H : Type) (enc : TypeId × Value → H) (w : World) (held : Bool) (n : Nat) (cs : List Value) (xs : List (DataW H × List MemPlace)), xs.length = fs.length →
    (∀ (i : Nat) (f : Field), fs[i]? = some f → DataW.trod enc P w 0 (fun _ => true) held n f.type ((cs.drop f.offset).take (P.cellsOf f.type)) = xs[i]?) →
    (DataW.weightsEach P (fs.map (·.type)) (xs.map (·.1))).all (· ≤ reachBytes) = true → ∃ y, K w y cs
theorem OpnF.nil : OpnF P [] (fun _ (_ : Unit) _ => True) := fun _ _ _ _ _ _ _ _ _ _ => ⟨(), trivial⟩
theorem OpnF.cons {f : Field} {fs : List Field} {α β : Type} {K : World → α → List Value → Prop} {K2 : World → β → List Value → Prop} {sz : Nat} (hs : P.cellsOf f.type = sz) (h : Opn P f.type K) (h2 : OpnF P fs K2) :
    OpnF P (f :: fs) (fun w (x : α × β) cs => K w x.1 ((cs.drop f.offset).take sz) ∧ K2 w x.2 cs) := by
  intro H enc w held n cs xs hl hf hw
  match xs, hl with
  | x :: xs, hl =>
    simp only [List.map_cons, DataW.weightsEach, List.all_append, Bool.and_eq_true] at hw
    have h0 := hf 0 f rfl
    obtain ⟨y, hy⟩ := h H enc w held n _ x (by simpa using h0) hw.1
    obtain ⟨z, hz⟩ := h2 H enc w held n cs xs (by simpa using hl) (fun i g hg => by simpa using hf (i + 1) g (by simpa using hg)) hw.2
    exact ⟨(y, z), by rw [← hs]; exact hy, hz⟩
theorem Opn.struct {t : TypeId} {fs : Array Field} {α : Type} {K : World → α → List Value → Prop} {n : Nat} (ht : P.underlying t = some (.struct fs)) (hc : P.cellsOf t = n) (h : OpnF P fs.toList K) :
    Opn P t (fun w x cs => cs.length = n ∧ K w x cs) := by
  intro H enc w held fuel cs x hx hw
  obtain ⟨xs, m, _, rfl, hl, hlen, hf⟩ := DataW.trod_struct ht hx
  simp only [DataW.weights, ht] at hw
  obtain ⟨y, hy⟩ := h H enc w held m cs xs (by simpa using hlen) (fun i f hi => hf i f (by simpa using hi)) hw
  exact ⟨y, by rw [hl, hc], hy⟩

/-- An argument, opened. -/
theorem Opn.arg {t : TypeId} {α : Type} {K : World → α → List Value → Prop} (h : Opn P t K) {H : Type} {enc : TypeId × Value → H} {w : World} {held : Bool} {v : Value} {d : DataW H} {ps : List MemPlace} {ts : List TypeId} {ds : List (DataW H)} {j : Nat}
    (hv : DataW.Trod enc P w 0 (fun _ => true) held t v d ps) (hsz : (DataW.weightsEach P ts ds).all (· ≤ reachBytes) = true) (ht : ts[j]? = some t) (hd : ds[j]? = some d) : ∃ y, K w y v.cells.toList := by
  obtain ⟨fuel, hf⟩ := hv
  exact h H enc w held fuel _ _ hf (List.all_eq_true.2 (fun n hn => List.all_eq_true.1 hsz n (DataW.weights_mem_each ht hd n hn)))

/-! ### bytes -/
theorem Rd.of_row {w : World} {A : Option Addr} {l : List UInt8} (h : Row KByte 1 w A l) (hl : l.length ≤ 9223372036854775807) : Rd w A l :=
  ⟨hl, fun hp => by
    obtain ⟨a, e, hc⟩ := h hp
    refine ⟨a, e, fun j hj => ?_⟩
    obtain ⟨cs, hcl, hK, hcell⟩ := hc j hj
    have h0 := hcell 0 (by omega)
    unfold KByte at hK
    subst hK
    simpa using h0⟩
theorem bytes_arg {w : World} {v : Value} {l : List UInt8} {cs : List Value} (hcs : v.cells.toList = cs) (h : KSlice KByte 1 1 w l cs) (hv : ∃ a n c, v = .slice a n c) :
    ∃ A c, v = .slice A l.length c ∧ l.length ≤ c ∧ c ≤ 9223372036854775807 ∧ l.length ≤ 140737488351232 ∧ Rd w A l := by
  obtain ⟨A, c, e, h1, h2, h3, h4⟩ := h
  obtain ⟨a, n, c', rfl⟩ := hv
  subst hcs
  simp [Value.cells] at e
  obtain ⟨rfl, rfl, rfl⟩ := e
  exact ⟨a, c', rfl, h1, h2, by omega, Rd.of_row h4 (by omega)⟩
end Go.Proofs.Ytbpecfbliglboaa
