/- Regions that draw their order and hold calls that turn the world, these in one order: what the world is like between two of them is told by J. -/
import Derived.Test.YtbpecfbliglboaaRelTail
namespace Go.Proofs.Ytbpecfbliglboaa.Stg
set_option linter.unusedVariables false
set_option linter.unusedSimpArgs false
open Go.RowKit
/-! ### the operations that turn the world come in one order: what the world is like between two of them -/
structure Chain (ops : Array Oper) (ks : List Nat) : Prop where
  nd : ks.Nodup
  lt : ∀ k ∈ ks, k < ops.size
  ed : ∀ k, (h : k + 1 < ks.length) → ∀ o, ops[ks[k + 1]]? = some o → ∃ e ∈ o.after.toList, Region.binds .any e = true ∧ e.on = ks[k]
def chainK (ops : Array Oper) (ks : List Nat) : Bool := decide ks.Nodup && ks.all (· < ops.size) && (List.range (ks.length - 1)).all fun k => match ops[ks.getD (k + 1) 0]? with
  | some o => o.after.toList.any fun e => Region.binds .any e && e.on == ks.getD k 0
  | none => true
theorem chainK_spec {ops : Array Oper} {ks : List Nat} (h : chainK ops ks = true) : Chain ops ks := by
  simp only [chainK, Bool.and_eq_true, decide_eq_true_eq, List.all_eq_true] at h
  obtain ⟨⟨h1, h2⟩, h3⟩ := h
  refine ⟨h1, h2, fun k hk o ho => ?_⟩
  have h4 := h3 k (List.mem_range.2 (by omega))
  have e1 : ks.getD (k + 1) 0 = ks[k + 1] := by simp [hk]
  have e2 : ks.getD k 0 = ks[k]'(by omega) := by simp [show k < ks.length by omega]
  rw [e1, ho, e2] at h4
  obtain ⟨e, he, h5⟩ := List.any_eq_true.1 h4
  simp only [Bool.and_eq_true, beq_iff_eq] at h5
  exact ⟨e, he, h5.1, h5.2⟩
def Back (ops : Array Oper) : Prop := ∀ (j : Nat) (o : Oper), ops[j]? = some o → ∀ e ∈ o.after.toList, e.on < j
def backFrom : Nat → List Oper → Bool
  | _, [] => true
  | k, o :: l => (o.after.toList.all fun e => e.on < k) && backFrom (k + 1) l
def backB (l : List Oper) : Bool := backFrom 0 l
theorem backFrom_spec : ∀ (l : List Oper) (k : Nat), backFrom k l = true → ∀ (j : Nat) (o : Oper), l[j]? = some o → ∀ e ∈ o.after.toList, e.on < k + j
  | [], _, _, j, o, ho, _, _ => by simp at ho
  | x :: l, k, h, 0, o, ho, e, he => by
    simp only [backFrom, Bool.and_eq_true, List.all_eq_true, decide_eq_true_eq] at h
    simp at ho
    subst ho
    simpa using h.1 e he
  | x :: l, k, h, j + 1, o, ho, e, he => by
    simp only [backFrom, Bool.and_eq_true] at h
    have := backFrom_spec l (k + 1) h.2 j o (by simpa using ho) e he
    omega
theorem backB_spec {l : List Oper} (h : backB l = true) : Back l.toArray := fun j o ho e he => by
  have := backFrom_spec l 0 h j o (by simpa using ho) e he
  omega
/-- the first s of the turning operations are done -/
def Pre (ks : List Nat) (s : Nat) (listed : Array Bool) : Prop := s ≤ ks.length ∧ ∀ k, (h : k < ks.length) → listed.getD ks[k] true = decide (k < s)
theorem Pre.zero {ops : Array Oper} {ks : List Nat} (h : Chain ops ks) : Pre ks 0 (Array.replicate ops.size false) :=
  ⟨Nat.zero_le _, fun k hk => by
    have := h.lt ks[k] (List.getElem_mem hk)
    simp [this]⟩
theorem idxOf_get {ks : List Nat} (hnd : ks.Nodup) (k : Nat) (hk : k < ks.length) : ks.idxOf ks[k] = k := by
  induction ks generalizing k with
  | nil => simp at hk
  | cons x ks ih =>
    rw [List.nodup_cons] at hnd
    cases k with
    | zero => simp
    | succ k =>
      have hne : x ≠ ks[k]'(by simpa using hk) := fun e => hnd.1 (e ▸ List.getElem_mem _)
      have hb : (x == ks[k]'(by simpa using hk)) = false := by rw [beq_eq_false_iff_ne]; exact hne
      rw [List.getElem_cons_succ, List.idxOf_cons, hb, cond_false, ih hnd.2]
theorem Pre.step {ops : Array Oper} {ks : List Nat} {s i : Nat} {listed : Array Bool} (h : Pre ks s listed) (hc : Chain ops ks) (hi : i ∈ Region.ready .any ops listed) (hk : ks.contains i = true) : ks.idxOf i = s ∧ Pre ks (s + 1) (listed.setIfInBounds i true) := by
  have hm : i ∈ ks := by simpa using hk
  obtain ⟨k, hkl, rfl⟩ := List.getElem_of_mem hm
  obtain ⟨hun, o, ho, hall⟩ := mem_ready.1 hi
  have h1 := h.2 k hkl
  rw [hun] at h1
  have hks : ¬ k < s := by simpa using h1.symm
  have hke : k = s := by
    cases k with
    | zero => have := h.1; omega
    | succ k =>
      obtain ⟨e, he, hb, hon⟩ := hc.ed k hkl o ho
      have h2 := hall e (by simpa using he) hb
      rw [hon] at h2
      have h3 := h.2 k (by omega)
      have h4 : listed.getD (ks[k]'(by omega)) true = true := by
        cases h5 : listed.getD (ks[k]'(by omega)) true with
        | true => rfl
        | false => rw [getD_both h5] at h2; cases h2
      rw [h4] at h3
      have : k < s := by simpa using h3.symm
      omega
  subst hke
  refine ⟨idxOf_get hc.nd k hkl, by omega, fun j hj => ?_⟩
  by_cases hjk : j = k
  · subst hjk
    rcases Nat.lt_or_ge ks[j] listed.size with h' | h'
    · simp [h']
    · simp [h']
  · have hne : ks[k] ≠ ks[j] := fun e => hjk (by
      have h5 := idxOf_get hc.nd k hkl
      have h6 := idxOf_get hc.nd j hj
      rw [e, h6] at h5
      exact h5)
    rw [getD_set_ne true hne, h.2 j hj]
    have : (j < k) = (j < k + 1) := by apply propext; omega
    simp only [this]
theorem Pre.other {ks : List Nat} {s i : Nat} {listed : Array Bool} (h : Pre ks s listed) (hk : ¬ ks.contains i = true) : Pre ks s (listed.setIfInBounds i true) := by
  refine ⟨h.1, fun k hkl => ?_⟩
  have hne : i ≠ ks[k] := fun e => hk (by rw [e]; simp)
  rw [getD_set_ne true hne]
  exact h.2 k hkl
theorem all_listed {ops : Array Oper} {n : Nat} {listed : Array Bool} (hbk : Back ops) (hr : ∀ j ∈ Region.ready .any ops listed, n ≤ j) : ∀ i, i < n → i < ops.size → listed.getD i true = true := by
  intro i
  induction i using Nat.strongRecOn with
  | ind i ih =>
    intro hin his
    cases hu : listed.getD i true with
    | true => rfl
    | false =>
      exfalso
      obtain ⟨o, ho⟩ : ∃ o, ops[i]? = some o := ⟨_, Array.getElem?_eq_getElem his⟩
      have hsz : i < listed.size := by
        rcases Nat.lt_or_ge i listed.size with h | h
        · exact h
        · simp [Array.getElem?_eq_none h] at hu
      have := hr i (mem_ready.2 ⟨hu, o, ho, fun e he _ => by
        have hlt := hbk i o ho e (by simpa using he)
        have h1 := ih e.on hlt (by omega) (by omega)
        have h2 : e.on < listed.size := by omega
        simp [h2] at h1 ⊢; exact h1⟩)
      omega
theorem Pre.fullT {ops : Array Oper} {ks : List Nat} {s n : Nat} {listed : Array Bool} (h : Pre ks s listed) (hc : Chain ops ks) (hbk : Back ops) (hn : ∀ k ∈ ks, k < n) (hr : ∀ j ∈ Region.ready .any ops listed, n ≤ j) : s = ks.length := by
  rcases Nat.lt_or_ge s ks.length with h1 | h1
  · have h2 := h.2 s h1
    rw [all_listed hbk hr _ (hn _ (List.getElem_mem h1)) (hc.lt _ (List.getElem_mem h1))] at h2
    simp at h2
  · exact Nat.le_antisymm h.1 h1
theorem Pre.full {ops : Array Oper} {ks : List Nat} {s : Nat} {listed : Array Bool} (h : Pre ks s listed) (hc : Chain ops ks) (hbk : Back ops) (hr : Region.ready .any ops listed = []) : s = ks.length :=
  h.fullT (n := ops.size) hc hbk hc.lt (fun j hj => by rw [hr] at hj; cases hj)
section
variable (P : Program) (ops : Array Oper) (kd : Nat → Bool) (RP : Nat → List Value → Value → Prop) (RC : Nat → List Value → Value → World → Prop) (G : World → World → Prop) (J : Nat → World → Prop) (ks : List Nat) (w1 : World) (Q : Act → World → Prop)

def upd (F : Nat → World → Prop) (k : Nat) (f : World → Prop) : Nat → World → Prop := fun i => if i = k then f else F i
def Oper.argv (o : Oper) (a : Act) : List Value := o.op.operands.toList.map a.eval
/-- the value that an operation yields, the world left alone -/
def plainUpon (w : World) (v : Value) : Result Next → Prop
  | .ok (.value u) w' => w' = w ∧ u = v
  | .ok .skip w' => w' = w ∧ v = undef
  | _ => False
/-- what a literal or a call leaves: a value and a grown world, related -/
def relUpon (w : World) (R : Value → World → Prop) : Result Next → Prop
  | .ok (.value u) w' => G w w' ∧ R u w'
  | .ok .skip w' => G w w' ∧ R undef w'
  | .ok (.enter f args) w' => Calls P f args w' (fun e w'' => ∃ v, e = .returned v ∧ G w w'' ∧ R v w'')
  | _ => False
def relOp (i : Nat) (o : Oper) (F : Nat → World → Prop) (K : (World → Prop) → Act → Prop) (a : Act) : Prop :=
  if Region.wanted o (yielded ops a.tmps) then
    if kd i then
      (∀ W, G w1 W → J (ks.idxOf i) W → (∀ e ∈ o.after.toList, Region.binds .any e = true → F e.on W) → relUpon P G W (fun v W' => (RP i (Oper.argv o a) v ∧ RC i (Oper.argv o a) v W') ∧ J (ks.idxOf i + 1) W') ((execOp a.eval o).run P W)) ∧ (∃ v, RP i (Oper.argv o a) v) ∧ ∀ v, RP i (Oper.argv o a) v → K (RC i (Oper.argv o a) v) (a.put o.dst v)
    else ∃ v, (∀ W, G w1 W → plainUpon W v ((execOp a.eval o).run P W)) ∧ K (fun _ => True) (a.put o.dst v)
  else (kd i = true → ∀ W, G w1 W → J (ks.idxOf i) W → J (ks.idxOf i + 1) W) ∧ K (fun _ => True) (a.put o.dst undef)
/-- the operations in the order of the text -/
def wpR : List Oper → Nat → (Nat → World → Prop) → Act → Prop
  | [], _, F, a => ∀ W, G w1 W → J ks.length W → (∀ i, F i W) → Q a W
  | o :: l, k, F, a => relOp P ops kd RP RC G J ks w1 k o F (fun f a' => wpR l (k + 1) (upd F k f) a') a
/-- in whatever order -/
def anyR : Nat → Array Bool → (Nat → World → Prop) → Act → Prop
  | 0, listed, F, a => Region.ready .any ops listed = [] ∧ ∀ W, G w1 W → J ks.length W → (∀ i, F i W) → Q a W
  | n + 1, listed, F, a => (Region.ready .any ops listed = [] → ∀ W, G w1 W → J ks.length W → (∀ i, F i W) → Q a W) ∧
      ∀ i ∈ Region.ready .any ops listed, ∀ o, ops[i]? = some o → relOp P ops kd RP RC G J ks w1 i o F (fun f a' => anyR n (listed.setIfInBounds i true) (upd F i f) a') a
end
section
variable {P : Program} {ops : Array Oper} {kd : Nat → Bool} {RP : Nat → List Value → Value → Prop} {RC : Nat → List Value → Value → World → Prop} {G : World → World → Prop} {J : Nat → World → Prop} {ks : List Nat} {w1 : World} {Q : Act → World → Prop} {QX : Exit → Act → World → Prop}
theorem upd_same (F : Nat → World → Prop) (k : Nat) (f : World → Prop) : upd F k f k = f := by simp [upd]
theorem upd_ne (F : Nat → World → Prop) {k i : Nat} (f : World → Prop) (h : i ≠ k) : upd F k f i = F i := by simp [upd, h]
theorem upd_comm (F : Nat → World → Prop) {j k : Nat} (f g : World → Prop) (h : j ≠ k) : upd (upd F j f) k g = upd (upd F k g) j f := by
  funext i
  unfold upd
  by_cases h1 : i = k
  · subst h1; rw [if_pos rfl, if_neg (Ne.symm h)]
    rw [if_pos rfl]
  · by_cases h2 : i = j
    · subst h2; simp [h1]
    · simp [h1, h2]
theorem relOp_mono {i : Nat} {o : Oper} {F : Nat → World → Prop} {K K' : (World → Prop) → Act → Prop} {a : Act} (h : ∀ f a, K f a → K' f a) (hh : relOp P ops kd RP RC G J ks w1 i o F K a) : relOp P ops kd RP RC G J ks w1 i o F K' a := by
  unfold relOp at *
  split
  · rename_i hw
    simp only [hw, if_true] at hh
    split
    · rename_i hk; simp only [hk, if_true] at hh; exact ⟨hh.1, hh.2.1, fun v hv => h _ _ (hh.2.2 v hv)⟩
    · rename_i hk; simp only [hk] at hh; obtain ⟨v, h1, h2⟩ := hh; exact ⟨v, h1, h _ _ h2⟩
  · rename_i hw; simp only [hw] at hh; exact ⟨hh.1, h _ _ hh.2⟩
theorem plain_unique {w : World} {u v : Value} {r : Result Next} (h1 : plainUpon w u r) (h2 : plainUpon w v r) : u = v := by
  cases r with
  | ok n w' => cases n <;> simp only [plainUpon] at h1 h2
               case value x => exact h1.2.symm.trans h2.2
               case skip => rw [h1.2, h2.2]
  | halt x w' => simp only [plainUpon] at h1
theorem wp_of_plain {o : Oper} {a : Act} {w : World} {v : Value} {K : Act → World → Prop} (h : plainUpon w v ((execOp a.eval o).run P w)) (hK : K (a.put o.dst v) w) : o.wp P a w K QX := by
  unfold Oper.wp
  generalize (execOp a.eval o).run P w = r at *
  cases r with
  | ok n w' =>
    cases n <;> simp only [plainUpon] at h <;> simp only [Oper.upon]
    case value u => rw [h.1, h.2]; exact hK
    case skip => rw [h.1, ← h.2]; exact hK
  | halt x w' => simp only [plainUpon] at h
theorem wp_of_rel {o : Oper} {a : Act} {w : World} {R : Value → World → Prop} {K : Act → World → Prop} (h : relUpon P G w R ((execOp a.eval o).run P w)) (hK : ∀ v w', G w w' → R v w' → K (a.put o.dst v) w') : o.wp P a w K QX := by
  unfold Oper.wp
  generalize (execOp a.eval o).run P w = r at *
  cases r with
  | ok n w' =>
    cases n <;> simp only [relUpon] at h <;> simp only [Oper.upon]
    case value u => exact hK _ _ h.1 h.2
    case skip => exact hK _ _ h.1 h.2
    case enter f args => exact h.mono fun e w'' ⟨v, he, h1, h2⟩ => by subst he; exact hK _ _ h1 h2
  | halt x w' => simp only [relUpon] at h
theorem argv_put {o : Oper} {a : Act} {dst : Option Tmp} {v : Value} (h : ∀ d, dst = some d → d ∉ o.looksAt ops) : Oper.argv o (a.put dst v) = Oper.argv o a := by
  unfold Oper.argv
  refine List.map_congr_left fun x hx => Act.eval_put fun d hd hxd => h d hd ?_
  subst hxd
  exact List.mem_append_left _ (List.mem_filterMap.2 ⟨.tmp d, by simpa using hx, rfl⟩)

theorem wpAny_of_anyR (hG0 : ∀ w, G w w) (hGt : ∀ a b c, G a b → G b c → G a c) (hst : ∀ k xs v W W', RC k xs v W → G W W' → RC k xs v W') (hQ : ∀ a w, Q a w → QX .normal a w) (hkd : ∀ i, kd i = ks.contains i) (hch : Chain ops ks) (hbk : Back ops) :
    ∀ (n : Nat) (listed : Array Bool) (F : Nat → World → Prop) (a : Act) (W : World) (s : Nat), Pre ks s listed → J s W → (∀ i W W', F i W → G W W' → F i W') → G w1 W → (∀ i, F i W) →
      anyR P ops kd RP RC G J ks w1 Q n listed F a → wpAny P .any ops QX n listed a W
  | 0, listed, _, _, W, s, hp, hJ, _, hG, hF, h => ⟨h.1, hQ _ _ (h.2 _ hG (by rw [← hp.full hch hbk h.1]; exact hJ) hF)⟩
  | n + 1, listed, F, a, W, s, hp, hJ, hs, hG, hF, h => by
    refine ⟨fun h0 => hQ _ _ (h.1 h0 _ hG (by rw [← hp.full hch hbk h0]; exact hJ) hF), fun i hi => ?_⟩
    unfold wpOp
    cases ho : ops[i]? with
    | none =>
      obtain ⟨_, o, ho', _⟩ := mem_ready.1 hi
      rw [ho] at ho'; cases ho'
    | some o =>
      have hr := h.2 i hi o ho
      unfold relOp at hr
      have hTrue : ∀ j W W', upd F i (fun _ => True) j W → G W W' → upd F i (fun _ => True) j W' := by
        intro j W W' h1 h2
        unfold upd at *
        split
        · trivial
        · rename_i hne; rw [if_neg hne] at h1; exact hs j W W' h1 h2
      have hTrueF : ∀ j, upd F i (fun _ => True) j W := by
        intro j
        unfold upd
        split
        · trivial
        · exact hF j
      simp only
      split
      · rename_i hw
        simp only [hw, if_true] at hr
        refine .inl ?_
        split at hr
        · rename_i hk
          obtain ⟨es, hp'⟩ := hp.step hch hi (by rw [← hkd]; exact hk)
          refine wp_of_rel (hr.1 W hG (by rw [es]; exact hJ) (fun e _ _ => hF e.on)) ?_
          intro v W' h1 ⟨⟨h2p, h2⟩, hJ'⟩
          refine wpAny_of_anyR hG0 hGt hst hQ hkd hch hbk n _ (upd F i (RC i (Oper.argv o a) v)) _ W' (s + 1) hp' (by rw [← es]; exact hJ') ?_ (hGt _ _ _ hG h1) ?_ (hr.2.2 v h2p)
          · intro j X X' h3 h4
            unfold upd at *
            split
            · rename_i he; rw [if_pos he] at h3; exact hst _ _ _ _ _ h3 h4
            · rename_i he; rw [if_neg he] at h3; exact hs j X X' h3 h4
          · intro j
            unfold upd
            split
            · exact h2
            · exact hs j _ _ (hF j) h1
        · rename_i hk
          obtain ⟨v, h1, h2⟩ := hr
          exact wp_of_plain (h1 W hG) (wpAny_of_anyR hG0 hGt hst hQ hkd hch hbk n _ _ _ W s (hp.other (by rw [← hkd]; exact hk)) hJ hTrue hG hTrueF h2)
      · rename_i hw
        simp only [hw] at hr
        by_cases hk : kd i = true
        · obtain ⟨es, hp'⟩ := hp.step hch hi (by rw [← hkd]; exact hk)
          exact wpAny_of_anyR hG0 hGt hst hQ hkd hch hbk n _ _ _ W (s + 1) hp' (by rw [← es]; exact hr.1 hk W hG (by rw [es]; exact hJ)) hTrue hG hTrueF hr.2
        · exact wpAny_of_anyR hG0 hGt hst hQ hkd hch hbk n _ _ _ W s (hp.other (by rw [← hkd]; exact hk)) hJ hTrue hG hTrueF hr.2

/-- An operation j that is apart from i, seen before i was carried out. -/
theorem relOp_before {j : Nat} {oi oj : Oper} {F F' : Nat → World → Prop} {a : Act} (hap : oi.apart ops oj = true) (hsj : ∀ cs b, oj.op ≠ .select cs b) (hF : ∀ e ∈ oj.after.toList, Region.binds .any e = true → F e.on = F' e.on)
    {v : Value} {K : (World → Prop) → Act → Prop} (h : relOp P ops kd RP RC G J ks w1 j oj F K (a.put oi.dst v)) :
    relOp P ops kd RP RC G J ks w1 j oj F' (fun g a' => K g (a'.put oi.dst v)) a := by
  obtain ⟨h1, h2, h3⟩ := Oper.apart_spec hap
  unfold relOp at *
  rw [wanted_put oj a oi.dst v h1, argv_put (ops := ops) h1, execOp_put oj hsj a oi.dst v h1] at h
  split
  · rename_i hw
    simp only [hw, if_true] at h
    split
    · rename_i hk
      simp only [hk, if_true] at h
      exact ⟨fun W hG hJ hf => h.1 W hG hJ (fun e he hb => by rw [hF e he hb]; exact hf e he hb), h.2.1, fun u hu => by show K _ ((a.put oj.dst u).put oi.dst v); rw [← Act.put_comm a v u h2]; exact h.2.2 u hu⟩
    · rename_i hk
      simp only [hk] at h
      obtain ⟨u, h4, h5⟩ := h
      exact ⟨u, h4, by show K _ ((a.put oj.dst u).put oi.dst v); rw [← Act.put_comm a v u h2]; exact h5⟩
  · rename_i hw
    simp only [hw] at h
    refine ⟨h.1, ?_⟩
    show K _ ((a.put oj.dst undef).put oi.dst v)
    rw [← Act.put_comm a v undef h2]; exact h.2
/-- .. and for every value that i may leave. -/
theorem relOp_all {j : Nat} {oi oj : Oper} {F : Nat → World → Prop} {F' : Value → Nat → World → Prop} {a : Act} {ok : Value → Prop} (hG : ∀ w, G w w) (hok : ∃ v, ok v) (hap : oi.apart ops oj = true) (hsj : ∀ cs b, oj.op ≠ .select cs b) (hF : ∀ v, ∀ e ∈ oj.after.toList, Region.binds .any e = true → F' v e.on = F e.on)
    {K : Value → (World → Prop) → Act → Prop} (h : ∀ v, ok v → relOp P ops kd RP RC G J ks w1 j oj (F' v) (K v) (a.put oi.dst v)) :
    relOp P ops kd RP RC G J ks w1 j oj F (fun g a' => ∀ v, ok v → K v g (a'.put oi.dst v)) a := by
  have h' := fun v hv => relOp_before hap hsj (hF v) (h v hv)
  obtain ⟨v0, hv0⟩ := hok
  unfold relOp at *
  split
  · rename_i hw
    simp only [hw, if_true] at h'
    split
    · rename_i hk
      simp only [hk, if_true] at h'
      exact ⟨(h' v0 hv0).1, (h' v0 hv0).2.1, fun u hu v hv => (h' v hv).2.2 u hu⟩
    · rename_i hk
      simp only [hk] at h'
      obtain ⟨u, h4, _⟩ := h' v0 hv0
      refine ⟨u, h4, fun v hv => ?_⟩
      obtain ⟨u', h6, h7⟩ := h' v hv
      have := plain_unique (h4 w1 (hG w1)) (h6 w1 (hG w1))
      rw [this]; exact h7
  · rename_i hw
    simp only [hw] at h'
    exact ⟨(h' v0 hv0).1, fun v hv => (h' v hv).2⟩
theorem relOp_mono' {i : Nat} {o : Oper} {F : Nat → World → Prop} {K K' : (World → Prop) → Act → Prop} {a : Act} (h : ∀ f u, K f (a.put o.dst u) → K' f (a.put o.dst u)) (hh : relOp P ops kd RP RC G J ks w1 i o F K a) : relOp P ops kd RP RC G J ks w1 i o F K' a := by
  unfold relOp at *
  split
  · rename_i hw
    simp only [hw, if_true] at hh
    split
    · rename_i hk; simp only [hk, if_true] at hh; exact ⟨hh.1, hh.2.1, fun v hv => h _ _ (hh.2.2 v hv)⟩
    · rename_i hk; simp only [hk] at hh; obtain ⟨v, h1, h2⟩ := hh; exact ⟨v, h1, h _ _ h2⟩
  · rename_i hw; simp only [hw] at hh; exact ⟨hh.1, h _ _ hh.2⟩
/-- The relation of one operation, put into the form 'for every value that it may leave' (one value where it is plain or not wanted). -/
theorem relOp_cases {i : Nat} {oi : Oper} {F : Nat → World → Prop} {K : (World → Prop) → Act → Prop} {a : Act} (h : relOp P ops kd RP RC G J ks w1 i oi F K a) :
    (∃ (f : Value → World → Prop) (ok : Value → Prop), (∃ v, ok v) ∧ (∀ v, ok v → K (f v) (a.put oi.dst v)) ∧
      ∀ K' : (World → Prop) → Act → Prop, ∀ oj u, oi.apart ops oj = true → (∀ cs b, oi.op ≠ .select cs b) → ∀ F' : Nat → World → Prop, (∀ e ∈ oi.after.toList, Region.binds .any e = true → F' e.on = F e.on) → (∀ v, ok v → K' (f v) ((a.put oj.dst u).put oi.dst v)) → relOp P ops kd RP RC G J ks w1 i oi F' K' (a.put oj.dst u)) := by
  by_cases hw : Region.wanted oi (yielded ops a.tmps) = true
  · by_cases hk : kd i = true
    · have h0 := h
      unfold relOp at h
      simp only [hw, hk, if_true] at h
      refine ⟨fun v => RC i (Oper.argv oi a) v, fun v => RP i (Oper.argv oi a) v, h.2.1, fun v hv => h.2.2 v hv, fun K' oj u hap hsi F' hF hK => ?_⟩
      obtain ⟨_, _, h3⟩ := Oper.apart_spec hap
      unfold relOp
      rw [wanted_put oi a oj.dst u h3, argv_put (ops := ops) h3, execOp_put oi hsi a oj.dst u h3]
      simp only [hw, hk, if_true]
      exact ⟨fun W hG hJ hf => h.1 W hG hJ (fun e he hb => by rw [← hF e he hb]; exact hf e he hb), h.2.1, fun v hv => hK v hv⟩
    · unfold relOp at h
      simp only [hw, hk, if_true] at h
      obtain ⟨v0, h4, h5⟩ := h
      refine ⟨fun _ _ => True, fun v => v = v0, ⟨v0, rfl⟩, fun v hv => by subst hv; exact h5, fun K' oj u hap hsi F' hF hK => ?_⟩
      obtain ⟨_, _, h3⟩ := Oper.apart_spec hap
      unfold relOp
      rw [wanted_put oi a oj.dst u h3, execOp_put oi hsi a oj.dst u h3]
      simp only [hw, hk, if_true]
      exact ⟨v0, h4, hK v0 rfl⟩
  · unfold relOp at h
    simp only [hw] at h
    refine ⟨fun _ _ => True, fun v => v = undef, ⟨undef, rfl⟩, fun v hv => by subst hv; exact h.2, fun K' oj u hap hsi F' hF hK => ?_⟩
    obtain ⟨_, _, h3⟩ := Oper.apart_spec hap
    unfold relOp
    rw [wanted_put oi a oj.dst u h3]
    simp only [hw]
    exact ⟨h.1, hK undef rfl⟩
theorem anyR_first {i : Nat} {oi : Oper} (hi : ops[i]? = some oi) (hsel : ∀ (j : Nat) (o : Oper) cs b, ops[j]? = some o → o.op ≠ .select cs b) (hG0 : ∀ w, G w w) :
    ∀ (n : Nat) (listed : Array Bool) (F : Nat → World → Prop) (a : Act),
      (∀ j oj, ops[j]? = some oj → j ≠ i → listed.getD j true = false → (∀ e ∈ oj.after, Region.binds .any e = true → e.on ≠ i) → oi.apart ops oj = true) →
      i ∈ Region.ready .any ops listed → relOp P ops kd RP RC G J ks w1 i oi F (fun f a' => anyR P ops kd RP RC G J ks w1 Q n (listed.setIfInBounds i true) (upd F i f) a') a → anyR P ops kd RP RC G J ks w1 Q (n + 1) listed F a := by
  intro n
  induction n with
  | zero =>
    intro listed F a _ hr h
    refine ⟨fun h0 => (by rw [h0] at hr; cases hr), fun j hj oj hoj => ?_⟩
    by_cases hji : j = i
    · subst hji
      rw [hi] at hoj
      cases hoj
      exact h
    · obtain ⟨f, ok, ⟨v, hv⟩, hK, _⟩ := relOp_cases h
      have h1 := (hK v hv).1
      have := ready_mono hj hji
      rw [h1] at this
      cases this
  | succ n ih =>
    intro listed F a hfree hr h
    refine ⟨fun h0 => (by rw [h0] at hr; cases hr), fun j hj oj hoj => ?_⟩
    by_cases hji : j = i
    · subst hji
      rw [hi] at hoj
      cases hoj
      exact h
    · obtain ⟨hjun, oj', hoj', hall⟩ := mem_ready.1 hj
      rw [hoj] at hoj'
      cases hoj'
      have hiun := (mem_ready.1 hr).1
      have hnot : ∀ e ∈ oj.after, Region.binds .any e = true → e.on ≠ i := fun e he hb heq => by
        have h1 := hall e he hb
        rw [heq] at h1
        rcases Nat.lt_or_ge i listed.size with h' | h'
        · simp [h'] at hiun h1; rw [hiun] at h1; cases h1
        · simp [Array.getElem?_eq_none h'] at h1
      have hnoti : ∀ e ∈ oi.after, Region.binds .any e = true → e.on ≠ j := fun e he hb heq => by
        obtain ⟨_, oi', hoi', hall'⟩ := mem_ready.1 hr
        rw [hi] at hoi'
        cases hoi'
        have h1 := hall' e he hb
        rw [heq] at h1
        rcases Nat.lt_or_ge j listed.size with h' | h'
        · simp [h'] at hjun h1; rw [hjun] at h1; cases h1
        · simp [Array.getElem?_eq_none h'] at h1
      have hap := hfree j oj hoj hji hjun hnot
      obtain ⟨f, ok, hok, hK, hmk⟩ := relOp_cases h
      have h2 := relOp_all (F := F) (F' := fun v => upd F i (f v)) (K := fun v g a' => anyR P ops kd RP RC G J ks w1 Q n ((listed.setIfInBounds i true).setIfInBounds j true) (upd (upd F i (f v)) j g) a') hG0 hok hap (fun cs b => hsel j oj cs b hoj)
        (fun v e he hb => upd_ne F (f v) (hnot e (by simpa using he) hb)) (fun v hv => (hK v hv).2 j (ready_mono hj hji) oj hoj)
      refine relOp_mono' (fun g u h3 => ih (listed.setIfInBounds j true) (upd F j g) _ ?_ (ready_mono hr (Ne.symm hji)) ?_) h2
      · intro k ok hk hki hun hno
        refine hfree k ok hk hki ?_ hno
        by_cases hjk : j = k
        · subst hjk; exact hjun
        · rw [getD_set_ne true hjk] at hun; exact hun
      · refine hmk _ oj u hap (fun cs b => hsel i oi cs b hi) (upd F j g) (fun e he hb => upd_ne F g (hnoti e (by simpa using he) hb)) (fun v hv => ?_)
        have h4 := h3 v hv
        rw [Array.setIfInBounds_comm _ _ hji, upd_comm F g (f v) hji]
        exact h4
theorem anyR_lex (hs : Region.noSelect ops = true) (hG0 : ∀ w, G w w) : ∀ (l : List Oper) (k : Nat) (listed : Array Bool) (F : Nat → World → Prop) (a : Act), (∀ j, l[j]? = ops[k + j]?) →
    Region.lexFrom .any ops l.length k listed = true → wpR P ops kd RP RC G J ks w1 Q l k F a → anyR P ops kd RP RC G J ks w1 Q l.length listed F a
  | [], _, _, _, _, _, hB, h => ⟨by simpa [Region.lexFrom] using hB, h⟩
  | o :: l, k, listed, F, a, hl, hB, h => by
    have h0 : ops[k]? = some o := by simpa using (hl 0).symm
    simp only [List.length_cons, Region.lexFrom, Bool.and_eq_true] at hB
    obtain ⟨⟨hr, hf⟩, hB'⟩ := hB
    exact anyR_first h0 (Region.noSelect_spec hs) hG0 l.length listed F a (Region.free_spec h0 hf) (by simpa using hr)
      (relOp_mono (fun f a' h' => anyR_lex hs hG0 l (k + 1) _ _ a' (fun j => by have := hl (j + 1); simpa [Nat.add_assoc, Nat.add_comm 1 j] using this) hB' h') h)
/-- THE REGION. -/
theorem wp_region_rel {id : Nat} {a : Act} {w : World} (l : List Oper) (kd : Nat → Bool) (RP : Nat → List Value → Value → Prop) (RC : Nat → List Value → Value → World → Prop) (G : World → World → Prop) (hm : P.follows .mixedOrders = true) (hB : Region.lexB .any l.toArray = true)
    (hG0 : ∀ w, G w w) (hGt : ∀ a b c, G a b → G b c → G a c) (hst : ∀ k xs v W W', RC k xs v W → G W W' → RC k xs v W') (J : Nat → World → Prop) (ks : List Nat) (hkd : ∀ i, kd i = ks.contains i) (hch : chainK l.toArray ks = true) (hbk : backB l = true) (hJ : J 0 w.drew)
    (h : wpR P l.toArray kd RP RC G J ks w.drew (fun a' w' => QX .normal a' w') l 0 (fun _ _ => True) a) : (Code.region id l.toArray true).wp P QX a w := by
  simp only [Region.lexB, Bool.and_eq_true] at hB
  refine wp_region_any hm ?_
  have := anyR_lex (Q := fun a' w' => QX .normal a' w') hB.1 hG0 l 0 (Array.replicate l.toArray.size false) (fun _ _ => True) a (by simp) (by simpa using hB.2) h
  exact wpAny_of_anyR hG0 hGt hst (fun _ _ h => h) hkd (chainK_spec hch) (backB_spec hbk) _ _ _ _ _ 0 (Pre.zero (chainK_spec hch)) hJ (fun _ _ _ _ _ => trivial) (hG0 _) (fun _ => trivial) this
/-! ### the steps, for the walk -/
theorem plainUpon_value (w : World) (v u : Value) (w' : World) : plainUpon w v (.ok (.value u) w') = (w' = w ∧ u = v) := rfl
@[simp] theorem plainUpon_skip (w : World) (v : Value) (w' : World) : plainUpon w v (.ok .skip w') = (w' = w ∧ v = undef) := rfl
theorem relUpon_value (w : World) (R : Value → World → Prop) (u : Value) (w' : World) : relUpon P G w R (.ok (.value u) w') = (G w w' ∧ R u w') := rfl
theorem relUpon_enter (w : World) (R : Value → World → Prop) (f : FuncId) (args : Array Value) (w' : World) : relUpon P G w R (.ok (.enter f args) w') = Calls P f args w' (fun e w'' => ∃ v, e = .returned v ∧ G w w'' ∧ R v w'') := rfl
theorem wpR_nil {k : Nat} {F : Nat → World → Prop} {a : Act} (h : ∀ W, G w1 W → J ks.length W → (∀ i, F i W) → Q a W) : wpR P ops kd RP RC G J ks w1 Q [] k F a := h
theorem wpR_plain {o : Oper} {l : List Oper} {k : Nat} {F : Nat → World → Prop} {a : Act} (hw : Region.wanted o (yielded ops a.tmps) = true) (hk : kd k = false)
    (h : ∀ K : Act → Prop, (∀ a', wpR P ops kd RP RC G J ks w1 Q l (k + 1) (upd F k fun _ => True) a' → K a') → ∃ v, (∀ W, G w1 W → plainUpon W v ((execOp a.eval o).run P W)) ∧ K (a.put o.dst v)) : wpR P ops kd RP RC G J ks w1 Q (o :: l) k F a := by
  obtain ⟨v, h1, h2⟩ := h _ (fun _ h => h)
  unfold wpR relOp
  simp only [hw, hk, if_true]
  exact ⟨v, h1, h2⟩
theorem wpR_skip {o : Oper} {l : List Oper} {k : Nat} {F : Nat → World → Prop} {a : Act} (hw : Region.wanted o (yielded ops a.tmps) = false) (hj : kd k = true → ∀ W, G w1 W → J (ks.idxOf k) W → J (ks.idxOf k + 1) W)
    (h : ∀ K : Act → Prop, (∀ a', wpR P ops kd RP RC G J ks w1 Q l (k + 1) (upd F k fun _ => True) a' → K a') → K (a.put o.dst undef)) : wpR P ops kd RP RC G J ks w1 Q (o :: l) k F a := by
  have h2 := h _ (fun _ h => h)
  unfold wpR relOp
  simp only [hw]
  exact ⟨hj, h2⟩
theorem wpR_rel {o : Oper} {l : List Oper} {k : Nat} {F : Nat → World → Prop} {a : Act} (hw : Region.wanted o (yielded ops a.tmps) = true) (hk : kd k = true)
    (hv : ∀ W, G w1 W → J (ks.idxOf k) W → (∀ i, (o.after.toList.any fun e => Region.binds .any e && e.on == i) = true → F i W) → relUpon P G W (fun v W' => (RP k (Oper.argv o a) v ∧ RC k (Oper.argv o a) v W') ∧ J (ks.idxOf k + 1) W') ((execOp a.eval o).run P W)) (hex : ∃ v, RP k (Oper.argv o a) v)
    (h : ∀ K : Act → Prop, ∀ v, RP k (Oper.argv o a) v → (∀ a', wpR P ops kd RP RC G J ks w1 Q l (k + 1) (upd F k (RC k (Oper.argv o a) v)) a' → K a') → K (a.put o.dst v)) : wpR P ops kd RP RC G J ks w1 Q (o :: l) k F a := by
  unfold wpR relOp
  simp only [hw, hk, if_true]
  exact ⟨fun W hG hJ hf => hv W hG hJ (fun i hi => by
    obtain ⟨e, he, h1⟩ := List.any_eq_true.1 hi
    simp only [Bool.and_eq_true, beq_iff_eq] at h1
    rw [← h1.2]; exact hf e he h1.1), hex, fun v hp => h _ v hp (fun _ h => h)⟩
end
section
variable (P : Program) (ops : Array Oper) (kd : Nat → Bool) (RP : Nat → List Value → Value → Prop) (RC : Nat → List Value → Value → World → Prop) (G : World → World → Prop) (J : Nat → World → Prop) (ks : List Nat) (w1 : World)
def anyT (n : Nat) (L : Array Bool → (Nat → World → Prop) → Act → Prop) : Nat → Array Bool → (Nat → World → Prop) → Act → Prop
  | 0, listed, F, a => L listed F a
  | f + 1, listed, F, a => Region.ready .any ops listed ≠ [] ∧
      ∀ i ∈ Region.ready .any ops listed, i < n ∧ ∀ o, ops[i]? = some o → relOp P ops kd RP RC G J ks w1 i o F (fun g a' => anyT n L f (listed.setIfInBounds i true) (upd F i g) a') a
end
section
variable {P : Program} {ops : Array Oper} {kd : Nat → Bool} {RP : Nat → List Value → Value → Prop} {RC : Nat → List Value → Value → World → Prop} {G : World → World → Prop} {J : Nat → World → Prop} {ks : List Nat} {w1 : World} {QX : Exit → Act → World → Prop}
theorem wpAny_of_anyT (hG0 : ∀ w, G w w) (hGt : ∀ a b c, G a b → G b c → G a c) (hst : ∀ k xs v W W', RC k xs v W → G W W' → RC k xs v W') {n g : Nat} {L : Array Bool → (Nat → World → Prop) → Act → Prop}
    (hkd : ∀ i, kd i = ks.contains i) (hch : Chain ops ks) (hL : ∀ listed F a W s, L listed F a → Pre ks s listed → J s W → G w1 W → (∀ i, F i W) → wpAny P .any ops QX g listed a W) :
    ∀ (f : Nat) (listed : Array Bool) (F : Nat → World → Prop) (a : Act) (W : World) (s : Nat), Pre ks s listed → J s W → (∀ i W W', F i W → G W W' → F i W') → G w1 W → (∀ i, F i W) →
      anyT P ops kd RP RC G J ks w1 n L f listed F a → wpAny P .any ops QX (f + g) listed a W
  | 0, _, _, _, _, _, hp, hJ, _, hG, hF, h => by rw [Nat.zero_add]; exact hL _ _ _ _ _ h hp hJ hG hF
  | f + 1, listed, F, a, W, s, hp, hJ, hs, hG, hF, h => by
    rw [show f + 1 + g = (f + g) + 1 by omega]
    refine ⟨fun h0 => absurd h0 h.1, fun i hi => ?_⟩
    have hi' := hi
    unfold wpOp
    cases ho : ops[i]? with
    | none =>
      obtain ⟨_, o, ho', _⟩ := mem_ready.1 hi
      rw [ho] at ho'; cases ho'
    | some o =>
      have hr := (h.2 i hi).2 o ho
      unfold relOp at hr
      have hTrue : ∀ j W W', upd F i (fun _ => True) j W → G W W' → upd F i (fun _ => True) j W' := by
        intro j W W' h1 h2
        unfold upd at *
        split
        · trivial
        · rename_i hne; rw [if_neg hne] at h1; exact hs j W W' h1 h2
      have hTrueF : ∀ j, upd F i (fun _ => True) j W := by
        intro j
        unfold upd
        split
        · trivial
        · exact hF j
      simp only
      split
      · rename_i hw
        simp only [hw, if_true] at hr
        refine .inl ?_
        split at hr
        · rename_i hk
          obtain ⟨es, hp'⟩ := hp.step hch hi' (by rw [← hkd]; exact hk)
          refine wp_of_rel (hr.1 W hG (by rw [es]; exact hJ) (fun e _ _ => hF e.on)) ?_
          intro v W' h1 ⟨⟨h2p, h2⟩, hJ'⟩
          refine wpAny_of_anyT hG0 hGt hst hkd hch hL f _ (upd F i (RC i (Oper.argv o a) v)) _ W' (s + 1) hp' (by rw [← es]; exact hJ') ?_ (hGt _ _ _ hG h1) ?_ (hr.2.2 v h2p)
          · intro j X X' h3 h4
            unfold upd at *
            split
            · rename_i he; rw [if_pos he] at h3; exact hst _ _ _ _ _ h3 h4
            · rename_i he; rw [if_neg he] at h3; exact hs j X X' h3 h4
          · intro j
            unfold upd
            split
            · exact h2
            · exact hs j _ _ (hF j) h1
        · rename_i hk
          obtain ⟨v, h1, h2⟩ := hr
          exact wp_of_plain (h1 W hG) (wpAny_of_anyT hG0 hGt hst hkd hch hL f _ _ _ W s (hp.other (by rw [← hkd]; exact hk)) hJ hTrue hG hTrueF h2)
      · rename_i hw
        simp only [hw] at hr
        by_cases hk : kd i = true
        · obtain ⟨es, hp'⟩ := hp.step hch hi' (by rw [← hkd]; exact hk)
          exact wpAny_of_anyT hG0 hGt hst hkd hch hL f _ _ _ W (s + 1) hp' (by rw [← es]; exact hr.1 hk W hG (by rw [es]; exact hJ)) hTrue hG hTrueF hr.2
        · exact wpAny_of_anyT hG0 hGt hst hkd hch hL f _ _ _ W s (hp.other (by rw [← hkd]; exact hk)) hJ hTrue hG hTrueF hr.2
theorem anyT_first {n i : Nat} {oi : Oper} {L : Array Bool → (Nat → World → Prop) → Act → Prop} (hi : ops[i]? = some oi) (hsel : ∀ (j : Nat) (o : Oper) cs b, ops[j]? = some o → o.op ≠ .select cs b) (hG0 : ∀ w, G w w)
    (hs : Region.sinkB .any ops n = true) (hc : Region.chainB .any ops n = true) (hn : n < ops.size) (hin : i < n)
    (hdone : ∀ listed F a, L listed F a → ∀ j ∈ Region.ready .any ops listed, n ≤ j) :
    ∀ (f : Nat) (listed : Array Bool) (F : Nat → World → Prop) (a : Act), HeadInv .any ops n listed →
      (∀ j oj, ops[j]? = some oj → j ≠ i → listed.getD j true = false → (∀ e ∈ oj.after, Region.binds .any e = true → e.on ≠ i) → oi.apart ops oj = true) →
      i ∈ Region.ready .any ops listed → relOp P ops kd RP RC G J ks w1 i oi F (fun g a' => anyT P ops kd RP RC G J ks w1 n L f (listed.setIfInBounds i true) (upd F i g) a') a → anyT P ops kd RP RC G J ks w1 n L (f + 1) listed F a := by
  intro f
  induction f with
  | zero =>
    intro listed F a inv _ hr h
    have hun := (mem_ready.1 hr).1
    refine ⟨fun h0 => (by rw [h0] at hr; cases hr), fun j hj => ?_⟩
    have hjn : j < n := by
      rcases Nat.lt_or_ge j n with h | h
      · exact h
      · exact absurd hj (tail_waits hs hc hn inv _ i rfl hin hun j h)
    refine ⟨hjn, fun oj hoj => ?_⟩
    by_cases hji : j = i
    · subst hji
      rw [hi] at hoj
      cases hoj
      exact h
    · obtain ⟨f, ok, ⟨v, hv⟩, hK, _⟩ := relOp_cases h
      have := hdone _ _ _ (hK v hv) j (ready_mono hj hji)
      omega
  | succ f ih =>
    intro listed F a inv hfree hr h
    have hun := (mem_ready.1 hr).1
    refine ⟨fun h0 => (by rw [h0] at hr; cases hr), fun j hj => ?_⟩
    have hjn : j < n := by
      rcases Nat.lt_or_ge j n with h | h
      · exact h
      · exact absurd hj (tail_waits hs hc hn inv _ i rfl hin hun j h)
    refine ⟨hjn, fun oj hoj => ?_⟩
    by_cases hji : j = i
    · subst hji
      rw [hi] at hoj
      cases hoj
      exact h
    · obtain ⟨hjun, oj', hoj', hall⟩ := mem_ready.1 hj
      rw [hoj] at hoj'
      cases hoj'
      have hnot : ∀ e ∈ oj.after, Region.binds .any e = true → e.on ≠ i := fun e he hb heq => by
        have h1 := hall e he hb
        rw [heq, getD_both hun] at h1
        cases h1
      have hnoti : ∀ e ∈ oi.after, Region.binds .any e = true → e.on ≠ j := fun e he hb heq => by
        obtain ⟨_, oi', hoi', hall'⟩ := mem_ready.1 hr
        rw [hi] at hoi'
        cases hoi'
        have h1 := hall' e he hb
        rw [heq, getD_both hjun] at h1
        cases h1
      have hap := hfree j oj hoj hji hjun hnot
      obtain ⟨fi, ok, hok, hK, hmk⟩ := relOp_cases h
      have h2 := relOp_all (F := F) (F' := fun v => upd F i (fi v)) (K := fun v g a' => anyT P ops kd RP RC G J ks w1 n L f ((listed.setIfInBounds i true).setIfInBounds j true) (upd (upd F i (fi v)) j g) a') hG0 hok hap (fun cs b => hsel j oj cs b hoj)
        (fun v e he hb => upd_ne F (fi v) (hnot e (by simpa using he) hb)) (fun v hv => ((hK v hv).2 j (ready_mono hj hji)).2 oj hoj)
      refine relOp_mono' (fun g u h3 => ih (listed.setIfInBounds j true) (upd F j g) _ (inv.set hj hjn) ?_ (ready_mono hr (Ne.symm hji)) ?_) h2
      · intro k ok hk hki hun hno
        refine hfree k ok hk hki ?_ hno
        by_cases hjk : j = k
        · subst hjk; exact hjun
        · rw [getD_set_ne true hjk] at hun; exact hun
      · refine hmk _ oj u hap (fun cs b => hsel i oi cs b hi) (upd F j g) (fun e he hb => upd_ne F g (hnoti e (by simpa using he) hb)) (fun v hv => ?_)
        have h4 := h3 v hv
        rw [Array.setIfInBounds_comm _ _ hji, upd_comm F g (fi v) hji]
        exact h4
theorem anyT_lex {n g : Nat} {Q : Act → World → Prop} (hsel : Region.noSelect ops = true) (hG0 : ∀ w, G w w) (hs : Region.sinkB .any ops n = true) (hc : Region.chainB .any ops n = true) (hn : n < ops.size) :
    ∀ (l : List Oper) (k : Nat) (listed : Array Bool) (F : Nat → World → Prop) (a : Act), (∀ j, j < l.length → l[j]? = ops[k + j]?) → k + l.length = n → HeadInv .any ops n listed →
    Region.lexHead .any ops g l.length k listed = true → wpR P ops kd RP RC G J ks w1 Q l k F a →
    anyT P ops kd RP RC G J ks w1 n (fun listed' F' a' => Region.seqB .any ops g n listed' = true ∧ ∀ W, G w1 W → J ks.length W → (∀ i, F' i W) → Q a' W) l.length listed F a
  | [], k, listed, F, a, _, hk, _, hB, h => by
    have : k = n := by simpa using hk
    subst this
    exact ⟨by simpa [Region.lexHead] using hB, h⟩
  | o :: l, k, listed, F, a, hl, hk, inv, hB, h => by
    have h0 : ops[k]? = some o := by simpa using (hl 0 (by simp)).symm
    simp only [List.length_cons, Region.lexHead, Bool.and_eq_true] at hB
    obtain ⟨⟨hr, hf⟩, hB'⟩ := hB
    have hkn : k < n := by simp only [List.length_cons] at hk; omega
    have hr' : k ∈ Region.ready .any ops listed := by simpa using hr
    exact anyT_first h0 (Region.noSelect_spec hsel) hG0 hs hc hn hkn (fun listed' _ a' hL => seqB_ready hL.1) l.length listed F a inv (Region.free_spec h0 hf) hr'
      (relOp_mono (fun f a' h' => anyT_lex hsel hG0 hs hc hn l (k + 1) _ _ a' (fun j hj => by have := hl (j + 1) (by simp; omega); simpa [Nat.add_assoc, Nat.add_comm 1 j] using this) (by simp only [List.length_cons] at hk; omega) (inv.set hr' hkn) hB' h') h)
theorem wp_region_rel_tail {id : Nat} {a : Act} {w : World} (l : List Oper) (n : Nat) (kd : Nat → Bool) (RP : Nat → List Value → Value → Prop) (RC : Nat → List Value → Value → World → Prop) (G : World → World → Prop) (hm : P.follows .mixedOrders = true) (hB : Region.lexTailB .any l.toArray n = true)
    (hG0 : ∀ w, G w w) (hGt : ∀ a b c, G a b → G b c → G a c) (hst : ∀ k xs v W W', RC k xs v W → G W W' → RC k xs v W') (J : Nat → World → Prop) (ks : List Nat) (hkd : ∀ i, kd i = ks.contains i) (hch : chainK l.toArray ks = true) (hbk : backB l = true) (hkn : ks.all (· < n) = true) (hJ : J 0 w.drew)
    (h : wpR P l.toArray kd RP RC G J ks w.drew (fun a' w' => wpList P l.toArray QX (l.drop n) a' w') (l.take n) 0 (fun _ _ => True) a) : (Code.region id l.toArray true).wp P QX a w := by
  simp only [Region.lexTailB, Bool.and_eq_true, decide_eq_true_eq] at hB
  obtain ⟨⟨⟨⟨hsel, hn⟩, hs⟩, hc⟩, hlex⟩ := hB
  have hn' : n < l.length := by simpa using hn
  have htl : (l.take n).length = n := by simp; omega
  have hdl : (l.drop n).length = l.toArray.size - n := by simp
  have inv0 : HeadInv .any l.toArray n (Array.replicate l.toArray.size false) :=
    ⟨by simp, fun j oj _ hl => (by rw [getD_replicate_false] at hl; cases hl), fun t _ ht => getD_in (by simpa using ht) (getD_replicate_false _ _)⟩
  have H := anyT_lex (Q := fun a' w' => wpList P l.toArray QX (l.drop n) a' w') (g := l.toArray.size - n) hsel hG0 hs hc hn (l.take n) 0 _ (fun _ _ => True) a (fun j hj => by
    have hj' : j < n := by rw [htl] at hj; exact hj
    simp [hj']) (by simpa using htl) inv0 (by rw [htl]; exact hlex) h
  refine wp_region_any hm ?_
  have := wpAny_of_anyT (QX := QX) (g := l.toArray.size - n) hG0 hGt hst hkd (chainK_spec hch) (fun listed F a' W s hL hp hJ hG hF => by
    have := wpAny_of_seq (md := .any) (Q' := QX) (l.drop n) n listed a' W (fun j => by simp [List.getElem?_drop]) (by rw [hdl]; exact hL.1) (hL.2 W hG (by rw [← hp.fullT (chainK_spec hch) (backB_spec hbk) (fun k hk => by simpa using List.all_eq_true.1 hkn k hk) (seqB_ready hL.1)]; exact hJ) hF)
    rwa [hdl] at this) _ _ _ _ w.drew 0 (Pre.zero (chainK_spec hch)) hJ (fun _ _ _ _ _ => trivial) (hG0 _) (fun _ => trivial) H
  rw [htl, show n + (l.toArray.size - n) = l.toArray.size by omega] at this
  exact this
end
/-- what a turning operation leaves: a value · a value with a property that stays true -/
inductive SpS (G : World → World → Prop) where
  | val (u : Value)
  | rel (p : Value → Prop) (q : Value → World → Prop) (hp : ∃ v, p v) (hq : ∀ v W W', q v W → G W W' → q v W')
def spP {G : World → World → Prop} : SpS G → Value → Prop
  | .val u, v => v = u
  | .rel p _ _ _, v => p v
def spC {G : World → World → Prop} : SpS G → Value → World → Prop
  | .val _, _, _ => True
  | .rel _ q _ _, v, W => q v W
def tblP {G : World → World → Prop} (tbl : Nat → Option (SpS G)) (k : Nat) (_ : List Value) (v : Value) : Prop := match tbl k with | some s => spP s v | none => True
def tblC {G : World → World → Prop} (tbl : Nat → Option (SpS G)) (k : Nat) (_ : List Value) (v : Value) (W : World) : Prop := match tbl k with | some s => spC s v W | none => True
theorem tblC_stable {G : World → World → Prop} (tbl : Nat → Option (SpS G)) : ∀ k xs v W W', tblC tbl k xs v W → G W W' → tblC tbl k xs v W' := by
  intro k xs v W W' h hg
  unfold tblC at *
  split
  · rename_i s hs
    rw [hs] at h
    cases s with
    | val u => trivial
    | rel p q hp hq => exact hq v W W' h hg
  · trivial
section
variable {P : Program} {ops : Array Oper} {G : World → World → Prop} {J : Nat → World → Prop} {ks : List Nat} {tbl : Nat → Option (SpS G)} {w1 : World} {Q : Act → World → Prop} {QX : Exit → Act → World → Prop}
theorem wp_region_stg {id : Nat} {a : Act} {w : World} (l : List Oper) (tbl : Nat → Option (SpS G)) (J : Nat → World → Prop) (ks : List Nat) (hG0 : ∀ w, G w w) (hGt : ∀ a b c, G a b → G b c → G a c) (hJ : J 0 w.drew) (hkd : ∀ i, (tbl i).isSome = ks.contains i) (hm : P.follows .mixedOrders = true) (hB : Region.lexB .any l.toArray = true) (hch : chainK l.toArray ks = true) (hbk : backB l = true)
    (h : wpR P l.toArray (fun k => (tbl k).isSome) (tblP tbl) (tblC tbl) G J ks w.drew (fun a' w' => QX .normal a' w') l 0 (fun _ _ => True) a) : (Code.region id l.toArray true).wp P QX a w :=
  wp_region_rel l _ _ _ G hm hB hG0 hGt (tblC_stable tbl) J ks hkd hch hbk hJ h
theorem wp_region_stg_tail {id : Nat} {a : Act} {w : World} (l : List Oper) (n : Nat) (tbl : Nat → Option (SpS G)) (J : Nat → World → Prop) (ks : List Nat) (hG0 : ∀ w, G w w) (hGt : ∀ a b c, G a b → G b c → G a c) (hJ : J 0 w.drew) (hkd : ∀ i, (tbl i).isSome = ks.contains i) (hm : P.follows .mixedOrders = true) (hB : Region.lexTailB .any l.toArray n = true) (hch : chainK l.toArray ks = true) (hbk : backB l = true) (hkn : ks.all (· < n) = true)
    (h : wpR P l.toArray (fun k => (tbl k).isSome) (tblP tbl) (tblC tbl) G J ks w.drew (fun a' w' => wpList P l.toArray QX (l.drop n) a' w') (l.take n) 0 (fun _ _ => True) a) : (Code.region id l.toArray true).wp P QX a w :=
  wp_region_rel_tail l n _ _ _ G hm hB hG0 hGt (tblC_stable tbl) J ks hkd hch hbk hkn hJ h
theorem wpR_valS {o : Oper} {l : List Oper} {k : Nat} {F : Nat → World → Prop} {a : Act} {u : Value} (ht : tbl k = some (.val u)) (hw : Region.wanted o (yielded ops a.tmps) = true)
    (hv : ∀ W, G w1 W → J (ks.idxOf k) W → (∀ i, (o.after.toList.any fun e => Region.binds .any e && e.on == i) = true → F i W) → relUpon P G W (fun v W' => v = u ∧ J (ks.idxOf k + 1) W') ((execOp a.eval o).run P W))
    (h : ∀ K : Act → Prop, (∀ a', wpR P ops (fun k => (tbl k).isSome) (tblP tbl) (tblC tbl) G J ks w1 Q l (k + 1) (upd F k fun _ => True) a' → K a') → K (a.put o.dst u)) :
    wpR P ops (fun k => (tbl k).isSome) (tblP tbl) (tblC tbl) G J ks w1 Q (o :: l) k F a := by
  have e : (fun v W' => (tblP tbl k (Oper.argv o a) v ∧ tblC tbl k (Oper.argv o a) v W') ∧ J (ks.idxOf k + 1) W') = fun v W' => v = u ∧ J (ks.idxOf k + 1) W' := by
    funext v W'; simp [tblP, tblC, ht, spP, spC]
  refine wpR_rel hw (by simp [ht]) (fun W hW hJ hF => by rw [e]; exact hv W hW hJ hF) ⟨u, by simp [tblP, ht, spP]⟩ (fun K v hv' hK => ?_)
  simp only [tblP, ht, spP] at hv'
  subst hv'
  refine h K (fun a' h' => hK a' ?_)
  have e2 : tblC tbl k (Oper.argv o a) v = fun _ => True := by funext W; simp only [tblC, ht, spC]
  rw [e2]; exact h'
theorem wpR_propS {o : Oper} {l : List Oper} {k : Nat} {F : Nat → World → Prop} {a : Act} {p : Value → Prop} {q : Value → World → Prop} {hp : ∃ v, p v} {hq : ∀ v W W', q v W → G W W' → q v W'} (ht : tbl k = some (.rel p q hp hq)) (hw : Region.wanted o (yielded ops a.tmps) = true)
    (hv : ∀ W, G w1 W → J (ks.idxOf k) W → (∀ i, (o.after.toList.any fun e => Region.binds .any e && e.on == i) = true → F i W) → relUpon P G W (fun v W' => (p v ∧ q v W') ∧ J (ks.idxOf k + 1) W') ((execOp a.eval o).run P W))
    (h : ∀ K : Act → Prop, ∀ v, p v → (∀ a', wpR P ops (fun k => (tbl k).isSome) (tblP tbl) (tblC tbl) G J ks w1 Q l (k + 1) (upd F k (q v)) a' → K a') → K (a.put o.dst v)) :
    wpR P ops (fun k => (tbl k).isSome) (tblP tbl) (tblC tbl) G J ks w1 Q (o :: l) k F a := by
  have e : (fun v W' => (tblP tbl k (Oper.argv o a) v ∧ tblC tbl k (Oper.argv o a) v W') ∧ J (ks.idxOf k + 1) W') = fun v W' => (p v ∧ q v W') ∧ J (ks.idxOf k + 1) W' := by
    funext v W'; simp [tblP, tblC, ht, spP, spC]
  refine wpR_rel hw (by simp [ht]) (fun W hW hJ hF => by rw [e]; exact hv W hW hJ hF) (by simpa [tblP, ht, spP] using hp) (fun K v hv' hK => ?_)
  simp only [tblP, ht, spP] at hv'
  refine h K v hv' (fun a' h' => hK a' ?_)
  have e2 : tblC tbl k (Oper.argv o a) v = q v := by funext W; simp only [tblC, ht, spC]
  rw [e2]; exact h'
end
end Go.Proofs.Ytbpecfbliglboaa.Stg
