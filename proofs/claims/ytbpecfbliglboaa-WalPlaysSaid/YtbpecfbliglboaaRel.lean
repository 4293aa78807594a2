/- A statement whose order Go leaves open, where calls and literals make new memory: each operation is shown once, in the order of the text, in whatever world that has grown out of the region's first; what a literal or a call leaves is told by a relation that stays true while the world grows. -/
import Derived.Still
import Derived.Deep.Quiet
import Derived.Below
namespace Go.Proofs.Ytbpecfbliglboaa
set_option linter.unusedVariables false
set_option linter.unusedSimpArgs false
open Go.RowKit
section
variable (P : Program) (ops : Array Oper) (kd : Nat → Bool) (RP : Nat → List Value → Value → Prop) (RC : Nat → List Value → Value → World → Prop) (G : World → World → Prop) (w1 : World) (Q : Act → World → Prop)

def upd (F : Nat → World → Prop) (k : Nat) (f : World → Prop) : Nat → World → Prop := fun i => if i = k then f else F i
def Oper.argv (o : Oper) (a : Act) : List Value := o.op.operands.toList.map a.eval
/-- the value that an operation yields, the world left alone -/
def plainUpon (w : World) (v : Value) : Result Next → Prop
  | .ok (.value u) w' => w' = w ∧ u = v
  | .ok .skip w' => w' = w ∧ v = undef
  | _ => False
/-- what a literal or a call leaves: a value and a grown world, related -/
def relUpon (w : World) (R : Value → World → Prop) : Result Next → Prop
  | .ok (.value u) w' => G w w' ∧ R u w'
  | .ok .skip w' => G w w' ∧ R undef w'
  | .ok (.enter f args) w' => Calls P f args w' (fun e w'' => ∃ v, e = .returned v ∧ G w w'' ∧ R v w'')
  | _ => False
def relOp (i : Nat) (o : Oper) (F : Nat → World → Prop) (K : (World → Prop) → Act → Prop) (a : Act) : Prop :=
  if Region.wanted o (yielded ops a.tmps) then
    if kd i then
      (∀ W, G w1 W → (∀ e ∈ o.after.toList, F e.on W) → relUpon P G W (fun v W' => RP i (Oper.argv o a) v ∧ RC i (Oper.argv o a) v W') ((execOp a.eval o).run P W)) ∧ (∃ v, RP i (Oper.argv o a) v) ∧ ∀ v, RP i (Oper.argv o a) v → K (RC i (Oper.argv o a) v) (a.put o.dst v)
    else ∃ v, (∀ W, G w1 W → plainUpon W v ((execOp a.eval o).run P W)) ∧ K (fun _ => True) (a.put o.dst v)
  else K (fun _ => True) (a.put o.dst undef)
/-- the operations in the order of the text -/
def wpR : List Oper → Nat → (Nat → World → Prop) → Act → Prop
  | [], _, F, a => ∀ W, G w1 W → (∀ i, F i W) → Q a W
  | o :: l, k, F, a => relOp P ops kd RP RC G w1 k o F (fun f a' => wpR l (k + 1) (upd F k f) a') a
/-- in whatever order -/
def anyR : Nat → Array Bool → (Nat → World → Prop) → Act → Prop
  | 0, listed, F, a => Region.ready .any ops listed = [] ∧ ∀ W, G w1 W → (∀ i, F i W) → Q a W
  | n + 1, listed, F, a => (Region.ready .any ops listed = [] → ∀ W, G w1 W → (∀ i, F i W) → Q a W) ∧
      ∀ i ∈ Region.ready .any ops listed, ∀ o, ops[i]? = some o → relOp P ops kd RP RC G w1 i o F (fun f a' => anyR n (listed.setIfInBounds i true) (upd F i f) a') a
end
section
variable {P : Program} {ops : Array Oper} {kd : Nat → Bool} {RP : Nat → List Value → Value → Prop} {RC : Nat → List Value → Value → World → Prop} {G : World → World → Prop} {w1 : World} {Q : Act → World → Prop} {QX : Exit → Act → World → Prop}
theorem upd_same (F : Nat → World → Prop) (k : Nat) (f : World → Prop) : upd F k f k = f := by simp [upd]
theorem upd_ne (F : Nat → World → Prop) {k i : Nat} (f : World → Prop) (h : i ≠ k) : upd F k f i = F i := by simp [upd, h]
theorem upd_comm (F : Nat → World → Prop) {j k : Nat} (f g : World → Prop) (h : j ≠ k) : upd (upd F j f) k g = upd (upd F k g) j f := by
  funext i
  unfold upd
  by_cases h1 : i = k
  · subst h1; rw [if_pos rfl, if_neg (Ne.symm h)]
    rw [if_pos rfl]
  · by_cases h2 : i = j
    · subst h2; simp [h1]
    · simp [h1, h2]
theorem relOp_mono {i : Nat} {o : Oper} {F : Nat → World → Prop} {K K' : (World → Prop) → Act → Prop} {a : Act} (h : ∀ f a, K f a → K' f a) (hh : relOp P ops kd RP RC G w1 i o F K a) : relOp P ops kd RP RC G w1 i o F K' a := by
  unfold relOp at *
  split
  · rename_i hw
    simp only [hw, if_true] at hh
    split
    · rename_i hk; simp only [hk, if_true] at hh; exact ⟨hh.1, hh.2.1, fun v hv => h _ _ (hh.2.2 v hv)⟩
    · rename_i hk; simp only [hk] at hh; obtain ⟨v, h1, h2⟩ := hh; exact ⟨v, h1, h _ _ h2⟩
  · rename_i hw; simp only [hw] at hh; exact h _ _ hh
theorem plain_unique {w : World} {u v : Value} {r : Result Next} (h1 : plainUpon w u r) (h2 : plainUpon w v r) : u = v := by
  cases r with
  | ok n w' => cases n <;> simp only [plainUpon] at h1 h2
               case value x => exact h1.2.symm.trans h2.2
               case skip => rw [h1.2, h2.2]
  | halt x w' => simp only [plainUpon] at h1
theorem wp_of_plain {o : Oper} {a : Act} {w : World} {v : Value} {K : Act → World → Prop} (h : plainUpon w v ((execOp a.eval o).run P w)) (hK : K (a.put o.dst v) w) : o.wp P a w K QX := by
  unfold Oper.wp
  generalize (execOp a.eval o).run P w = r at *
  cases r with
  | ok n w' =>
    cases n <;> simp only [plainUpon] at h <;> simp only [Oper.upon]
    case value u => rw [h.1, h.2]; exact hK
    case skip => rw [h.1, ← h.2]; exact hK
  | halt x w' => simp only [plainUpon] at h
theorem wp_of_rel {o : Oper} {a : Act} {w : World} {R : Value → World → Prop} {K : Act → World → Prop} (h : relUpon P G w R ((execOp a.eval o).run P w)) (hK : ∀ v w', G w w' → R v w' → K (a.put o.dst v) w') : o.wp P a w K QX := by
  unfold Oper.wp
  generalize (execOp a.eval o).run P w = r at *
  cases r with
  | ok n w' =>
    cases n <;> simp only [relUpon] at h <;> simp only [Oper.upon]
    case value u => exact hK _ _ h.1 h.2
    case skip => exact hK _ _ h.1 h.2
    case enter f args => exact h.mono fun e w'' ⟨v, he, h1, h2⟩ => by subst he; exact hK _ _ h1 h2
  | halt x w' => simp only [relUpon] at h
theorem argv_put {o : Oper} {a : Act} {dst : Option Tmp} {v : Value} (h : ∀ d, dst = some d → d ∉ o.looksAt ops) : Oper.argv o (a.put dst v) = Oper.argv o a := by
  unfold Oper.argv
  refine List.map_congr_left fun x hx => Act.eval_put fun d hd hxd => h d hd ?_
  subst hxd
  exact List.mem_append_left _ (List.mem_filterMap.2 ⟨.tmp d, by simpa using hx, rfl⟩)

theorem wpAny_of_anyR (hG0 : ∀ w, G w w) (hGt : ∀ a b c, G a b → G b c → G a c) (hst : ∀ k xs v W W', RC k xs v W → G W W' → RC k xs v W') (hQ : ∀ a w, Q a w → QX .normal a w) :
    ∀ (n : Nat) (listed : Array Bool) (F : Nat → World → Prop) (a : Act) (W : World), (∀ i W W', F i W → G W W' → F i W') → G w1 W → (∀ i, F i W) →
      anyR P ops kd RP RC G w1 Q n listed F a → wpAny P .any ops QX n listed a W
  | 0, _, _, _, _, _, hG, hF, h => ⟨h.1, hQ _ _ (h.2 _ hG hF)⟩
  | n + 1, listed, F, a, W, hs, hG, hF, h => by
    refine ⟨fun h0 => hQ _ _ (h.1 h0 _ hG hF), fun i hi => ?_⟩
    unfold wpOp
    cases ho : ops[i]? with
    | none =>
      obtain ⟨_, o, ho', _⟩ := mem_ready.1 hi
      rw [ho] at ho'; cases ho'
    | some o =>
      have hr := h.2 i hi o ho
      unfold relOp at hr
      have hTrue : ∀ j W W', upd F i (fun _ => True) j W → G W W' → upd F i (fun _ => True) j W' := by
        intro j W W' h1 h2
        unfold upd at *
        split
        · trivial
        · rename_i hne; rw [if_neg hne] at h1; exact hs j W W' h1 h2
      have hTrueF : ∀ j, upd F i (fun _ => True) j W := by
        intro j
        unfold upd
        split
        · trivial
        · exact hF j
      simp only
      split
      · rename_i hw
        simp only [hw, if_true] at hr
        refine .inl ?_
        split at hr
        · refine wp_of_rel (hr.1 W hG (fun e _ => hF e.on)) ?_
          intro v W' h1 ⟨h2p, h2⟩
          refine wpAny_of_anyR hG0 hGt hst hQ n _ (upd F i (RC i (Oper.argv o a) v)) _ W' ?_ (hGt _ _ _ hG h1) ?_ (hr.2.2 v h2p)
          · intro j X X' h3 h4
            unfold upd at *
            split
            · rename_i he; rw [if_pos he] at h3; exact hst _ _ _ _ _ h3 h4
            · rename_i he; rw [if_neg he] at h3; exact hs j X X' h3 h4
          · intro j
            unfold upd
            split
            · exact h2
            · exact hs j _ _ (hF j) h1
        · obtain ⟨v, h1, h2⟩ := hr
          exact wp_of_plain (h1 W hG) (wpAny_of_anyR hG0 hGt hst hQ n _ _ _ W hTrue hG hTrueF h2)
      · rename_i hw
        simp only [hw] at hr
        exact wpAny_of_anyR hG0 hGt hst hQ n _ _ _ W hTrue hG hTrueF hr

/-- An operation j that is apart from i, seen before i was carried out. -/
theorem relOp_before {j : Nat} {oi oj : Oper} {F F' : Nat → World → Prop} {a : Act} (hap : oi.apart ops oj = true) (hsj : ∀ cs b, oj.op ≠ .select cs b) (hF : ∀ e ∈ oj.after.toList, F e.on = F' e.on)
    {v : Value} {K : (World → Prop) → Act → Prop} (h : relOp P ops kd RP RC G w1 j oj F K (a.put oi.dst v)) :
    relOp P ops kd RP RC G w1 j oj F' (fun g a' => K g (a'.put oi.dst v)) a := by
  obtain ⟨h1, h2, h3⟩ := Oper.apart_spec hap
  unfold relOp at *
  rw [wanted_put oj a oi.dst v h1, argv_put (ops := ops) h1, execOp_put oj hsj a oi.dst v h1] at h
  split
  · rename_i hw
    simp only [hw, if_true] at h
    split
    · rename_i hk
      simp only [hk, if_true] at h
      exact ⟨fun W hG hf => h.1 W hG (fun e he => by rw [hF e he]; exact hf e he), h.2.1, fun u hu => by show K _ ((a.put oj.dst u).put oi.dst v); rw [← Act.put_comm a v u h2]; exact h.2.2 u hu⟩
    · rename_i hk
      simp only [hk] at h
      obtain ⟨u, h4, h5⟩ := h
      exact ⟨u, h4, by show K _ ((a.put oj.dst u).put oi.dst v); rw [← Act.put_comm a v u h2]; exact h5⟩
  · rename_i hw
    simp only [hw] at h
    show K _ ((a.put oj.dst undef).put oi.dst v)
    rw [← Act.put_comm a v undef h2]; exact h
/-- .. and for every value that i may leave. -/
theorem relOp_all {j : Nat} {oi oj : Oper} {F : Nat → World → Prop} {F' : Value → Nat → World → Prop} {a : Act} {ok : Value → Prop} (hG : ∀ w, G w w) (hok : ∃ v, ok v) (hap : oi.apart ops oj = true) (hsj : ∀ cs b, oj.op ≠ .select cs b) (hF : ∀ v, ∀ e ∈ oj.after.toList, F' v e.on = F e.on)
    {K : Value → (World → Prop) → Act → Prop} (h : ∀ v, ok v → relOp P ops kd RP RC G w1 j oj (F' v) (K v) (a.put oi.dst v)) :
    relOp P ops kd RP RC G w1 j oj F (fun g a' => ∀ v, ok v → K v g (a'.put oi.dst v)) a := by
  have h' := fun v hv => relOp_before hap hsj (hF v) (h v hv)
  obtain ⟨v0, hv0⟩ := hok
  unfold relOp at *
  split
  · rename_i hw
    simp only [hw, if_true] at h'
    split
    · rename_i hk
      simp only [hk, if_true] at h'
      exact ⟨(h' v0 hv0).1, (h' v0 hv0).2.1, fun u hu v hv => (h' v hv).2.2 u hu⟩
    · rename_i hk
      simp only [hk] at h'
      obtain ⟨u, h4, _⟩ := h' v0 hv0
      refine ⟨u, h4, fun v hv => ?_⟩
      obtain ⟨u', h6, h7⟩ := h' v hv
      have := plain_unique (h4 w1 (hG w1)) (h6 w1 (hG w1))
      rw [this]; exact h7
  · rename_i hw
    simp only [hw] at h'
    exact h'
theorem relOp_mono' {i : Nat} {o : Oper} {F : Nat → World → Prop} {K K' : (World → Prop) → Act → Prop} {a : Act} (h : ∀ f u, K f (a.put o.dst u) → K' f (a.put o.dst u)) (hh : relOp P ops kd RP RC G w1 i o F K a) : relOp P ops kd RP RC G w1 i o F K' a := by
  unfold relOp at *
  split
  · rename_i hw
    simp only [hw, if_true] at hh
    split
    · rename_i hk; simp only [hk, if_true] at hh; exact ⟨hh.1, hh.2.1, fun v hv => h _ _ (hh.2.2 v hv)⟩
    · rename_i hk; simp only [hk] at hh; obtain ⟨v, h1, h2⟩ := hh; exact ⟨v, h1, h _ _ h2⟩
  · rename_i hw; simp only [hw] at hh; exact h _ _ hh
/-- The relation of one operation, put into the form 'for every value that it may leave' (one value where it is plain or not wanted). -/
theorem relOp_cases {i : Nat} {oi : Oper} {F : Nat → World → Prop} {K : (World → Prop) → Act → Prop} {a : Act} (h : relOp P ops kd RP RC G w1 i oi F K a) :
    (∃ (f : Value → World → Prop) (ok : Value → Prop), (∃ v, ok v) ∧ (∀ v, ok v → K (f v) (a.put oi.dst v)) ∧
      ∀ K' : (World → Prop) → Act → Prop, ∀ oj u, oi.apart ops oj = true → (∀ cs b, oi.op ≠ .select cs b) → ∀ F' : Nat → World → Prop, (∀ e ∈ oi.after.toList, F' e.on = F e.on) → (∀ v, ok v → K' (f v) ((a.put oj.dst u).put oi.dst v)) → relOp P ops kd RP RC G w1 i oi F' K' (a.put oj.dst u)) := by
  by_cases hw : Region.wanted oi (yielded ops a.tmps) = true
  · by_cases hk : kd i = true
    · have h0 := h
      unfold relOp at h
      simp only [hw, hk, if_true] at h
      refine ⟨fun v => RC i (Oper.argv oi a) v, fun v => RP i (Oper.argv oi a) v, h.2.1, fun v hv => h.2.2 v hv, fun K' oj u hap hsi F' hF hK => ?_⟩
      obtain ⟨_, _, h3⟩ := Oper.apart_spec hap
      unfold relOp
      rw [wanted_put oi a oj.dst u h3, argv_put (ops := ops) h3, execOp_put oi hsi a oj.dst u h3]
      simp only [hw, hk, if_true]
      exact ⟨fun W hG hf => h.1 W hG (fun e he => by rw [← hF e he]; exact hf e he), h.2.1, fun v hv => hK v hv⟩
    · unfold relOp at h
      simp only [hw, hk, if_true] at h
      obtain ⟨v0, h4, h5⟩ := h
      refine ⟨fun _ _ => True, fun v => v = v0, ⟨v0, rfl⟩, fun v hv => by subst hv; exact h5, fun K' oj u hap hsi F' hF hK => ?_⟩
      obtain ⟨_, _, h3⟩ := Oper.apart_spec hap
      unfold relOp
      rw [wanted_put oi a oj.dst u h3, execOp_put oi hsi a oj.dst u h3]
      simp only [hw, hk, if_true]
      exact ⟨v0, h4, hK v0 rfl⟩
  · unfold relOp at h
    simp only [hw] at h
    refine ⟨fun _ _ => True, fun v => v = undef, ⟨undef, rfl⟩, fun v hv => by subst hv; exact h, fun K' oj u hap hsi F' hF hK => ?_⟩
    obtain ⟨_, _, h3⟩ := Oper.apart_spec hap
    unfold relOp
    rw [wanted_put oi a oj.dst u h3]
    simp only [hw]
    exact hK undef rfl
theorem anyR_first {i : Nat} {oi : Oper} (hi : ops[i]? = some oi) (hsel : ∀ (j : Nat) (o : Oper) cs b, ops[j]? = some o → o.op ≠ .select cs b) (hG0 : ∀ w, G w w) :
    ∀ (n : Nat) (listed : Array Bool) (F : Nat → World → Prop) (a : Act),
      (∀ j oj, ops[j]? = some oj → j ≠ i → listed.getD j true = false → (∀ e ∈ oj.after, Region.binds .any e = true → e.on ≠ i) → oi.apart ops oj = true) →
      (∀ (j : Nat) (o : Oper), ops[j]? = some o → ∀ e ∈ o.after.toList, Region.binds .any e = true) →
      i ∈ Region.ready .any ops listed → relOp P ops kd RP RC G w1 i oi F (fun f a' => anyR P ops kd RP RC G w1 Q n (listed.setIfInBounds i true) (upd F i f) a') a → anyR P ops kd RP RC G w1 Q (n + 1) listed F a := by
  intro n
  induction n with
  | zero =>
    intro listed F a _ hbind hr h
    refine ⟨fun h0 => (by rw [h0] at hr; cases hr), fun j hj oj hoj => ?_⟩
    by_cases hji : j = i
    · subst hji
      rw [hi] at hoj
      cases hoj
      exact h
    · obtain ⟨f, ok, ⟨v, hv⟩, hK, _⟩ := relOp_cases h
      have h1 := (hK v hv).1
      have := ready_mono hj hji
      rw [h1] at this
      cases this
  | succ n ih =>
    intro listed F a hfree hbind hr h
    refine ⟨fun h0 => (by rw [h0] at hr; cases hr), fun j hj oj hoj => ?_⟩
    by_cases hji : j = i
    · subst hji
      rw [hi] at hoj
      cases hoj
      exact h
    · obtain ⟨hjun, oj', hoj', hall⟩ := mem_ready.1 hj
      rw [hoj] at hoj'
      cases hoj'
      have hiun := (mem_ready.1 hr).1
      have hnot : ∀ e ∈ oj.after, Region.binds .any e = true → e.on ≠ i := fun e he hb heq => by
        have h1 := hall e he hb
        rw [heq] at h1
        rcases Nat.lt_or_ge i listed.size with h' | h'
        · simp [h'] at hiun h1; rw [hiun] at h1; cases h1
        · simp [Array.getElem?_eq_none h'] at h1
      have hnoti : ∀ e ∈ oi.after, Region.binds .any e = true → e.on ≠ j := fun e he hb heq => by
        obtain ⟨_, oi', hoi', hall'⟩ := mem_ready.1 hr
        rw [hi] at hoi'
        cases hoi'
        have h1 := hall' e he hb
        rw [heq] at h1
        rcases Nat.lt_or_ge j listed.size with h' | h'
        · simp [h'] at hjun h1; rw [hjun] at h1; cases h1
        · simp [Array.getElem?_eq_none h'] at h1
      have hap := hfree j oj hoj hji hjun hnot
      obtain ⟨f, ok, hok, hK, hmk⟩ := relOp_cases h
      have h2 := relOp_all (F := F) (F' := fun v => upd F i (f v)) (K := fun v g a' => anyR P ops kd RP RC G w1 Q n ((listed.setIfInBounds i true).setIfInBounds j true) (upd (upd F i (f v)) j g) a') hG0 hok hap (fun cs b => hsel j oj cs b hoj)
        (fun v e he => upd_ne F (f v) (hnot e (by simpa using he) (hbind j oj hoj e he))) (fun v hv => (hK v hv).2 j (ready_mono hj hji) oj hoj)
      refine relOp_mono' (fun g u h3 => ih (listed.setIfInBounds j true) (upd F j g) _ ?_ hbind (ready_mono hr (Ne.symm hji)) ?_) h2
      · intro k ok hk hki hun hno
        refine hfree k ok hk hki ?_ hno
        by_cases hjk : j = k
        · subst hjk; exact hjun
        · rw [getD_set_ne true hjk] at hun; exact hun
      · refine hmk _ oj u hap (fun cs b => hsel i oi cs b hi) (upd F j g) (fun e he => upd_ne F g (hnoti e (by simpa using he) (hbind i oi hi e he))) (fun v hv => ?_)
        have h4 := h3 v hv
        rw [Array.setIfInBounds_comm _ _ hji, upd_comm F g (f v) hji]
        exact h4
theorem anyR_lex (hs : Region.noSelect ops = true) (hbind : ∀ (j : Nat) (o : Oper), ops[j]? = some o → ∀ e ∈ o.after.toList, Region.binds .any e = true) (hG0 : ∀ w, G w w) : ∀ (l : List Oper) (k : Nat) (listed : Array Bool) (F : Nat → World → Prop) (a : Act), (∀ j, l[j]? = ops[k + j]?) →
    Region.lexFrom .any ops l.length k listed = true → wpR P ops kd RP RC G w1 Q l k F a → anyR P ops kd RP RC G w1 Q l.length listed F a
  | [], _, _, _, _, _, hB, h => ⟨by simpa [Region.lexFrom] using hB, h⟩
  | o :: l, k, listed, F, a, hl, hB, h => by
    have h0 : ops[k]? = some o := by simpa using (hl 0).symm
    simp only [List.length_cons, Region.lexFrom, Bool.and_eq_true] at hB
    obtain ⟨⟨hr, hf⟩, hB'⟩ := hB
    exact anyR_first h0 (Region.noSelect_spec hs) hG0 l.length listed F a (Region.free_spec h0 hf) hbind (by simpa using hr)
      (relOp_mono (fun f a' h' => anyR_lex hs hbind hG0 l (k + 1) _ _ a' (fun j => by have := hl (j + 1); simpa [Nat.add_assoc, Nat.add_comm 1 j] using this) hB' h') h)
/-- THE REGION. -/
theorem wp_region_rel {id : Nat} {a : Act} {w : World} (l : List Oper) (kd : Nat → Bool) (RP : Nat → List Value → Value → Prop) (RC : Nat → List Value → Value → World → Prop) (G : World → World → Prop) (hm : P.follows .mixedOrders = true) (hB : Region.lexB .any l.toArray = true) (hb : l.all (fun o => o.after.toList.all fun e => Region.binds .any e) = true)
    (hG0 : ∀ w, G w w) (hGt : ∀ a b c, G a b → G b c → G a c) (hst : ∀ k xs v W W', RC k xs v W → G W W' → RC k xs v W')
    (h : wpR P l.toArray kd RP RC G w.drew (fun a' w' => QX .normal a' w') l 0 (fun _ _ => True) a) : (Code.region id l.toArray true).wp P QX a w := by
  simp only [Region.lexB, Bool.and_eq_true] at hB
  have hbind : ∀ (j : Nat) (o : Oper), l.toArray[j]? = some o → ∀ e ∈ o.after.toList, Region.binds .any e = true := by
    intro j o ho e he
    have h1 := List.all_eq_true.1 hb o (by simpa using Array.mem_of_getElem? ho)
    exact List.all_eq_true.1 h1 e he
  refine wp_region_any hm ?_
  have := anyR_lex (Q := fun a' w' => QX .normal a' w') hB.1 hbind hG0 l 0 (Array.replicate l.toArray.size false) (fun _ _ => True) a (by simp) (by simpa using hB.2) h
  exact wpAny_of_anyR hG0 hGt hst (fun _ _ h => h) _ _ _ _ _ (fun _ _ _ _ _ => trivial) (hG0 _) (fun _ => trivial) this
/-! ### the steps, for the walk -/
theorem plainUpon_value (w : World) (v u : Value) (w' : World) : plainUpon w v (.ok (.value u) w') = (w' = w ∧ u = v) := rfl
@[simp] theorem plainUpon_skip (w : World) (v : Value) (w' : World) : plainUpon w v (.ok .skip w') = (w' = w ∧ v = undef) := rfl
theorem relUpon_value (w : World) (R : Value → World → Prop) (u : Value) (w' : World) : relUpon P G w R (.ok (.value u) w') = (G w w' ∧ R u w') := rfl
theorem relUpon_enter (w : World) (R : Value → World → Prop) (f : FuncId) (args : Array Value) (w' : World) : relUpon P G w R (.ok (.enter f args) w') = Calls P f args w' (fun e w'' => ∃ v, e = .returned v ∧ G w w'' ∧ R v w'') := rfl
theorem wpR_nil {k : Nat} {F : Nat → World → Prop} {a : Act} (h : ∀ W, G w1 W → (∀ i, F i W) → Q a W) : wpR P ops kd RP RC G w1 Q [] k F a := h
theorem wpR_plain {o : Oper} {l : List Oper} {k : Nat} {F : Nat → World → Prop} {a : Act} (hw : Region.wanted o (yielded ops a.tmps) = true) (hk : kd k = false)
    (h : ∀ K : Act → Prop, (∀ a', wpR P ops kd RP RC G w1 Q l (k + 1) (upd F k fun _ => True) a' → K a') → ∃ v, (∀ W, G w1 W → plainUpon W v ((execOp a.eval o).run P W)) ∧ K (a.put o.dst v)) : wpR P ops kd RP RC G w1 Q (o :: l) k F a := by
  obtain ⟨v, h1, h2⟩ := h _ (fun _ h => h)
  unfold wpR relOp
  simp only [hw, hk, if_true]
  exact ⟨v, h1, h2⟩
theorem wpR_skip {o : Oper} {l : List Oper} {k : Nat} {F : Nat → World → Prop} {a : Act} (hw : Region.wanted o (yielded ops a.tmps) = false)
    (h : ∀ K : Act → Prop, (∀ a', wpR P ops kd RP RC G w1 Q l (k + 1) (upd F k fun _ => True) a' → K a') → K (a.put o.dst undef)) : wpR P ops kd RP RC G w1 Q (o :: l) k F a := by
  have h2 := h _ (fun _ h => h)
  unfold wpR relOp
  simp only [hw]
  exact h2
theorem wpR_rel {o : Oper} {l : List Oper} {k : Nat} {F : Nat → World → Prop} {a : Act} (hw : Region.wanted o (yielded ops a.tmps) = true) (hk : kd k = true)
    (hv : ∀ W, G w1 W → (∀ i, (o.after.toList.any fun e => e.on == i) = true → F i W) → relUpon P G W (fun v W' => RP k (Oper.argv o a) v ∧ RC k (Oper.argv o a) v W') ((execOp a.eval o).run P W)) (hex : ∃ v, RP k (Oper.argv o a) v)
    (h : ∀ K : Act → Prop, ∀ v, RP k (Oper.argv o a) v → (∀ a', wpR P ops kd RP RC G w1 Q l (k + 1) (upd F k (RC k (Oper.argv o a) v)) a' → K a') → K (a.put o.dst v)) : wpR P ops kd RP RC G w1 Q (o :: l) k F a := by
  unfold wpR relOp
  simp only [hw, hk, if_true]
  exact ⟨fun W hG hf => hv W hG (fun i hi => by
    obtain ⟨e, he, h1⟩ := List.any_eq_true.1 hi
    have : e.on = i := by simpa using h1
    rw [← this]; exact hf e he), hex, fun v hp => h _ v hp (fun _ h => h)⟩
end

/-- The world has grown: below B nothing has turned, and each row of cells holds what it held. -/
def Gr (B : Nat) (W W' : World) : Prop := Below B W W' ∧ ∀ (k : Nat) (c : Array Value) (e : TypeId) (fr : Nat × Nat), W.heap[k]? = some (Obj.cells c e fr) → ∃ fr', W'.heap[k]? = some (Obj.cells c e fr')
theorem Gr.refl (B : Nat) (W : World) : Gr B W W := ⟨Below.refl _ _, fun _ _ _ fr h => ⟨fr, h⟩⟩
theorem Gr.trans {B : Nat} {a b c : World} (h : Gr B a b) (k : Gr B b c) : Gr B a c := ⟨h.1.trans k.1, fun i x e fr hx => by
  obtain ⟨fr', h1⟩ := h.2 i x e fr hx
  exact k.2 i x e fr' h1⟩
theorem Gr.of_below {B : Nat} {W W' : World} (h : Below W.heap.size W W') (hB : B ≤ W.heap.size) : Gr B W W' :=
  ⟨h.mono hB, fun k c e fr hk => ⟨fr, (h.block k (Array.getElem?_eq_some_iff.1 hk).1).trans hk⟩⟩
theorem Gr.alloc {B : Nat} (W : World) (o : Obj) (hB : B ≤ W.heap.size) : Gr B W (W.alloc o) := Gr.of_below ((Below.refl _ W).alloc (Nat.le_refl _) o) hB
theorem Gr.size {B : Nat} {W W' : World} (h : Gr B W W') : W.heap.size ≤ W'.heap.size := h.1.size
/-- A slice that a literal made: its block holds the parts. -/
def LitB (e : TypeId) (xs : List Value) (v : Value) (W : World) : Prop :=
  match v with
  | .slice (some a) _ _ => ∃ fr, W.heap[a.block]? = some (.cells xs.toArray e fr)
  | _ => False
theorem LitB.grow {B : Nat} {e : TypeId} {xs : List Value} {v : Value} {W W' : World} (h : LitB e xs v W) (hg : Gr B W W') : LitB e xs v W' := by
  unfold LitB at *
  split at h
  · obtain ⟨fr, h2⟩ := h
    obtain ⟨fr', h3⟩ := hg.2 _ _ e fr h2
    exact ⟨fr', h3⟩
  · exact h.elim
theorem heap_fr (W : World) (cs : Array Value) (e : TypeId) : ∃ fr, (W.alloc (.cells cs e)).heap[W.heap.size]? = some (Obj.cells cs e fr) := ⟨(0, 0), by show (W.heap.push _)[W.heap.size]? = _; simp⟩
theorem LitB.new {e : TypeId} {xs : List Value} {n c : Nat} {W : World} : LitB e xs (.slice (some ⟨W.heap.size, 0, none⟩) n c) (W.alloc (.cells xs.toArray e)) :=
  ⟨(0, 0), by show (W.heap.push _)[W.heap.size]? = _; simp⟩
/-- what an operation of the region leaves: a literal's slice · a value · a value with a property that stays true -/
inductive Sp where
  | lit (e : TypeId)
  | val (u : Value)
  | rel (p : Value → Prop) (q : Value → World → Prop) (hp : ∃ v, p v) (hq : ∀ (B : Nat) v W W', q v W → Gr B W W' → q v W')
def spP : Sp → List Value → Value → Prop
  | .lit _, xs, v => ∃ g, v = .slice (some ⟨g, 0, none⟩) xs.length xs.length
  | .val u, _, v => v = u
  | .rel p _ _ _, _, v => p v
def spC : Sp → List Value → Value → World → Prop
  | .lit e, xs, v, W => LitB e xs v W
  | .val _, _, _, _ => True
  | .rel _ q _ _, _, v, W => q v W
def tblP (tbl : Nat → Option Sp) (k : Nat) (xs : List Value) (v : Value) : Prop := match tbl k with | some s => spP s xs v | none => True
def tblC (tbl : Nat → Option Sp) (k : Nat) (xs : List Value) (v : Value) (W : World) : Prop := match tbl k with | some s => spC s xs v W | none => True
theorem tblC_stable {B : Nat} (tbl : Nat → Option Sp) : ∀ k xs v W W', tblC tbl k xs v W → Gr B W W' → tblC tbl k xs v W' := by
  intro k xs v W W' h hg
  unfold tblC at *
  split
  · rename_i s hs
    rw [hs] at h
    cases s with
    | lit e => exact LitB.grow h hg
    | val u => trivial
    | rel p q hp hq => exact hq B v W W' h hg
  · trivial
section
variable {P : Program} {ops : Array Oper} {tbl : Nat → Option Sp} {B : Nat} {w1 : World} {Q : Act → World → Prop} {QX : Exit → Act → World → Prop}
theorem wp_region_tbl {id : Nat} {a : Act} {w : World} (l : List Oper) (tbl : Nat → Option Sp) (B : Nat) (hm : P.follows .mixedOrders = true) (hB : Region.lexB .any l.toArray = true) (hb : l.all (fun o => o.after.toList.all fun e => Region.binds .any e) = true)
    (h : wpR P l.toArray (fun k => (tbl k).isSome) (tblP tbl) (tblC tbl) (Gr B) w.drew (fun a' w' => QX .normal a' w') l 0 (fun _ _ => True) a) : (Code.region id l.toArray true).wp P QX a w :=
  wp_region_rel l _ _ _ (Gr B) hm hB hb (Gr.refl _) (fun _ _ _ => Gr.trans) (tblC_stable tbl) h
theorem wpR_lit {o : Oper} {l : List Oper} {k : Nat} {F : Nat → World → Prop} {a : Act} {e : TypeId} (ht : tbl k = some (.lit e)) (hw : Region.wanted o (yielded ops a.tmps) = true) (hB : B ≤ w1.heap.size)
    (hh : ∃ (xs : List Value) (n : Nat), (∀ W : World, (execOp a.eval o).run P W = .ok (.value (.slice (some ⟨W.heap.size, 0, none⟩) n n)) (W.alloc (.cells xs.toArray e))) ∧ xs.length = n ∧ Oper.argv o a = xs ∧
      ∀ K : Act → Prop, ∀ g, (∀ a', wpR P ops (fun k => (tbl k).isSome) (tblP tbl) (tblC tbl) (Gr B) w1 Q l (k + 1) (upd F k (LitB e xs (.slice (some ⟨g, 0, none⟩) n n))) a' → K a') → K (a.put o.dst (.slice (some ⟨g, 0, none⟩) n n))) :
    wpR P ops (fun k => (tbl k).isSome) (tblP tbl) (tblC tbl) (Gr B) w1 Q (o :: l) k F a := by
  obtain ⟨xs, n, hv, hn, hx, h⟩ := hh
  subst hx; subst hn
  refine wpR_rel hw (by simp [ht]) (fun W hW _ => ?_) ⟨.slice (some ⟨0, 0, none⟩) _ _, by simp only [tblP, ht, spP]; exact ⟨0, rfl⟩⟩ (fun K v hv' hK => ?_)
  · rw [hv W, relUpon_value]
    refine ⟨Gr.alloc _ _ (Nat.le_trans hB hW.size), ?_, ?_⟩
    · simp only [tblP, ht, spP]; exact ⟨_, rfl⟩
    · simp only [tblC, ht, spC]; exact heap_fr _ _ _
  · simp only [tblP, ht, spP] at hv'
    obtain ⟨g, rfl⟩ := hv'
    refine h K g (fun a' h' => hK a' ?_)
    have e2 : tblC tbl k (Oper.argv o a) (.slice (some ⟨g, 0, none⟩) (Oper.argv o a).length (Oper.argv o a).length) = LitB e (Oper.argv o a) (.slice (some ⟨g, 0, none⟩) (Oper.argv o a).length (Oper.argv o a).length) := by
      funext W; simp only [tblC, ht, spC]
    rw [e2]; exact h'
theorem wpR_val {o : Oper} {l : List Oper} {k : Nat} {F : Nat → World → Prop} {a : Act} {u : Value} (ht : tbl k = some (.val u)) (hw : Region.wanted o (yielded ops a.tmps) = true)
    (hv : ∀ W, Gr B w1 W → (∀ i, (o.after.toList.any fun e => e.on == i) = true → F i W) → relUpon P (Gr B) W (fun v _ => v = u) ((execOp a.eval o).run P W))
    (h : ∀ K : Act → Prop, (∀ a', wpR P ops (fun k => (tbl k).isSome) (tblP tbl) (tblC tbl) (Gr B) w1 Q l (k + 1) (upd F k fun _ => True) a' → K a') → K (a.put o.dst u)) :
    wpR P ops (fun k => (tbl k).isSome) (tblP tbl) (tblC tbl) (Gr B) w1 Q (o :: l) k F a := by
  have e : (fun v W' => tblP tbl k (Oper.argv o a) v ∧ tblC tbl k (Oper.argv o a) v W') = fun v (_ : World) => v = u := by
    funext v W'; simp [tblP, tblC, ht, spP, spC]
  refine wpR_rel hw (by simp [ht]) (fun W hW hF => by rw [e]; exact hv W hW hF) ⟨u, by simp [tblP, ht, spP]⟩ (fun K v hv' hK => ?_)
  simp only [tblP, ht, spP] at hv'
  subst hv'
  refine h K (fun a' h' => hK a' ?_)
  have e2 : tblC tbl k (Oper.argv o a) v = fun _ => True := by funext W; simp only [tblC, ht, spC]
  rw [e2]; exact h'
theorem wpR_prop {o : Oper} {l : List Oper} {k : Nat} {F : Nat → World → Prop} {a : Act} {p : Value → Prop} {q : Value → World → Prop} {hp : ∃ v, p v} {hq : ∀ (B : Nat) v W W', q v W → Gr B W W' → q v W'} (ht : tbl k = some (.rel p q hp hq)) (hw : Region.wanted o (yielded ops a.tmps) = true)
    (hv : ∀ W, Gr B w1 W → (∀ i, (o.after.toList.any fun e => e.on == i) = true → F i W) → relUpon P (Gr B) W (fun v W' => p v ∧ q v W') ((execOp a.eval o).run P W))
    (h : ∀ K : Act → Prop, ∀ v, p v → (∀ a', wpR P ops (fun k => (tbl k).isSome) (tblP tbl) (tblC tbl) (Gr B) w1 Q l (k + 1) (upd F k (q v)) a' → K a') → K (a.put o.dst v)) :
    wpR P ops (fun k => (tbl k).isSome) (tblP tbl) (tblC tbl) (Gr B) w1 Q (o :: l) k F a := by
  have e : (fun v W' => tblP tbl k (Oper.argv o a) v ∧ tblC tbl k (Oper.argv o a) v W') = fun v W' => p v ∧ q v W' := by
    funext v W'; simp [tblP, tblC, ht, spP, spC]
  refine wpR_rel hw (by simp [ht]) (fun W hW hF => by rw [e]; exact hv W hW hF) (by simpa [tblP, ht, spP] using hp) (fun K v hv' hK => ?_)
  simp only [tblP, ht, spP] at hv'
  refine h K v hv' (fun a' h' => hK a' ?_)
  have e2 : tblC tbl k (Oper.argv o a) v = q v := by funext W; simp only [tblC, ht, spC]
  rw [e2]; exact h'
end
end Go.Proofs.Ytbpecfbliglboaa
