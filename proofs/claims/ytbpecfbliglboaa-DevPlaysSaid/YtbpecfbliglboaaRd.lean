/- The reference's device, as it lies in memory; its smallest calls. -/
import Derived.Test.YtbpecfbliglboaaDD
import Derived.Test.YtbpecfbliglboaaStr
import Derived.Laws.OwnMore
namespace Go.Proofs.Ytbpecfbliglboaa
open Go.RowKit Go.Maps
set_option linter.unusedVariables false
set_option linter.unusedSimpArgs false
def svl (ss : List ByteArray) : List Value := ss.map Value.string
theorem svl_len (ss : List ByteArray) : (svl ss).length = ss.length := by simp [svl]
theorem svl_one (ss : List ByteArray) : ∀ u ∈ svl ss, u.oneCell' = true := by
  intro u hu
  obtain ⟨b, _, rfl⟩ := List.mem_map.1 hu
  rfl
def wvl : List (Int × ByteArray) → List Value
  | [] => []
  | r :: rs => .int .i64 r.1 :: .string r.2 :: wvl rs
theorem wvl_len (ws : List (Int × ByteArray)) : (wvl ws).length = ws.length * 2 := by
  induction ws with
  | nil => rfl
  | cons r rs ih => simp only [wvl, List.length_cons, ih]; omega
theorem wvl_app (a b : List (Int × ByteArray)) : wvl (a ++ b) = wvl a ++ wvl b := by
  induction a with
  | nil => rfl
  | cons r rs ih => simp [wvl, ih]
theorem wvl_get (ws : List (Int × ByteArray)) (j : Nat) (hj : j < ws.length) : (wvl ws)[j * 2]? = some (.int .i64 ws[j].1) ∧ (wvl ws)[j * 2 + 1]? = some (.string ws[j].2) := by
  induction ws generalizing j with
  | nil => simp at hj
  | cons r rs ih =>
    cases j with
    | zero => exact ⟨rfl, rfl⟩
    | succ j =>
      have h := ih j (by simpa using hj)
      have e : (j + 1) * 2 = j * 2 + 1 + 1 := by omega
      rw [e]
      simp only [wvl, List.getElem?_cons_succ, List.getElem_cons_succ]
      exact h
theorem wvl_one (ws : List (Int × ByteArray)) : ∀ u ∈ wvl ws, u.oneCell' = true := by
  induction ws with
  | nil => intro u hu; simp [wvl] at hu
  | cons r rs ih =>
    intro u hu
    simp only [wvl, List.mem_cons] at hu
    rcases hu with rfl | rfl | hu
    · rfl
    · rfl
    · exact ih u hu
def wof (ws : List (Int × ByteArray)) : List (Int × List UInt8) := ws.map fun p => (p.1, p.2.data.toList)
def rdCells (d : DevMath.Dev) (rf : Int) (vs vl vk : Value) : Array Value := #[.int .i64 d.sectors, .bool d.off, vs, vl, .int .i64 rf, vk, .int .i64 d.torn]
/-- the reference's device at r: its sectors vs, what waits vl, what a fuse keeps vk -/
structure RdM (w : World) (B r : Nat) (rf : Int) (vs vl vk : Value) (d : DevMath.Dev) (ss : List ByteArray) (ws : List (Int × ByteArray)) : Prop where
  st : w.heap[r]? = some (.cells (rdCells d rf vs vl vk) 51)
  sf : w.ownsRow B 9 1 vs d.sectors (svl ss)
  ca : w.ownsRow B 85 2 vl ws.length (wvl ws)
  ke : IntV w vk d.keep
  sl : ss.length = d.sectors
  se : ∀ i, (h : i < ss.length) → ss[i].data.toList = d.sector i
  cw : wof ws = d.cache
  ff : d.fuse = max rf 0
  rb : B ≤ r
  wf : (Lit.int .i64 rf).wf = true
/-- a row stays where its block does -/
theorem orow_stay {w w1 : World} {B e size n : Nat} {v : Value} {xs : List Value} (h : w.ownsRow B e size v n xs) (hs : ∀ (k : Nat) cs fr, w.heap[k]? = some (.cells cs e fr) → w1.heap[k]? = some (.cells cs e fr)) : w1.ownsRow B e size v n xs := by
  refine ⟨h.1, ?_⟩
  rcases h.2 with hn | ⟨g, cap, cur, h1, h2, h3, h4⟩
  · exact .inl hn
  · exact .inr ⟨g, cap, cur, h1, h2, hs _ _ _ h3, h4⟩
/-- blocks of the reference's types stay -/
def TR (w w1 : World) : Prop := ∀ (k : Nat) cs (t : Nat) fr, t = 51 ∨ t = 9 ∨ t = 85 ∨ t = 3 → w.heap[k]? = some (.cells cs t fr) → w1.heap[k]? = some (.cells cs t fr)
theorem TR.int {w w1 : World} (h : TR w w1) {v : Value} {ks : List Int} (hs : IntV w v ks) : IntV w1 v ks := by
  obtain ⟨A, c, h1, h2, h4, h3⟩ := hs
  refine ⟨A, c, h1, h2, fun a e => ?_, fun hp => ?_⟩
  · obtain ⟨cs, fr, h5⟩ := h4 a e
    exact ⟨cs, fr, h _ _ _ _ (.inr (.inr (.inr rfl))) h5⟩
  · obtain ⟨a, e, hc⟩ := h3 hp
    obtain ⟨cs, fr, h5⟩ := h4 a e
    refine ⟨a, e, fun j hj => ?_⟩
    have h6 : (a.add j).block = a.block := by unfold Addr.add; split <;> rfl
    rw [World.cell?_of_block (w := w) (by rw [h6]; exact (h _ _ _ _ (.inr (.inr (.inr rfl))) h5).trans h5.symm)]
    exact hc j hj
theorem RdM.tr {w w1 : World} {B r : Nat} {rf : Int} {vs vl vk : Value} {d : DevMath.Dev} {ss : List ByteArray} {ws : List (Int × ByteArray)} (h : RdM w B r rf vs vl vk d ss ws) (ht : TR w w1) : RdM w1 B r rf vs vl vk d ss ws :=
  ⟨ht _ _ _ _ (.inl rfl) h.st, orow_stay h.sf (fun k cs fr => ht k cs _ fr (.inr (.inl rfl))), orow_stay h.ca (fun k cs fr => ht k cs _ fr (.inr (.inr (.inl rfl)))), ht.int h.ke, h.sl, h.se, h.cw, h.ff, h.rb, h.wf⟩
theorem TR.of_tk {w w1 : World} (h : TK w w1) : TR w w1 := fun k cs t fr ht hk => h k cs t fr (by rcases ht with rfl | rfl | rfl | rfl <;> decide) (by rcases ht with rfl | rfl | rfl | rfl <;> decide) hk
theorem TR.of_below {w w1 : World} (h : Below w.heap.size w w1) : TR w w1 := fun k _ _ _ _ h3 => (h.block k (Array.getElem?_eq_some_iff.1 h3).1).trans h3
/-- what the reference's calls turn -/
def OwnR (r : Nat) (vs : Value) (k : Nat) : Prop := k = r ∨ vs.ownBlock = some k
theorem RdM.low {w : World} {B r : Nat} {rf : Int} {vs vl vk : Value} {d : DevMath.Dev} {ss : List ByteArray} {ws : List (Int × ByteArray)} (h : RdM w B r rf vs vl vk d ss ws) : ∀ k, OwnR r vs k → B ≤ k := by
  intro k hk
  rcases hk with rfl | hk
  · exact h.rb
  · exact (h.sf.lt k hk).1
theorem RdM.typ {w : World} {B r : Nat} {rf : Int} {vs vl vk : Value} {d : DevMath.Dev} {ss : List ByteArray} {ws : List (Int × ByteArray)} (h : RdM w B r rf vs vl vk d ss ws) : ∀ k, OwnR r vs k → ∃ cs t, w.heap[k]? = some (.cells cs t (0, 0)) ∧ (t = 51 ∨ t = 9) := by
  intro k hk
  rcases hk with rfl | hk
  · exact ⟨_, _, h.st, .inl rfl⟩
  · rcases h.sf.2 with ⟨rfl, _⟩ | ⟨g, cap, cur, rfl, h2, h3, h4⟩
    · cases hk
    · simp [Value.ownBlock] at hk
      subst hk
      exact ⟨_, _, h3, .inr rfl⟩
theorem RdM.not {w : World} {B r : Nat} {rf : Int} {vs vl vk : Value} {d : DevMath.Dev} {ss : List ByteArray} {ws : List (Int × ByteArray)} (h : RdM w B r rf vs vl vk d ss ws) {t : Nat} (h1 : t ≠ 51) (h2 : t ≠ 9) : ∀ k, OwnR r vs k → ∀ cs fr, w.heap[k]? ≠ some (.cells cs t fr) := by
  intro k hk cs fr e
  obtain ⟨cs', t', e', ht⟩ := h.typ k hk
  rw [e'] at e
  injection e with e
  injection e with _ e
  subst e
  rcases ht with ht | ht
  · exact h1 ht
  · exact h2 ht
/-- the device's own cells turn, its sectors do not -/
theorem RdM.turn {w w1 : World} {B r : Nat} {rf rf' : Int} {vs vl vk vl' vk' : Value} {d d' : DevMath.Dev} {ss : List ByteArray} {ws ws' : List (Int × ByteArray)} (h : RdM w B r rf vs vl vk d ss ws) (hc : Chg (· = r) w w1)
    (h1 : w1.heap[r]? = some (.cells (rdCells d' rf' vs vl' vk') 51)) (hn : d'.sectors = d.sectors) (hf : d'.safe = d.safe)
    (hca : w1.ownsRow B 85 2 vl' ws'.length (wvl ws')) (hke : IntV w1 vk' d'.keep) (hcw : wof ws' = d'.cache) (hff : d'.fuse = max rf' 0) (hwf : (Lit.int .i64 rf').wf = true) : RdM w1 B r rf' vs vl' vk' d' ss ws' :=
  ⟨h1, by rw [hn]; exact orow_stay h.sf (fun k cs fr hk => hc.heap hk (fun e => by subst e; rw [h.st] at hk; injection hk with hk; injection hk with _ hk; exact absurd hk (by decide))), hca, hke, by rw [hn]; exact h.sl, fun i hi => by rw [h.se i hi]; unfold DevMath.Dev.sector; rw [hf], hcw, hff, h.rb, hwf⟩
theorem RdM.rows {w w1 : World} {B r : Nat} {rf : Int} {vs vl vk : Value} {d : DevMath.Dev} {ss : List ByteArray} {ws : List (Int × ByteArray)} (h : RdM w B r rf vs vl vk d ss ws) (hc : Chg (· = r) w w1) :
    w1.ownsRow B 85 2 vl ws.length (wvl ws) ∧ IntV w1 vk d.keep :=
  ⟨orow_stay h.ca (fun k cs fr hk => hc.heap hk (fun e => by subst e; rw [h.st] at hk; injection hk with hk; injection hk with _ hk; exact absurd hk (by decide))),
   h.ke.chg hc (fun k e cs fr hk => by subst e; rw [h.st] at hk; injection hk with hk; injection hk with _ hk; exact absurd hk (by decide))⟩
theorem ref_on (w : World) (B r : Nat) (rf : Int) (vs vl vk : Value) (d : DevMath.Dev) (ss : List ByteArray) (ws : List (Int × ByteArray)) (h : RdM w B r rf vs vl vk d ss ws) :
    Calls Try.prog 30 #[.pointer (some ⟨r, 0, none⟩)] w fun e w' => e = .returned (.tuple #[]) ∧ RdM w' B r rf vs vl vk { d with off := false } ss ws ∧ Chg (OwnR r vs) w w' := by
  have hfz := frozen_of_row _ r 1 _ _ h.st
  have hce : w.cell? ⟨r, 1, none⟩ = some (.bool d.off) := by rw [cell_of_row _ r 1 _ _ _ h.st]; rfl
  have H := Lib.hid h
  clear h
  go_enter Try.func30, Try.ntmps30
  go_wp2
  go_end0
  have hc : Chg (· = r) w (w.setCell ⟨r, 1, none⟩ (.bool false)) := Chg.setCell w r 1 _
  have hr := H.out.rows hc
  exact ⟨rfl, H.out.turn hc (heap_setCell_same w r 1 _ _ _ H.out.st) rfl rfl hr.1 hr.2 H.out.cw H.out.ff H.out.wf, hc.imp fun k hk => .inl hk⟩
theorem ref_unsafe (w : World) (B r : Nat) (rf : Int) (vs vl vk : Value) (d : DevMath.Dev) (ss : List ByteArray) (ws : List (Int × ByteArray)) (h : RdM w B r rf vs vl vk d ss ws) :
    Calls Try.prog 32 #[.pointer (some ⟨r, 0, none⟩)] w fun e w' => e = .returned (.int .i64 ws.length) ∧ w' = w := by
  have hce : w.cell? ⟨r, 3, none⟩ = some vl := by rw [cell_of_row _ r 3 _ _ _ h.st]; rfl
  obtain ⟨A, c, rfl, hc⟩ : ∃ A c, vl = .slice A ws.length c ∧ ws.length ≤ c := by
    rcases h.ca.2 with ⟨rfl, h0⟩ | ⟨g, cap, cur, rfl, _, _, h3, _⟩
    · exact ⟨none, 0, by rw [h0], by omega⟩
    · exact ⟨_, cap, rfl, h3⟩
  clear h
  generalize ws.length = n at *
  go_enter Try.func32, Try.ntmps32
  go_wp2
  go_ret
  exact ⟨rfl, rfl⟩
set_option maxRecDepth 20000 in
theorem ref_zeros (w : World) : Calls Try.prog 50 #[] w fun e w' => (∃ z : ByteArray, e = .returned (.string z) ∧ z.data.toList = DevMath.zeros) ∧ Below w.heap.size w w' := by
  have hmk : ∀ W : World, (Instr.makeSlice 33 (.int .i64 512) (.int .i64 512)).run Try.prog W = .ok (.slice (some ⟨W.heap.size, 0, none⟩) 512 512) (W.alloc (.cells (madeCells #[.int .u8 0] 512) 5)) := by
    intro W
    exact make_bytes (P := Try.prog) 33 5 Try.underlying33 info_u8 512 (by decide) W
  obtain ⟨W0, hW0⟩ : ∃ W, W = w.alloc (.cells (madeCells #[.int .u8 0] 512) 5) := ⟨_, rfl⟩
  have hM : Mb W0 w.heap.size 5 (List.replicate 512 0) := by rw [hW0]; exact Mb.made w _ 512 (by decide)
  have hcv := Rd.str (w := W0) (A := some ⟨w.heap.size, 0, none⟩) (l := List.replicate 512 0) (Mb.rd hM) 512 512 List.length_replicate
  have hb : Below w.heap.size w W0 := by rw [hW0]; exact (Below.refl _ w).alloc (Nat.le_refl _) _
  have hmk0 := hmk w
  rw [← hW0] at hmk0
  obtain ⟨z, hz⟩ : ∃ z : ByteArray, z = ⟨(List.replicate 512 (0 : UInt8)).toArray⟩ := ⟨_, rfl⟩
  rw [← hz] at hcv
  have HZ := Lib.hid hz; have HB := Lib.hid hb
  clear hz hb hM hW0 hmk
  go_enter Try.func50, Try.ntmps50
  go_wp2
  go_ret
  refine ⟨⟨_, rfl, ?_⟩, HB.out⟩
  rw [HZ.out]
  rfl
end Go.Proofs.Ytbpecfbliglboaa
