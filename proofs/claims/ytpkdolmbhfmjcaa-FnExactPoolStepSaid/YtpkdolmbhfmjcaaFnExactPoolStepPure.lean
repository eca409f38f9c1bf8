/- The pool's step: program and reference answer alike, and no row is shared. -/
import Derived.Test.YtpkdolmbhfmjcaaFnExactPoolStepS
import Derived.Test.YtpkdolmbhfmjcaaGwP
set_option linter.unusedVariables false
set_option linter.unusedSimpArgs false
set_option linter.unusedSectionVars false
namespace Go.Proofs.Ytpkdolmbhfmjcaa.FnExactPoolStep
open Go.RowKit Go.Proofs.Gw
/-! ### Rows of numbers: measured, copied, compared, marked -/
theorem szIntS_ok {a : List Int} {b : Int} (hb : 0 ≤ b ∧ b ≤ 1048576) (ha : a.length ≤ maxLen) : laws_szIntS a b = some (if (a.length : Int) ≤ b then b - a.length else -1) := by
  have : (a.length : Int) ≤ 9223372036854775807 := by unfold maxLen at ha; omega
  unfold laws_szIntS
  rw [wr (by omega)]
  by_cases h : (a.length : Int) ≤ b
  · rw [if_pos h, decide_eq_false (by omega)]; rfl
  · rw [if_neg h, decide_eq_true (by omega)]; rfl
theorem toIntS_ok {F : Nat} (hF : 2097152 ≤ F) {a : List Int} (h : a.length ≤ 1500000) : laws_toIntS F a = some a := by
  unfold laws_toIntS
  rw [gd_pos (by omega), copy_all (f := laws_toIntS_l1 F a) (by omega)]
  · rfl
  · intro k s; simp [laws_toIntS_l1]
  · intro k s i h0 h1 h2
    simp only [laws_toIntS_l1, decide_eq_true h1, cond_true]
    simp (disch := omega) only [gd_pos, wr]
theorem eqIntS_ok {F : Nat} (hF : 2097152 ≤ F) {a : List Int} (h : a.length ≤ 1500000) : laws_eqIntS F a a = some true := by
  unfold laws_eqIntS
  have := same_loop (n := a.length) (v := Fl.go ()) (f := laws_eqIntS_l1 F a a) (fun k => by simp [laws_eqIntS_l1]) (fun k i h0 h1 => by
    simp only [laws_eqIntS_l1, decide_eq_true h1, cond_true]
    simp (disch := omega) only [gd_pos, wr]
    simp) a.length 0 F (by omega) (by omega)
  simp at this
  simp [this, Fl.on]
def mInt : Int → Int → Int × Int := fun _ c => (c, c + 1)
theorem mInt_up : ∀ x c : Int, True → c ≤ (mInt x c).2 ∧ (mInt x c).2 ≤ c + (1 : Nat) := fun x c _ => by simp [mInt]; omega
theorem markIntS_ok {F : Nat} (hF : 2097152 ≤ F) {a : List Int} (h : a.length ≤ 1500000) {c : Int} (hc : 0 ≤ c ∧ c ≤ 1152921504606846976) : laws_markIntS F a c = some ((markL mInt a c).2, (markL mInt a c).1) := by
  have := mark_loop mInt_up (B := 2305843009213693952) (f := laws_markIntS_l1 F) (fun k s c => by simp [laws_markIntS_l1]) (fun k s c i h0 h1 h2 h3 h4 _ => by
    simp only [laws_markIntS_l1, decide_eq_true h1, cond_true, mInt]
    simp (disch := omega) only [gd_pos, wr]) a [] c F (fun _ _ => trivial) (by omega) (by simp; omega) (by omega) (by omega)
  simp at this
  simp [laws_markIntS, this]
theorem heldIntS_ok {F : Nat} (hF : 2097152 ≤ F) {a : List Int} (h : a.length ≤ 1500000) {c : Int} (hc : 0 ≤ c ∧ c ≤ 1152921504606846976) : laws_heldIntS F (markL mInt a c).1 c = some (markL mInt a c).2 := by
  have := held_loop mInt_up (B := 2305843009213693952) (a := (markL mInt a c).1) (f := laws_heldIntS_l1 F (markL mInt a c).1) (fun k c => by simp [laws_heldIntS_l1]) (fun k c x i h0 h1 h2 h3 h4 _ h5 => by
    simp only [laws_heldIntS_l1, decide_eq_true h1, cond_true, h5, mInt]
    simp (disch := omega) only [gd_pos, wr]
    simp) (by rw [markL_len]; omega) a [] c F rfl (fun _ _ => trivial) (by omega) (by omega) (by omega)
  simp at this
  simp [laws_heldIntS, this, Fl.on]
theorem mInt_le {a : List Int} (h : a.length ≤ 1500000) (c : Int) : c ≤ (markL mInt a c).2 ∧ (markL mInt a c).2 ≤ c + 1500000 := by
  have := markL_up mInt_up a c (fun _ _ => trivial)
  omega
/-! ### A pool looked over -/
def In0 (p : impl_Pool) : Prop := (1 ≤ p.Owner.length ∧ p.Owner.length ≤ 32) ∧ ∀ x ∈ p.Free, 0 ≤ x ∧ x < (p.Owner.length : Int)
theorem ix_set_b {s : List Bool} {x j : Int} {v : Bool} (hx : 0 ≤ x ∧ x < (s.length : Int)) (hj : 0 ≤ j) : ix (s.set x.toNat v) j = if j = x then v else ix s j := by
  by_cases h : j = x
  · rw [if_pos h]; subst h; exact ix_set_self hx.1 hx.2
  · rw [if_neg h]
    have : x.toNat ≠ j.toNat := by omega
    simp [ix, List.getD_eq_getElem?_getD, List.getElem?_set_ne this]
theorem ok1 {F : Nat} {p : impl_Pool} (hn : 1 ≤ p.Owner.length ∧ p.Owner.length ≤ 32) (hl : p.Free.length ≤ 1048576) : ∀ (m i k k' : Nat) (s s' : List Bool), i + m = p.Free.length → m < k → m < k' → s.length = 32 → s'.length = p.Owner.length → (∀ j : Int, 0 ≤ j → j < p.Owner.length → ix s j = ix s' j) →
    (∀ x ∈ p.Free.take i, 0 ≤ x ∧ x < (p.Owner.length : Int)) → T (impl_PoolOK_l1 F p k s i) fun r => T (spec_PoolOK_l1 F p k' s' i) fun r' => (r = .out false ∧ r' = .out false) ∨ ∃ s s', r = .go s ∧ r' = .go s' ∧ s.length = 32 ∧ s'.length = p.Owner.length ∧ (∀ j : Int, 0 ≤ j → j < p.Owner.length → ix s j = ix s' j) ∧ ∀ x ∈ p.Free, 0 ≤ x ∧ x < (p.Owner.length : Int)
  | 0, i, k, k', s, s', hi, hk, hk', h1, h2, h3, h4 => by
    obtain ⟨k, rfl⟩ : ∃ m, k = m + 1 := ⟨k - 1, by omega⟩
    obtain ⟨k', rfl⟩ : ∃ m, k' = m + 1 := ⟨k' - 1, by omega⟩
    have hi' : i = p.Free.length := by omega
    subst hi'
    rw [List.take_length] at h4
    simp only [impl_PoolOK_l1, spec_PoolOK_l1, decide_eq_false (Int.lt_irrefl _), cond_false]
    exact T_some (T_some (.inr ⟨s, s', rfl, rfl, h1, h2, h3, h4⟩))
  | m + 1, i, k, k', s, s', hi, hk, hk', h1, h2, h3, h4 => by
    obtain ⟨k, rfl⟩ : ∃ m, k = m + 1 := ⟨k - 1, by omega⟩
    obtain ⟨k', rfl⟩ : ∃ m, k' = m + 1 := ⟨k' - 1, by omega⟩
    have hlt : i < p.Free.length := by omega
    have e : ix p.Free (i : Int) = p.Free[i] := by simp [ix, List.getD_eq_getElem?_getD, List.getElem?_eq_getElem hlt]
    simp only [impl_PoolOK_l1, spec_PoolOK_l1, decide_eq_true (show (i : Int) < p.Free.length by omega), cond_true, impl_inRange, spec_l01In, Option.bind_some]
    generalize hx : ix p.Free (i : Int) = x at *
    repeat rw [gd_pos (by first | assumption | omega | (intro; first | assumption | omega) | (intro h; cases h; done) | (simp; done) | (simp; omega) | (intros; simp at *; omega))]
    try simp (disch := omega) only [wr]
    by_cases hr : 0 ≤ x ∧ x ≤ (p.Owner.length : Int) - 1
    · have hd : (decide (0 ≤ x) && decide (x ≤ (p.Owner.length : Int) - 1)) = true := by simp [hr]
      simp only [hd, Bool.not_true, Bool.not_false, Bool.false_or]
      repeat rw [gd_pos (by first | assumption | omega | (intro; first | assumption | omega) | (intro h; cases h; done) | (simp; done) | (simp; omega) | (intros; simp at *; omega))]
      rw [← h3 x hr.1 (by omega)]
      cases hv : ix s x with
      | true => exact T_some (T_some (.inl ⟨rfl, rfl⟩))
      | false =>
        simp only [cond_false]
        repeat rw [gd_pos (by first | assumption | omega | (intro; first | assumption | omega) | (intro h; cases h; done) | (simp; done) | (simp; omega) | (intros; simp at *; omega))]
        try simp (disch := omega) only [wr]
        refine ok1 hn hl m (i + 1) k k' _ _ (by omega) (by omega) (by omega) (by simpa using h1) (by simpa using h2) (fun j hj hj' => ?_) (fun y hy => ?_)
        · rw [ix_set_b (by omega) hj, ix_set_b (by omega) hj, h3 j hj hj']
        · rw [List.take_succ_eq_append_getElem hlt, List.mem_append] at hy
          rcases hy with hy | hy
          · exact h4 y hy
          · have : y = x := by rw [List.mem_singleton.1 hy]; exact e.symm
            omega
    · have hd : (decide (0 ≤ x) && decide (x ≤ (p.Owner.length : Int) - 1)) = false := by simp; omega
      simp only [hd, Bool.not_true, Bool.not_false, Bool.true_or, cond_true]
      repeat rw [gd_pos (by first | assumption | omega | (intro; first | assumption | omega) | (intro h; cases h; done) | (simp; done) | (simp; omega) | (intros; simp at *; omega))]
      exact T_some (T_some (.inl ⟨rfl, rfl⟩))
theorem ok2 {F : Nat} {p : impl_Pool} (hn : 1 ≤ p.Owner.length ∧ p.Owner.length ≤ 32) {s s' : List Bool} (h1 : s.length = 32) (h2 : s'.length = p.Owner.length) (h3 : ∀ j : Int, 0 ≤ j → j < p.Owner.length → ix s j = ix s' j) : ∀ (m i k k' : Nat), i + m = p.Owner.length → m < k → m < k' →
    T (impl_PoolOK_l2 F p s k i) fun r => T (spec_PoolOK_l2 F p s' k' i) fun r' => (r = .out false ∧ r' = .out false) ∨ (r = .go () ∧ r' = .go ())
  | 0, i, k, k', hi, hk, hk' => by
    obtain ⟨k, rfl⟩ : ∃ m, k = m + 1 := ⟨k - 1, by omega⟩
    obtain ⟨k', rfl⟩ : ∃ m, k' = m + 1 := ⟨k' - 1, by omega⟩
    have hi' : i = p.Owner.length := by omega
    subst hi'
    simp only [impl_PoolOK_l2, spec_PoolOK_l2, decide_eq_false (Int.lt_irrefl _), cond_false]
    exact T_some (T_some (.inr ⟨rfl, rfl⟩))
  | m + 1, i, k, k', hi, hk, hk' => by
    obtain ⟨k, rfl⟩ : ∃ m, k = m + 1 := ⟨k - 1, by omega⟩
    obtain ⟨k', rfl⟩ : ∃ m, k' = m + 1 := ⟨k' - 1, by omega⟩
    simp only [impl_PoolOK_l2, spec_PoolOK_l2, decide_eq_true (show (i : Int) < p.Owner.length by omega), cond_true, impl_isOwner, impl_inRange, spec_l01In, Option.bind_some]
    rw [h3 i (by omega) (by omega)]
    generalize ix p.Owner (i : Int) = x at *
    generalize ix s' (i : Int) = b at *
    repeat rw [gd_pos (by first | assumption | omega | (intro; first | assumption | omega) | (intro h; cases h; done) | (simp; done) | (simp; omega) | (intros; simp at *; omega))]
    have ih := ok2 (F := F) hn h1 h2 h3 m (i + 1) k k' (by omega) (by omega) (by omega)
    rw [wr (by omega)]
    rw [show ((i + 1 : Nat) : Int) = (i : Int) + 1 by omega] at ih
    repeat rw [gd_pos (by first | assumption | omega | (intro; first | assumption | omega) | (intro h; cases h; done) | (simp; done) | (simp; omega) | (intros; simp at *; omega))]
    by_cases q1 : x = -1
    · subst q1
      cases b <;> simp
      · exact T_some (T_some (.inl ⟨rfl, rfl⟩))
      · exact ih
    · by_cases q2 : 0 ≤ x
      · by_cases q3 : x ≤ 5
        · cases b <;> simp [q1, q2, q3, show ¬ x < 0 by omega, show -1 ≤ x by omega]
          · exact ih
          · exact T_some (T_some (.inl ⟨rfl, rfl⟩))
        · cases b <;> simp [q1, q2, q3, show ¬ x < 0 by omega, show -1 ≤ x by omega] <;> exact T_some (T_some (.inl ⟨rfl, rfl⟩))
      · cases b <;> simp [q1, q2, show x < 0 by omega, show ¬ -1 ≤ x by omega] <;> exact T_some (T_some (.inl ⟨rfl, rfl⟩))
theorem poolOK_eq {F : Nat} (hF : 2097152 ≤ F) {p : impl_Pool} (hl : p.Free.length ≤ 1048576) (hl' : p.Owner.length ≤ 1048576) : T (impl_PoolOK F p) fun r => T (spec_PoolOK F p) fun r' => r' = r ∧ (r = true → In0 p) := by
  unfold impl_PoolOK spec_PoolOK
  simp only [impl_inRange, spec_l01In, Option.bind_some]
  by_cases hn : (1 ≤ p.Owner.length ∧ p.Owner.length ≤ 32)
  · have hd : (decide ((1 : Int) ≤ (p.Owner.length : Int)) && decide ((p.Owner.length : Int) ≤ 32)) = true := by simp; omega
    simp only [hd, Bool.not_true, Bool.false_or]
    by_cases hf : (p.Owner.length : Int) < p.Free.length
    · simp only [decide_eq_true hf, cond_true]
      exact T_some (T_some ⟨rfl, fun h => by cases h⟩)
    · simp only [decide_eq_false hf, cond_false]
      rw [gd_pos (by omega)]
      have h0 : ∀ (n : Nat) (j : Int), ix (List.replicate n false) j = false := fun n j => by
        simp only [ix, List.getD_eq_getElem?_getD, List.getElem?_replicate]; split <;> rfl
      refine T_use (ok1 (F := F) hn hl p.Free.length 0 F F (List.replicate 32 false) (List.replicate (Int.toNat (p.Owner.length : Int)) false) (by omega) (by omega) (by omega) rfl (by simp) (fun j _ _ => by rw [h0, h0]) (by simp)) fun r h => ?_
      obtain ⟨r', e, h⟩ := h
      rw [show ((0 : Nat) : Int) = 0 from rfl] at e
      rw [e]
      rcases h with ⟨rfl, rfl⟩ | ⟨s, s', rfl, rfl, h1, h2, h3, h4⟩
      · exact T_out (T_some ⟨rfl, fun h => by cases h⟩)
      · refine T_go (T_use (ok2 (F := F) hn h1 h2 h3 p.Owner.length 0 F F (by omega) (by omega) (by omega)) fun r h => ?_)
        obtain ⟨r', e, h⟩ := h
        rw [show ((0 : Nat) : Int) = 0 from rfl] at e
        rcases h with ⟨rfl, rfl⟩ | ⟨rfl, rfl⟩
        · exact T_out (T_eq (by simp only [Option.bind_some, Fl.on, e]) ⟨rfl, fun h => by cases h⟩)
        · exact T_go (T_some (T_eq (by simp only [Option.bind_some, Fl.on, e]) ⟨rfl, fun _ => ⟨hn, h4⟩⟩))
  · have hd : (decide ((1 : Int) ≤ (p.Owner.length : Int)) && decide ((p.Owner.length : Int) ≤ 32)) = false := by simp; omega
    simp only [hd, Bool.not_false, Bool.true_or, cond_true]
    exact T_some (T_some ⟨rfl, fun h => by cases h⟩)
/-! ### One act upon a pool -/
/-- The places that hold o, from place i on. -/
def heldR (o : Int) : List Int → Int → List Int
  | [], _ => []
  | x :: r, i => if x = o then i :: heldR o r (i + 1) else heldR o r (i + 1)
def freeR (o : Int) (w : List Int) : List Int := w.map fun x => if x = o then -1 else x
theorem heldR_len (o : Int) : ∀ (w : List Int) (i : Int), (heldR o w i).length ≤ w.length
  | [], _ => Nat.le_refl _
  | x :: r, i => by
    have := heldR_len o r (i + 1)
    simp only [heldR]; split <;> simp <;> omega
theorem heldR_in (o : Int) : ∀ (w : List Int) (i : Int), ∀ x ∈ heldR o w i, i ≤ x ∧ x < i + w.length
  | [], _ => by simp [heldR]
  | y :: r, i => by
    intro x hx
    have ih := heldR_in o r (i + 1) x
    simp only [heldR] at hx
    simp only [List.length_cons]
    split at hx
    · rcases List.mem_cons.1 hx with rfl | hx
      · omega
      · have := ih hx; omega
    · have := ih hx; omega
theorem held_set (o : Int) : ∀ (r d : List Int), (heldR o r d.length).foldl (fun w x => w.set x.toNat (-1)) (d ++ r) = d ++ freeR o r
  | [], d => by simp [heldR, freeR]
  | x :: r, d => by
    simp only [heldR, freeR, List.map_cons]
    by_cases h : x = o
    · have ih := held_set o r (d ++ [-1])
      simp only [if_pos h, List.foldl_cons, set_mid rfl]
      simpa [freeR] using ih
    · have ih := held_set o r (d ++ [x])
      simp only [if_neg h]
      simpa [freeR] using ih
theorem held_l1 {F : Nat} {f w : List Int} {o : Int} : ∀ (r d acc : List Int) (k : Nat), w = d ++ r → w.length ≤ 32 → acc.length ≤ d.length → r.length < k → impl_Pool_held_l1 F ⟨f, w⟩ o k acc d.length = some (acc ++ heldR o r d.length)
  | [], d, acc, k, e, hw, ha, hk => by
    obtain ⟨k, rfl⟩ : ∃ m, k = m + 1 := ⟨k - 1, by omega⟩
    subst e
    simp [impl_Pool_held_l1, heldR]
  | x :: r, d, acc, k, e, hw, ha, hk => by
    obtain ⟨k, rfl⟩ : ∃ m, k = m + 1 := ⟨k - 1, by omega⟩
    have hl : w.length = d.length + (r.length + 1) := by rw [e]; simp
    have e' : ix w (d.length : Int) = x := by rw [e]; exact ix_mid rfl
    simp only [List.length_cons] at hk
    simp only [impl_Pool_held_l1, e', heldR]
    rw [decide_eq_true (by omega)]
    simp only [cond_true]
    repeat rw [gd_pos (by first | assumption | omega | (intro; first | assumption | omega) | (intro h; cases h; done) | (simp; done) | (simp; omega) | (intros; simp at *; omega))]; try simp (disch := omega) only [wr]
    have ih := fun acc ha => held_l1 (F := F) (f := f) (w := w) (o := o) r (d ++ [x]) acc k (by rw [e]; simp) hw ha (by omega)
    simp only [List.length_append, List.length_cons, List.length_nil, Int.natCast_add] at ih
    by_cases h : x = o
    · simp only [decide_eq_true h, if_pos h, cond_true]
      have := ih (acc ++ [(d.length : Int)]) (by simp; omega)
      simpa using this
    · simp only [decide_eq_false h, if_neg h, cond_false]
      have := ih acc (by omega)
      simpa using this
theorem held_ok {F : Nat} (hF : 2097152 ≤ F) {p : impl_Pool} (hw : p.Owner.length ≤ 32) (o : Int) : impl_Pool_held F p o = some (heldR o p.Owner 0) := by
  have := held_l1 (F := F) (f := p.Free) (w := p.Owner) (o := o) p.Owner [] [] F rfl hw (by simp) (by omega)
  unfold impl_Pool_held
  simp only [List.length_nil, List.nil_append, Int.natCast_zero] at this
  rw [this]
  rfl
theorem act_l1 {F : Nat} {h : List Int} (hh : h.length ≤ 32) : ∀ (r d : List Int) (f w : List Int) (k : Nat), h = d ++ r → f.length ≤ 1073741824 + d.length → (∀ x ∈ h, 0 ≤ x ∧ x < (w.length : Int)) → r.length < k → impl_Pool_act_l1 F h k f w d.length = some (f ++ r, r.foldl (fun w x => w.set x.toNat (-1)) w)
  | [], d, f, w, k, e, hf, hw, hk => by
    obtain ⟨k, rfl⟩ : ∃ m, k = m + 1 := ⟨k - 1, by omega⟩
    subst e
    simp [impl_Pool_act_l1]
  | x :: r, d, f, w, k, e, hf, hw, hk => by
    obtain ⟨k, rfl⟩ : ∃ m, k = m + 1 := ⟨k - 1, by omega⟩
    have hl : h.length = d.length + (r.length + 1) := by rw [e]; simp
    have e' : ix h (d.length : Int) = x := by rw [e]; exact ix_mid rfl
    have hx := hw x (by rw [e]; simp)
    simp only [List.length_cons] at hk
    simp only [impl_Pool_act_l1, e', impl_Pool_release]
    rw [decide_eq_true (by omega)]
    simp only [cond_true]
    repeat rw [gd_pos (by first | assumption | omega | (intro; first | assumption | omega) | (intro h; cases h; done) | (simp; done) | (simp; omega) | (intros; simp at *; omega))]; try simp (disch := omega) only [wr]
    simp only [Option.bind_some]
    have ih := act_l1 (F := F) hh r (d ++ [x]) (f ++ [x]) (w.set x.toNat (-1)) k (by rw [e]; simp) (by simp; omega) (by simpa using hw) (by omega)
    simpa using ih
theorem step_l1 {F : Nat} {a : impl_PoolAct} (ho : a.Owner ≠ -1) : ∀ (r d f : List Int) (c : Int) (k : Nat), d.length + r.length ≤ 32 → f.length ≤ 1073741824 + d.length → 0 ≤ c → c ≤ d.length → r.length < k →
    spec_l12Step_l1 F a k c f (d ++ r) d.length = some (c + (heldR a.Owner r d.length).length, f ++ heldR a.Owner r d.length, d ++ freeR a.Owner r)
  | [], d, f, c, k, hw, hf, h0, hc, hk => by
    obtain ⟨k, rfl⟩ : ∃ m, k = m + 1 := ⟨k - 1, by omega⟩
    simp [spec_l12Step_l1, heldR, freeR]
  | x :: r, d, f, c, k, hw, hf, h0, hc, hk => by
    obtain ⟨k, rfl⟩ : ∃ m, k = m + 1 := ⟨k - 1, by omega⟩
    have hl : (d ++ x :: r).length = d.length + (r.length + 1) := by simp
    have e' : ix (d ++ x :: r) (d.length : Int) = x := ix_mid rfl
    simp only [List.length_cons] at hk hw
    simp only [spec_l12Step_l1, e', heldR, freeR, List.map_cons]
    rw [decide_eq_true (by omega)]
    simp only [cond_true]
    repeat rw [gd_pos (by first | assumption | omega | (intro; first | assumption | omega) | (intro h; cases h; done) | (simp; done) | (simp; omega) | (intros; simp at *; omega))]; try simp (disch := omega) only [wr]
    by_cases h : x = a.Owner
    · have ih := step_l1 (F := F) ho r (d ++ [-1]) (f ++ [(d.length : Int)]) (c + 1) k (by simp; omega) (by simp; omega) (by omega) (by simp; omega) (by omega)
      simp only [decide_eq_true h, if_pos h, cond_true]
      repeat rw [gd_pos (by first | assumption | omega | (intro; first | assumption | omega) | (intro h; cases h; done) | (simp; done) | (simp; omega) | (intros; simp at *; omega))]
      simp only [Option.bind_some, set_mid rfl]
      simp only [freeR, List.append_assoc, List.length_append, List.length_cons, List.length_nil, Int.natCast_add, List.singleton_append, Int.natCast_one, Nat.zero_add] at ih ⊢
      rw [ih]
      simp; omega
    · have ih := step_l1 (F := F) ho r (d ++ [x]) f c k (by simp; omega) (by simp; omega) (by omega) (by simp; omega) (by omega)
      simp only [decide_eq_false h, if_neg h, cond_false]
      simp only [Option.bind_some]
      simp only [freeR, List.append_assoc, List.length_append, List.length_cons, List.length_nil, Int.natCast_add, List.singleton_append, Int.natCast_one, Nat.zero_add] at ih ⊢
      rw [ih]
def stepP (p : impl_Pool) (a : impl_PoolAct) : impl_Pool × impl_PoolReply :=
  if ¬ (1 ≤ a.Kind ∧ a.Kind ≤ 4) then (p, ⟨3, 0⟩)
  else if ¬ (0 ≤ a.Owner ∧ a.Owner ≤ 5) ∨ (a.Kind = 2 ∧ ¬ (0 ≤ a.To ∧ a.To ≤ 5)) then (p, ⟨4, if a.Kind = 2 ∨ a.Kind = 3 then a.Buffer else 0⟩)
  else if a.Kind = 1 then (if p.Free = [] then (p, ⟨7, 0⟩) else (⟨p.Free.drop 1, p.Owner.set (ix p.Free 0).toNat a.Owner⟩, ⟨0, ix p.Free 0⟩))
  else if a.Kind = 4 then (⟨p.Free ++ heldR a.Owner p.Owner 0, freeR a.Owner p.Owner⟩, ⟨0, (heldR a.Owner p.Owner 0).length⟩)
  else if ¬ ((0 ≤ a.Buffer ∧ a.Buffer < p.Owner.length) ∧ ix p.Owner a.Buffer = a.Owner) then (p, ⟨5, a.Buffer⟩)
  else if a.Kind = 2 then (⟨p.Free, p.Owner.set a.Buffer.toNat a.To⟩, ⟨0, a.Buffer⟩)
  else (⟨p.Free ++ [a.Buffer], p.Owner.set a.Buffer.toNat (-1)⟩, ⟨0, a.Buffer⟩)
theorem ix0_mem {l : List Int} (h : l ≠ []) : ix l 0 ∈ l := by
  cases l with
  | nil => exact absurd rfl h
  | cons x r => simp [ix]
theorem act_ok {F : Nat} (hF : 2097152 ≤ F) {p : impl_Pool} (hp : In0 p) (hl : p.Free.length ≤ 1073741824) (a : impl_PoolAct) : impl_Pool_act F p a = some ((stepP p a).2, (stepP p a).1) := by
  obtain ⟨⟨hn1, hn2⟩, hfr⟩ := hp
  unfold impl_Pool_act stepP
  simp only [impl_inRange, impl_isOwner, Option.bind_some]
  by_cases h1 : ¬ (1 ≤ a.Kind ∧ a.Kind ≤ 4)
  · have hd : (decide (1 ≤ a.Kind) && decide (a.Kind ≤ 4)) = false := by simp; omega
    simp [hd, h1]
  rw [if_neg h1]
  have h1 := Classical.not_not.1 h1
  have hd1 : (decide (1 ≤ a.Kind) && decide (a.Kind ≤ 4)) = true := by simp [h1]
  simp only [hd1, Bool.not_true, cond_false]
  by_cases h2 : ¬ (0 ≤ a.Owner ∧ a.Owner ≤ 5) ∨ (a.Kind = 2 ∧ ¬ (0 ≤ a.To ∧ a.To ≤ 5))
  · rw [if_pos h2]
    rcases (show a.Kind = 1 ∨ a.Kind = 2 ∨ a.Kind = 3 ∨ a.Kind = 4 by omega) with e | e | e | e
    all_goals
      by_cases h3 : 0 ≤ a.Owner ∧ a.Owner ≤ 5
      · have hd3 : (decide (0 ≤ a.Owner) && decide (a.Owner ≤ 5)) = true := by simp [h3]
        first
          | (exfalso; omega)
          | (have hd4 : (decide (0 ≤ a.To) && decide (a.To ≤ 5)) = false := by simp; omega
             simp [hd3, hd4, e])
      · have hd3 : (decide (0 ≤ a.Owner) && decide (a.Owner ≤ 5)) = false := by simp; omega
        simp [hd3, e]
  rw [if_neg h2]
  have ho : 0 ≤ a.Owner ∧ a.Owner ≤ 5 := by omega
  have hd3 : (decide (0 ≤ a.Owner) && decide (a.Owner ≤ 5)) = true := by simp [ho]
  rcases (show a.Kind = 1 ∨ a.Kind = 2 ∨ a.Kind = 3 ∨ a.Kind = 4 by omega) with e | e | e | e
  · simp only [hd3, e]
    by_cases hf : p.Free = []
    · simp [impl_Pool_take, hf, Fl.on]
    · have hf' : 1 ≤ p.Free.length := by have := List.length_pos_iff.2 hf; omega
      have hx := hfr _ (ix0_mem hf)
      have hdel : slices_Delete___int_int_ p.Free 0 1 = some (p.Free.drop 1) := by
        unfold slices_Delete___int_int_
        rw [gd_pos (by omega)]
        rw [show decide ((0 : Int) = 1) = false from rfl, cond_false]
        have hs : slc p.Free 0 (Int.toNat 0) ++ slc p.Free (Int.toNat 1) p.Free.length = p.Free.drop 1 := by simp [slc, List.take_of_length_le]
        have hs2 : (slc p.Free 0 (Int.toNat 0)).length + (slc p.Free (Int.toNat 1) p.Free.length).length = p.Free.length - 1 := by simp [slc]
        rw [gd_pos (by omega), gd_pos (by omega), gd_pos (by omega), hs, gd_pos (by simp)]
      simp only [impl_Pool_take]
      rw [decide_eq_false (by omega)]
      rw [cond_false, gd_pos (by omega), hdel, Option.bind_some, gd_pos (by omega)]
      simp [Fl.on, hf]
  · have hto : 0 ≤ a.To ∧ a.To ≤ 5 := by omega
    have hd4 : (decide (0 ≤ a.To) && decide (a.To ≤ 5)) = true := by simp [hto]
    simp only [hd3, hd4, e]
    by_cases h5 : 0 ≤ a.Buffer ∧ a.Buffer < (p.Owner.length : Int)
    · have hd5 : (decide (0 ≤ a.Buffer) && decide (a.Buffer ≤ (p.Owner.length : Int) - 1)) = true := by simp; omega
      try simp (disch := omega) only [wr]
      have h11 : a.Buffer ≤ (p.Owner.length : Int) - 1 := by omega
      by_cases h6 : ix p.Owner a.Buffer = a.Owner <;> simp [hd5, h5, h6, h11, gd, Fl.on]
    · have hd5 : (decide (0 ≤ a.Buffer) && decide (a.Buffer ≤ (p.Owner.length : Int) - 1)) = false := by simp; omega
      try simp (disch := omega) only [wr]
      simp [hd5, h5, gd, Fl.on]
  · simp only [hd3, e]
    by_cases h5 : 0 ≤ a.Buffer ∧ a.Buffer < (p.Owner.length : Int)
    · have hd5 : (decide (0 ≤ a.Buffer) && decide (a.Buffer ≤ (p.Owner.length : Int) - 1)) = true := by simp; omega
      try simp (disch := omega) only [wr]
      have h7 : (p.Free.length + 1) * 8 ≤ 140737488355328 := by omega
      have h11 : a.Buffer ≤ (p.Owner.length : Int) - 1 := by omega
      by_cases h6 : ix p.Owner a.Buffer = a.Owner <;> simp [hd5, h5, h6, h11, h7, gd, Fl.on, impl_Pool_release]
    · have hd5 : (decide (0 ≤ a.Buffer) && decide (a.Buffer ≤ (p.Owner.length : Int) - 1)) = false := by simp; omega
      try simp (disch := omega) only [wr]
      simp [hd5, h5, gd, Fl.on]
  · simp only [hd3, e]
    rw [held_ok hF hn2]
    have := act_l1 (F := F) (h := heldR a.Owner p.Owner 0) (by have := heldR_len a.Owner p.Owner 0; omega) (heldR a.Owner p.Owner 0) [] p.Free p.Owner F rfl (by simp; omega) (fun x hx => by have := heldR_in _ _ _ x hx; omega) (by have := heldR_len a.Owner p.Owner 0; omega)
    have hs := held_set a.Owner p.Owner []
    simp only [List.length_nil, List.nil_append, Int.natCast_zero] at this hs
    simp [this, Fl.on, hs]
theorem own_ok {p : impl_Pool} (hn : p.Owner.length ≤ 1073741824) (hl : p.Free.length ≤ 1073741824) : spec_l12Own p = some p := by
  unfold spec_l12Own
  rw [gd_pos (by simp; omega), gd_pos (by simp; omega)]
  simp
theorem step_ok {F : Nat} (hF : 2097152 ≤ F) {p : impl_Pool} (hp : In0 p) (hl : p.Free.length ≤ 1073741824) (a : impl_PoolAct) : spec_l12Step F p a = some (stepP p a) := by
  obtain ⟨⟨hn1, hn2⟩, hfr⟩ := hp
  unfold spec_l12Step stepP
  have hown := own_ok (p := p) (by omega) hl
  simp only [spec_l01In, Option.bind_some]
  by_cases h1 : ¬ (1 ≤ a.Kind ∧ a.Kind ≤ 4)
  · have hd : (decide (1 ≤ a.Kind) && decide (a.Kind ≤ 4)) = false := by simp; omega
    simp [hd, h1]
  rw [if_neg h1]
  have h1 := Classical.not_not.1 h1
  have hd1 : (decide (1 ≤ a.Kind) && decide (a.Kind ≤ 4)) = true := by simp [h1]
  simp only [hd1, Bool.not_true, cond_false]
  by_cases h2 : ¬ (0 ≤ a.Owner ∧ a.Owner ≤ 5) ∨ (a.Kind = 2 ∧ ¬ (0 ≤ a.To ∧ a.To ≤ 5))
  · rw [if_pos h2]
    rcases (show a.Kind = 1 ∨ a.Kind = 2 ∨ a.Kind = 3 ∨ a.Kind = 4 by omega) with e | e | e | e
    all_goals
      by_cases h3 : 0 ≤ a.Owner ∧ a.Owner ≤ 5
      · have hd3 : (decide (0 ≤ a.Owner) && decide (a.Owner ≤ 5)) = true := by simp [h3]
        first
          | (exfalso; omega)
          | (have hd4 : (decide (0 ≤ a.To) && decide (a.To ≤ 5)) = false := by simp; omega
             simp [hd3, hd4, e])
      · have hd3 : (decide (0 ≤ a.Owner) && decide (a.Owner ≤ 5)) = false := by simp; omega
        simp [hd3, e]
  rw [if_neg h2, hown]
  have ho : 0 ≤ a.Owner ∧ a.Owner ≤ 5 := by omega
  have hd3 : (decide (0 ≤ a.Owner) && decide (a.Owner ≤ 5)) = true := by simp [ho]
  rcases (show a.Kind = 1 ∨ a.Kind = 2 ∨ a.Kind = 3 ∨ a.Kind = 4 by omega) with e | e | e | e
  · simp only [hd3, e]
    by_cases hf : p.Free = []
    · simp [hf, Fl.on]
    · have hf' : 1 ≤ p.Free.length := by have := List.length_pos_iff.2 hf; omega
      have hx := hfr _ (ix0_mem hf)
      have h8 : slc p.Free 1 p.Free.length = p.Free.drop 1 := by simp [slc, List.take_of_length_le]
      have h9 : (p.Free.length - 1) * 8 ≤ 140737488355328 := by omega
      have h10 : (1 : Int) ≤ p.Free.length := by omega
      simp [hf, gd, Fl.on, h8, hx, h9, hf', h10, show 0 < p.Free.length by omega]
  · have hto : 0 ≤ a.To ∧ a.To ≤ 5 := by omega
    have hd4 : (decide (0 ≤ a.To) && decide (a.To ≤ 5)) = true := by simp [hto]
    simp only [hd3, hd4, e]
    by_cases h5 : 0 ≤ a.Buffer ∧ a.Buffer < (p.Owner.length : Int)
    · have hd5 : (decide (0 ≤ a.Buffer) && decide (a.Buffer ≤ (p.Owner.length : Int) - 1)) = true := by simp; omega
      have wr5 : IntKind.wrap .i64 ((p.Owner.length : Int) - 1) = (p.Owner.length : Int) - 1 := wr (by omega)
      have h11 : a.Buffer ≤ (p.Owner.length : Int) - 1 := by omega
      by_cases h6 : ix p.Owner a.Buffer = a.Owner <;> simp [hd5, h5, h6, h11, gd, Fl.on, spec_l12Mine, spec_l01In, wr5]
    · have hd5 : (decide (0 ≤ a.Buffer) && decide (a.Buffer ≤ (p.Owner.length : Int) - 1)) = false := by simp; omega
      have wr5 : IntKind.wrap .i64 ((p.Owner.length : Int) - 1) = (p.Owner.length : Int) - 1 := wr (by omega)
      simp [hd5, h5, gd, Fl.on, spec_l12Mine, spec_l01In, wr5]
  · simp only [hd3, e]
    by_cases h5 : 0 ≤ a.Buffer ∧ a.Buffer < (p.Owner.length : Int)
    · have hd5 : (decide (0 ≤ a.Buffer) && decide (a.Buffer ≤ (p.Owner.length : Int) - 1)) = true := by simp; omega
      have wr5 : IntKind.wrap .i64 ((p.Owner.length : Int) - 1) = (p.Owner.length : Int) - 1 := wr (by omega)
      have h7 : (p.Free.length + 1) * 8 ≤ 140737488355328 := by omega
      have h11 : a.Buffer ≤ (p.Owner.length : Int) - 1 := by omega
      by_cases h6 : ix p.Owner a.Buffer = a.Owner <;> simp [hd5, h5, h6, h11, h7, gd, Fl.on, spec_l12Mine, spec_l01In, wr5]
    · have hd5 : (decide (0 ≤ a.Buffer) && decide (a.Buffer ≤ (p.Owner.length : Int) - 1)) = false := by simp; omega
      have wr5 : IntKind.wrap .i64 ((p.Owner.length : Int) - 1) = (p.Owner.length : Int) - 1 := wr (by omega)
      simp [hd5, h5, gd, Fl.on, spec_l12Mine, spec_l01In, wr5]
  · simp only [hd3, e]
    have := step_l1 (F := F) (a := a) (by omega) p.Owner [] p.Free 0 F (by simp; omega) (by simp; omega) (by omega) (by simp) (by omega)
    simp only [List.length_nil, List.nil_append, Int.natCast_zero] at this
    simp [this, Fl.on]
/-! ### Pools: measured, copied, compared, marked -/
theorem szPool_ok {p : impl_Pool} (h1 : p.Free.length ≤ maxLen) (h2 : p.Owner.length ≤ maxLen) : T (laws_szPool p 1048576) fun r => 0 ≤ r → p.Free.length ≤ 1048576 ∧ p.Owner.length ≤ 1048576 := by
  unfold laws_szPool
  rw [szIntS_ok (by omega) h1]
  simp only [Option.bind_some]
  by_cases h : (p.Free.length : Int) ≤ 1048576
  · rw [if_pos h, decide_eq_false (by omega), cond_false, szIntS_ok (by omega) h2]
    simp only [Option.bind_some]
    by_cases h' : (p.Owner.length : Int) ≤ 1048576 - p.Free.length
    · rw [if_pos h', decide_eq_false (by omega), cond_false]
      exact T_some (by omega)
    · rw [if_neg h', decide_eq_true (by omega), cond_true]
      exact T_some (by omega)
  · rw [if_neg h, decide_eq_true (by omega), cond_true]
    exact T_some (by omega)
def PoolSz (p : impl_Pool) : Prop := p.Free.length ≤ 1500000 ∧ p.Owner.length ≤ 1500000
theorem toPool_ok {F : Nat} (hF : 2097152 ≤ F) {p : impl_Pool} (h : PoolSz p) : laws_toPool F p = some p := by
  unfold laws_toPool
  rw [toIntS_ok hF h.1, Option.bind_some, toIntS_ok hF h.2]; rfl
theorem eqPool_ok {F : Nat} (hF : 2097152 ≤ F) {p : impl_Pool} (h : PoolSz p) : laws_eqPool F p p = some true := by
  unfold laws_eqPool
  rw [eqIntS_ok hF h.1, Option.bind_some, eqIntS_ok hF h.2]; rfl
theorem eqPoolReply_ok (r : impl_PoolReply) : laws_eqPoolReply r r = some true := by simp [laws_eqPoolReply]
/-- The counter behind a marked pool. -/
def poolM (p : impl_Pool) (c : Int) : Int × List Int × List Int := ((markL mInt p.Owner (markL mInt p.Free c).2).2, (markL mInt p.Free c).1, (markL mInt p.Owner (markL mInt p.Free c).2).1)
theorem poolM_le {p : impl_Pool} (h : PoolSz p) (c : Int) : c ≤ (poolM p c).1 ∧ (poolM p c).1 ≤ c + 3000000 := by
  have h1 := mInt_le h.1 c
  have h2 := mInt_le h.2 (markL mInt p.Free c).2
  simp only [poolM]; omega
theorem markPool_ok {F : Nat} (hF : 2097152 ≤ F) {p : impl_Pool} (h : PoolSz p) {c : Int} (hc : 0 ≤ c ∧ c ≤ 576460752303423488) : laws_markPool F p c = some (poolM p c) := by
  have h1 := mInt_le h.1 c
  unfold laws_markPool
  rw [markIntS_ok hF h.1 (by omega), Option.bind_some, markIntS_ok hF h.2 (by simp only; omega)]; rfl
theorem heldPool_ok {F : Nat} (hF : 2097152 ≤ F) {p : impl_Pool} (h : PoolSz p) {c : Int} (hc : 0 ≤ c ∧ c ≤ 576460752303423488) : laws_heldPool F (impl_Pool.mk (poolM p c).2.1 (poolM p c).2.2) c = some (poolM p c).1 := by
  have h1 := mInt_le h.1 c
  have h2 := mInt_le h.2 (markL mInt p.Free c).2
  unfold laws_heldPool
  simp only [poolM]
  rw [heldIntS_ok hF h.1 (by omega), Option.bind_some, decide_eq_false (by omega), cond_false, heldIntS_ok hF h.2 (by omega), Option.bind_some, decide_eq_false (by omega)]; rfl
theorem clonePool_ok {p : impl_Pool} (h : PoolSz p) : impl_clonePool p = some p := by
  have := h.1; have := h.2
  unfold impl_clonePool
  rw [gd_pos (by simp; omega), gd_pos (by simp; omega)]
  simp
theorem stepP_sz {p : impl_Pool} (hp : In0 p) (a : impl_PoolAct) : (stepP p a).1.Free.length ≤ p.Free.length + 32 ∧ (stepP p a).1.Owner.length = p.Owner.length := by
  have h1 := heldR_len a.Owner p.Owner 0
  have h2 := hp.1.2
  unfold stepP
  repeat' split
  all_goals simp [freeR]
  all_goals omega
theorem poolStep_eq {F : Nat} (hF : 2097152 ≤ F) {p : impl_Pool} (h : p.Free.length ≤ 1048576 ∧ p.Owner.length ≤ 1048576) (a : impl_PoolAct) : T (spec_PoolStep F p a) fun r => impl_PoolStep F p a = some r ∧ PoolSz r.1 := by
  unfold spec_PoolStep impl_PoolStep
  obtain ⟨r, e, r', e', rfl, hr⟩ := poolOK_eq hF h.1 h.2
  rw [e, e', Option.bind_some, Option.bind_some]
  cases r'
  · exact T_some ⟨rfl, by constructor <;> simp⟩
  · have hp := hr rfl
    have hz := stepP_sz hp a
    have hz' : PoolSz (stepP p a).1 := by constructor <;> omega
    rw [clonePool_ok (by constructor <;> omega), Option.bind_some, act_ok hF hp (by omega), step_ok hF hp (by omega)]
    simp only [Bool.not_true, cond_false, Option.bind_some]
    rw [own_ok (by have := hz'.2; omega) (by have := hz'.1; omega)]
    exact T_some ⟨rfl, hz'⟩
theorem main {F : Nat} (hF : 2097152 ≤ F) {p : impl_Pool} {a : impl_PoolAct} (h1 : p.Free.length ≤ maxLen) (h2 : p.Owner.length ≤ maxLen) : laws_FnExactPoolStep F p a = some true := by
  unfold laws_FnExactPoolStep
  obtain ⟨z, e, hz⟩ := szPool_ok h1 h2
  rw [e, Option.bind_some]
  by_cases h : z < 0
  · rw [decide_eq_true h]; rfl
  have hz := hz (by omega)
  have hp : PoolSz p := by constructor <;> omega
  obtain ⟨r, e1, e2, hr⟩ := poolStep_eq hF hz a
  have m1 := poolM_le hp 1
  have m2 := poolM_le hr 1
  have k1 := markPool_ok hF hp (c := 1) (by omega)
  have k2 := markPool_ok hF hr (c := 1) (by omega)
  have k3 := heldPool_ok hF hr (c := 1) (by omega)
  have d1 : decide ((poolM p 1).1 < 0) = false := decide_eq_false (by omega)
  have d2 : decide ((poolM r.1 1).1 < 0) = false := decide_eq_false (by omega)
  simp only [decide_eq_false h, cond_false, toPool_ok hF hp, laws_toPoolAct, Option.bind_some, e1, e2, eqPool_ok hF hp, eqPool_ok hF hr, eqPoolReply_ok, k1, k2, k3, d1, d2, Bool.not_true, Bool.not_false, cond_true, Bool.or_false, Bool.false_or, decide_true]
theorem pure : Pure := fun p a hp _ => ⟨2097152, main (Nat.le_refl _) hp.1.1 hp.2.1⟩
end Go.Proofs.Ytpkdolmbhfmjcaa.FnExactPoolStep
