/- A run of the pool: program and reference answer alike, and no row is shared. -/
import Derived.Test.YtpkdolmbhfmjcaaFnExactPoolRunS
import Derived.Test.YtpkdolmbhfmjcaaGwP
set_option linter.unusedVariables false
set_option linter.unusedSimpArgs false
set_option linter.unusedSectionVars false
namespace Go.Proofs.Ytpkdolmbhfmjcaa.FnExactPoolRun
open Go.RowKit Go.Proofs.Gw
/-! ### Rows of numbers: compared, marked -/
theorem eqIntS_ok {F : Nat} (hF : 2097152 ≤ F) {a : List Int} (h : a.length ≤ 1500000) : laws_eqIntS F a a = some true := by
  unfold laws_eqIntS
  have := same_loop (n := a.length) (v := Fl.go ()) (f := laws_eqIntS_l1 F a a) (fun k => by simp [laws_eqIntS_l1]) (fun k i h0 h1 => by
    simp only [laws_eqIntS_l1, decide_eq_true h1, cond_true]
    simp (disch := omega) only [gd_pos, wr]
    simp) a.length 0 F (by omega) (by omega)
  simp at this
  simp [this, Fl.on]
def mInt : Int → Int → Int × Int := fun _ c => (c, c + 1)
theorem mInt_up : ∀ x c : Int, True → c ≤ (mInt x c).2 ∧ (mInt x c).2 ≤ c + (1 : Nat) := fun x c _ => by simp [mInt]; omega
theorem markIntS_ok {F : Nat} (hF : 2097152 ≤ F) {a : List Int} (h : a.length ≤ 1500000) {c : Int} (hc : 0 ≤ c ∧ c ≤ 1152921504606846976) : laws_markIntS F a c = some ((markL mInt a c).2, (markL mInt a c).1) := by
  have := mark_loop mInt_up (B := 2305843009213693952) (f := laws_markIntS_l1 F) (fun k s c => by simp [laws_markIntS_l1]) (fun k s c i h0 h1 h2 h3 h4 _ => by
    simp only [laws_markIntS_l1, decide_eq_true h1, cond_true, mInt]
    simp (disch := omega) only [gd_pos, wr]) a [] c F (fun _ _ => trivial) (by omega) (by simp; omega) (by omega) (by omega)
  simp at this
  simp [laws_markIntS, this]
theorem heldIntS_ok {F : Nat} (hF : 2097152 ≤ F) {a : List Int} (h : a.length ≤ 1500000) {c : Int} (hc : 0 ≤ c ∧ c ≤ 1152921504606846976) : laws_heldIntS F (markL mInt a c).1 c = some (markL mInt a c).2 := by
  have := held_loop mInt_up (B := 2305843009213693952) (a := (markL mInt a c).1) (f := laws_heldIntS_l1 F (markL mInt a c).1) (fun k c => by simp [laws_heldIntS_l1]) (fun k c x i h0 h1 h2 h3 h4 _ h5 => by
    simp only [laws_heldIntS_l1, decide_eq_true h1, cond_true, h5, mInt]
    simp (disch := omega) only [gd_pos, wr]
    simp) (by rw [markL_len]; omega) a [] c F rfl (fun _ _ => trivial) (by omega) (by omega) (by omega)
  simp at this
  simp [laws_heldIntS, this, Fl.on]
theorem mInt_le {a : List Int} (h : a.length ≤ 1500000) (c : Int) : c ≤ (markL mInt a c).2 ∧ (markL mInt a c).2 ≤ c + 1500000 := by
  have := markL_up mInt_up a c (fun _ _ => trivial)
  omega
/-- A pool that can be acted upon. -/
def In0 (p : impl_Pool) : Prop := (1 ≤ p.Owner.length ∧ p.Owner.length ≤ 32) ∧ ∀ x ∈ p.Free, 0 ≤ x ∧ x < (p.Owner.length : Int)
/-- A pool of bounded size. -/
def PoolSz (p : impl_Pool) : Prop := p.Free.length ≤ 1500000 ∧ p.Owner.length ≤ 1500000
/-! ### One act upon a pool -/
/-- The places that hold o, from place i on. -/
def heldR (o : Int) : List Int → Int → List Int
  | [], _ => []
  | x :: r, i => if x = o then i :: heldR o r (i + 1) else heldR o r (i + 1)
def freeR (o : Int) (w : List Int) : List Int := w.map fun x => if x = o then -1 else x
theorem heldR_len (o : Int) : ∀ (w : List Int) (i : Int), (heldR o w i).length ≤ w.length
  | [], _ => Nat.le_refl _
  | x :: r, i => by
    have := heldR_len o r (i + 1)
    simp only [heldR]; split <;> simp <;> omega
theorem heldR_in (o : Int) : ∀ (w : List Int) (i : Int), ∀ x ∈ heldR o w i, i ≤ x ∧ x < i + w.length
  | [], _ => by simp [heldR]
  | y :: r, i => by
    intro x hx
    have ih := heldR_in o r (i + 1) x
    simp only [heldR] at hx
    simp only [List.length_cons]
    split at hx
    · rcases List.mem_cons.1 hx with rfl | hx
      · omega
      · have := ih hx; omega
    · have := ih hx; omega
theorem held_set (o : Int) : ∀ (r d : List Int), (heldR o r d.length).foldl (fun w x => w.set x.toNat (-1)) (d ++ r) = d ++ freeR o r
  | [], d => by simp [heldR, freeR]
  | x :: r, d => by
    simp only [heldR, freeR, List.map_cons]
    by_cases h : x = o
    · have ih := held_set o r (d ++ [-1])
      simp only [if_pos h, List.foldl_cons, set_mid rfl]
      simpa [freeR] using ih
    · have ih := held_set o r (d ++ [x])
      simp only [if_neg h]
      simpa [freeR] using ih
theorem held_l1 {F : Nat} {f w : List Int} {o : Int} : ∀ (r d acc : List Int) (k : Nat), w = d ++ r → w.length ≤ 32 → acc.length ≤ d.length → r.length < k → impl_Pool_held_l1 F ⟨f, w⟩ o k acc d.length = some (acc ++ heldR o r d.length)
  | [], d, acc, k, e, hw, ha, hk => by
    obtain ⟨k, rfl⟩ : ∃ m, k = m + 1 := ⟨k - 1, by omega⟩
    subst e
    simp [impl_Pool_held_l1, heldR]
  | x :: r, d, acc, k, e, hw, ha, hk => by
    obtain ⟨k, rfl⟩ : ∃ m, k = m + 1 := ⟨k - 1, by omega⟩
    have hl : w.length = d.length + (r.length + 1) := by rw [e]; simp
    have e' : ix w (d.length : Int) = x := by rw [e]; exact ix_mid rfl
    simp only [List.length_cons] at hk
    simp only [impl_Pool_held_l1, e', heldR]
    rw [decide_eq_true (by omega)]
    simp only [cond_true]
    repeat rw [gd_pos (by first | assumption | omega | (intro; first | assumption | omega) | (intro h; cases h; done) | (simp; done) | (simp; omega) | (intros; simp at *; omega))]; try simp (disch := omega) only [wr]
    have ih := fun acc ha => held_l1 (F := F) (f := f) (w := w) (o := o) r (d ++ [x]) acc k (by rw [e]; simp) hw ha (by omega)
    simp only [List.length_append, List.length_cons, List.length_nil, Int.natCast_add] at ih
    by_cases h : x = o
    · simp only [decide_eq_true h, if_pos h, cond_true]
      have := ih (acc ++ [(d.length : Int)]) (by simp; omega)
      simpa using this
    · simp only [decide_eq_false h, if_neg h, cond_false]
      have := ih acc (by omega)
      simpa using this
theorem held_ok {F : Nat} (hF : 2097152 ≤ F) {p : impl_Pool} (hw : p.Owner.length ≤ 32) (o : Int) : impl_Pool_held F p o = some (heldR o p.Owner 0) := by
  have := held_l1 (F := F) (f := p.Free) (w := p.Owner) (o := o) p.Owner [] [] F rfl hw (by simp) (by omega)
  unfold impl_Pool_held
  simp only [List.length_nil, List.nil_append, Int.natCast_zero] at this
  rw [this]
  rfl
theorem act_l1 {F : Nat} {h : List Int} (hh : h.length ≤ 32) : ∀ (r d : List Int) (f w : List Int) (k : Nat), h = d ++ r → f.length ≤ 1073741824 + d.length → (∀ x ∈ h, 0 ≤ x ∧ x < (w.length : Int)) → r.length < k → impl_Pool_act_l1 F h k f w d.length = some (f ++ r, r.foldl (fun w x => w.set x.toNat (-1)) w)
  | [], d, f, w, k, e, hf, hw, hk => by
    obtain ⟨k, rfl⟩ : ∃ m, k = m + 1 := ⟨k - 1, by omega⟩
    subst e
    simp [impl_Pool_act_l1]
  | x :: r, d, f, w, k, e, hf, hw, hk => by
    obtain ⟨k, rfl⟩ : ∃ m, k = m + 1 := ⟨k - 1, by omega⟩
    have hl : h.length = d.length + (r.length + 1) := by rw [e]; simp
    have e' : ix h (d.length : Int) = x := by rw [e]; exact ix_mid rfl
    have hx := hw x (by rw [e]; simp)
    simp only [List.length_cons] at hk
    simp only [impl_Pool_act_l1, e', impl_Pool_release]
    rw [decide_eq_true (by omega)]
    simp only [cond_true]
    repeat rw [gd_pos (by first | assumption | omega | (intro; first | assumption | omega) | (intro h; cases h; done) | (simp; done) | (simp; omega) | (intros; simp at *; omega))]; try simp (disch := omega) only [wr]
    simp only [Option.bind_some]
    have ih := act_l1 (F := F) hh r (d ++ [x]) (f ++ [x]) (w.set x.toNat (-1)) k (by rw [e]; simp) (by simp; omega) (by simpa using hw) (by omega)
    simpa using ih
theorem step_l1 {F : Nat} {a : impl_PoolAct} (ho : a.Owner ≠ -1) : ∀ (r d f : List Int) (c : Int) (k : Nat), d.length + r.length ≤ 32 → f.length ≤ 1073741824 + d.length → 0 ≤ c → c ≤ d.length → r.length < k →
    spec_l12Step_l1 F a k c f (d ++ r) d.length = some (c + (heldR a.Owner r d.length).length, f ++ heldR a.Owner r d.length, d ++ freeR a.Owner r)
  | [], d, f, c, k, hw, hf, h0, hc, hk => by
    obtain ⟨k, rfl⟩ : ∃ m, k = m + 1 := ⟨k - 1, by omega⟩
    simp [spec_l12Step_l1, heldR, freeR]
  | x :: r, d, f, c, k, hw, hf, h0, hc, hk => by
    obtain ⟨k, rfl⟩ : ∃ m, k = m + 1 := ⟨k - 1, by omega⟩
    have hl : (d ++ x :: r).length = d.length + (r.length + 1) := by simp
    have e' : ix (d ++ x :: r) (d.length : Int) = x := ix_mid rfl
    simp only [List.length_cons] at hk hw
    simp only [spec_l12Step_l1, e', heldR, freeR, List.map_cons]
    rw [decide_eq_true (by omega)]
    simp only [cond_true]
    repeat rw [gd_pos (by first | assumption | omega | (intro; first | assumption | omega) | (intro h; cases h; done) | (simp; done) | (simp; omega) | (intros; simp at *; omega))]; try simp (disch := omega) only [wr]
    by_cases h : x = a.Owner
    · have ih := step_l1 (F := F) ho r (d ++ [-1]) (f ++ [(d.length : Int)]) (c + 1) k (by simp; omega) (by simp; omega) (by omega) (by simp; omega) (by omega)
      simp only [decide_eq_true h, if_pos h, cond_true]
      repeat rw [gd_pos (by first | assumption | omega | (intro; first | assumption | omega) | (intro h; cases h; done) | (simp; done) | (simp; omega) | (intros; simp at *; omega))]
      simp only [Option.bind_some, set_mid rfl]
      simp only [freeR, List.append_assoc, List.length_append, List.length_cons, List.length_nil, Int.natCast_add, List.singleton_append, Int.natCast_one, Nat.zero_add] at ih ⊢
      rw [ih]
      simp; omega
    · have ih := step_l1 (F := F) ho r (d ++ [x]) f c k (by simp; omega) (by simp; omega) (by omega) (by simp; omega) (by omega)
      simp only [decide_eq_false h, if_neg h, cond_false]
      simp only [Option.bind_some]
      simp only [freeR, List.append_assoc, List.length_append, List.length_cons, List.length_nil, Int.natCast_add, List.singleton_append, Int.natCast_one, Nat.zero_add] at ih ⊢
      rw [ih]
def stepP (p : impl_Pool) (a : impl_PoolAct) : impl_Pool × impl_PoolReply :=
  if ¬ (1 ≤ a.Kind ∧ a.Kind ≤ 4) then (p, ⟨3, 0⟩)
  else if ¬ (0 ≤ a.Owner ∧ a.Owner ≤ 5) ∨ (a.Kind = 2 ∧ ¬ (0 ≤ a.To ∧ a.To ≤ 5)) then (p, ⟨4, if a.Kind = 2 ∨ a.Kind = 3 then a.Buffer else 0⟩)
  else if a.Kind = 1 then (if p.Free = [] then (p, ⟨7, 0⟩) else (⟨p.Free.drop 1, p.Owner.set (ix p.Free 0).toNat a.Owner⟩, ⟨0, ix p.Free 0⟩))
  else if a.Kind = 4 then (⟨p.Free ++ heldR a.Owner p.Owner 0, freeR a.Owner p.Owner⟩, ⟨0, (heldR a.Owner p.Owner 0).length⟩)
  else if ¬ ((0 ≤ a.Buffer ∧ a.Buffer < p.Owner.length) ∧ ix p.Owner a.Buffer = a.Owner) then (p, ⟨5, a.Buffer⟩)
  else if a.Kind = 2 then (⟨p.Free, p.Owner.set a.Buffer.toNat a.To⟩, ⟨0, a.Buffer⟩)
  else (⟨p.Free ++ [a.Buffer], p.Owner.set a.Buffer.toNat (-1)⟩, ⟨0, a.Buffer⟩)
theorem ix0_mem {l : List Int} (h : l ≠ []) : ix l 0 ∈ l := by
  cases l with
  | nil => exact absurd rfl h
  | cons x r => simp [ix]
theorem act_ok {F : Nat} (hF : 2097152 ≤ F) {p : impl_Pool} (hp : In0 p) (hl : p.Free.length ≤ 1073741824) (a : impl_PoolAct) : impl_Pool_act F p a = some ((stepP p a).2, (stepP p a).1) := by
  obtain ⟨⟨hn1, hn2⟩, hfr⟩ := hp
  unfold impl_Pool_act stepP
  simp only [impl_inRange, impl_isOwner, Option.bind_some]
  by_cases h1 : ¬ (1 ≤ a.Kind ∧ a.Kind ≤ 4)
  · have hd : (decide (1 ≤ a.Kind) && decide (a.Kind ≤ 4)) = false := by simp; omega
    simp [hd, h1]
  rw [if_neg h1]
  have h1 := Classical.not_not.1 h1
  have hd1 : (decide (1 ≤ a.Kind) && decide (a.Kind ≤ 4)) = true := by simp [h1]
  simp only [hd1, Bool.not_true, cond_false]
  by_cases h2 : ¬ (0 ≤ a.Owner ∧ a.Owner ≤ 5) ∨ (a.Kind = 2 ∧ ¬ (0 ≤ a.To ∧ a.To ≤ 5))
  · rw [if_pos h2]
    rcases (show a.Kind = 1 ∨ a.Kind = 2 ∨ a.Kind = 3 ∨ a.Kind = 4 by omega) with e | e | e | e
    all_goals
      by_cases h3 : 0 ≤ a.Owner ∧ a.Owner ≤ 5
      · have hd3 : (decide (0 ≤ a.Owner) && decide (a.Owner ≤ 5)) = true := by simp [h3]
        first
          | (exfalso; omega)
          | (have hd4 : (decide (0 ≤ a.To) && decide (a.To ≤ 5)) = false := by simp; omega
             simp [hd3, hd4, e])
      · have hd3 : (decide (0 ≤ a.Owner) && decide (a.Owner ≤ 5)) = false := by simp; omega
        simp [hd3, e]
  rw [if_neg h2]
  have ho : 0 ≤ a.Owner ∧ a.Owner ≤ 5 := by omega
  have hd3 : (decide (0 ≤ a.Owner) && decide (a.Owner ≤ 5)) = true := by simp [ho]
  rcases (show a.Kind = 1 ∨ a.Kind = 2 ∨ a.Kind = 3 ∨ a.Kind = 4 by omega) with e | e | e | e
  · simp only [hd3, e]
    by_cases hf : p.Free = []
    · simp [impl_Pool_take, hf, Fl.on]
    · have hf' : 1 ≤ p.Free.length := by have := List.length_pos_iff.2 hf; omega
      have hx := hfr _ (ix0_mem hf)
      have hdel : slices_Delete___int_int_ p.Free 0 1 = some (p.Free.drop 1) := by
        unfold slices_Delete___int_int_
        rw [gd_pos (by omega)]
        rw [show decide ((0 : Int) = 1) = false from rfl, cond_false]
        have hs : slc p.Free 0 (Int.toNat 0) ++ slc p.Free (Int.toNat 1) p.Free.length = p.Free.drop 1 := by simp [slc, List.take_of_length_le]
        have hs2 : (slc p.Free 0 (Int.toNat 0)).length + (slc p.Free (Int.toNat 1) p.Free.length).length = p.Free.length - 1 := by simp [slc]
        rw [gd_pos (by omega), gd_pos (by omega), gd_pos (by omega), hs, gd_pos (by simp)]
      simp only [impl_Pool_take]
      rw [decide_eq_false (by omega)]
      rw [cond_false, gd_pos (by omega), hdel, Option.bind_some, gd_pos (by omega)]
      simp [Fl.on, hf]
  · have hto : 0 ≤ a.To ∧ a.To ≤ 5 := by omega
    have hd4 : (decide (0 ≤ a.To) && decide (a.To ≤ 5)) = true := by simp [hto]
    simp only [hd3, hd4, e]
    by_cases h5 : 0 ≤ a.Buffer ∧ a.Buffer < (p.Owner.length : Int)
    · have hd5 : (decide (0 ≤ a.Buffer) && decide (a.Buffer ≤ (p.Owner.length : Int) - 1)) = true := by simp; omega
      try simp (disch := omega) only [wr]
      have h11 : a.Buffer ≤ (p.Owner.length : Int) - 1 := by omega
      by_cases h6 : ix p.Owner a.Buffer = a.Owner <;> simp [hd5, h5, h6, h11, gd, Fl.on]
    · have hd5 : (decide (0 ≤ a.Buffer) && decide (a.Buffer ≤ (p.Owner.length : Int) - 1)) = false := by simp; omega
      try simp (disch := omega) only [wr]
      simp [hd5, h5, gd, Fl.on]
  · simp only [hd3, e]
    by_cases h5 : 0 ≤ a.Buffer ∧ a.Buffer < (p.Owner.length : Int)
    · have hd5 : (decide (0 ≤ a.Buffer) && decide (a.Buffer ≤ (p.Owner.length : Int) - 1)) = true := by simp; omega
      try simp (disch := omega) only [wr]
      have h7 : (p.Free.length + 1) * 8 ≤ 140737488355328 := by omega
      have h11 : a.Buffer ≤ (p.Owner.length : Int) - 1 := by omega
      by_cases h6 : ix p.Owner a.Buffer = a.Owner <;> simp [hd5, h5, h6, h11, h7, gd, Fl.on, impl_Pool_release]
    · have hd5 : (decide (0 ≤ a.Buffer) && decide (a.Buffer ≤ (p.Owner.length : Int) - 1)) = false := by simp; omega
      try simp (disch := omega) only [wr]
      simp [hd5, h5, gd, Fl.on]
  · simp only [hd3, e]
    rw [held_ok hF hn2]
    have := act_l1 (F := F) (h := heldR a.Owner p.Owner 0) (by have := heldR_len a.Owner p.Owner 0; omega) (heldR a.Owner p.Owner 0) [] p.Free p.Owner F rfl (by simp; omega) (fun x hx => by have := heldR_in _ _ _ x hx; omega) (by have := heldR_len a.Owner p.Owner 0; omega)
    have hs := held_set a.Owner p.Owner []
    simp only [List.length_nil, List.nil_append, Int.natCast_zero] at this hs
    simp [this, Fl.on, hs]
theorem own_ok {p : impl_Pool} (hn : p.Owner.length ≤ 1073741824) (hl : p.Free.length ≤ 1073741824) : spec_l12Own p = some p := by
  unfold spec_l12Own
  rw [gd_pos (by simp; omega), gd_pos (by simp; omega)]
  simp
theorem step_ok {F : Nat} (hF : 2097152 ≤ F) {p : impl_Pool} (hp : In0 p) (hl : p.Free.length ≤ 1073741824) (a : impl_PoolAct) : spec_l12Step F p a = some (stepP p a) := by
  obtain ⟨⟨hn1, hn2⟩, hfr⟩ := hp
  unfold spec_l12Step stepP
  have hown := own_ok (p := p) (by omega) hl
  simp only [spec_l01In, Option.bind_some]
  by_cases h1 : ¬ (1 ≤ a.Kind ∧ a.Kind ≤ 4)
  · have hd : (decide (1 ≤ a.Kind) && decide (a.Kind ≤ 4)) = false := by simp; omega
    simp [hd, h1]
  rw [if_neg h1]
  have h1 := Classical.not_not.1 h1
  have hd1 : (decide (1 ≤ a.Kind) && decide (a.Kind ≤ 4)) = true := by simp [h1]
  simp only [hd1, Bool.not_true, cond_false]
  by_cases h2 : ¬ (0 ≤ a.Owner ∧ a.Owner ≤ 5) ∨ (a.Kind = 2 ∧ ¬ (0 ≤ a.To ∧ a.To ≤ 5))
  · rw [if_pos h2]
    rcases (show a.Kind = 1 ∨ a.Kind = 2 ∨ a.Kind = 3 ∨ a.Kind = 4 by omega) with e | e | e | e
    all_goals
      by_cases h3 : 0 ≤ a.Owner ∧ a.Owner ≤ 5
      · have hd3 : (decide (0 ≤ a.Owner) && decide (a.Owner ≤ 5)) = true := by simp [h3]
        first
          | (exfalso; omega)
          | (have hd4 : (decide (0 ≤ a.To) && decide (a.To ≤ 5)) = false := by simp; omega
             simp [hd3, hd4, e])
      · have hd3 : (decide (0 ≤ a.Owner) && decide (a.Owner ≤ 5)) = false := by simp; omega
        simp [hd3, e]
  rw [if_neg h2, hown]
  have ho : 0 ≤ a.Owner ∧ a.Owner ≤ 5 := by omega
  have hd3 : (decide (0 ≤ a.Owner) && decide (a.Owner ≤ 5)) = true := by simp [ho]
  rcases (show a.Kind = 1 ∨ a.Kind = 2 ∨ a.Kind = 3 ∨ a.Kind = 4 by omega) with e | e | e | e
  · simp only [hd3, e]
    by_cases hf : p.Free = []
    · simp [hf, Fl.on]
    · have hf' : 1 ≤ p.Free.length := by have := List.length_pos_iff.2 hf; omega
      have hx := hfr _ (ix0_mem hf)
      have h8 : slc p.Free 1 p.Free.length = p.Free.drop 1 := by simp [slc, List.take_of_length_le]
      have h9 : (p.Free.length - 1) * 8 ≤ 140737488355328 := by omega
      have h10 : (1 : Int) ≤ p.Free.length := by omega
      simp [hf, gd, Fl.on, h8, hx, h9, hf', h10, show 0 < p.Free.length by omega]
  · have hto : 0 ≤ a.To ∧ a.To ≤ 5 := by omega
    have hd4 : (decide (0 ≤ a.To) && decide (a.To ≤ 5)) = true := by simp [hto]
    simp only [hd3, hd4, e]
    by_cases h5 : 0 ≤ a.Buffer ∧ a.Buffer < (p.Owner.length : Int)
    · have hd5 : (decide (0 ≤ a.Buffer) && decide (a.Buffer ≤ (p.Owner.length : Int) - 1)) = true := by simp; omega
      have wr5 : IntKind.wrap .i64 ((p.Owner.length : Int) - 1) = (p.Owner.length : Int) - 1 := wr (by omega)
      have h11 : a.Buffer ≤ (p.Owner.length : Int) - 1 := by omega
      by_cases h6 : ix p.Owner a.Buffer = a.Owner <;> simp [hd5, h5, h6, h11, gd, Fl.on, spec_l12Mine, spec_l01In, wr5]
    · have hd5 : (decide (0 ≤ a.Buffer) && decide (a.Buffer ≤ (p.Owner.length : Int) - 1)) = false := by simp; omega
      have wr5 : IntKind.wrap .i64 ((p.Owner.length : Int) - 1) = (p.Owner.length : Int) - 1 := wr (by omega)
      simp [hd5, h5, gd, Fl.on, spec_l12Mine, spec_l01In, wr5]
  · simp only [hd3, e]
    by_cases h5 : 0 ≤ a.Buffer ∧ a.Buffer < (p.Owner.length : Int)
    · have hd5 : (decide (0 ≤ a.Buffer) && decide (a.Buffer ≤ (p.Owner.length : Int) - 1)) = true := by simp; omega
      have wr5 : IntKind.wrap .i64 ((p.Owner.length : Int) - 1) = (p.Owner.length : Int) - 1 := wr (by omega)
      have h7 : (p.Free.length + 1) * 8 ≤ 140737488355328 := by omega
      have h11 : a.Buffer ≤ (p.Owner.length : Int) - 1 := by omega
      by_cases h6 : ix p.Owner a.Buffer = a.Owner <;> simp [hd5, h5, h6, h11, h7, gd, Fl.on, spec_l12Mine, spec_l01In, wr5]
    · have hd5 : (decide (0 ≤ a.Buffer) && decide (a.Buffer ≤ (p.Owner.length : Int) - 1)) = false := by simp; omega
      have wr5 : IntKind.wrap .i64 ((p.Owner.length : Int) - 1) = (p.Owner.length : Int) - 1 := wr (by omega)
      simp [hd5, h5, gd, Fl.on, spec_l12Mine, spec_l01In, wr5]
  · simp only [hd3, e]
    have := step_l1 (F := F) (a := a) (by omega) p.Owner [] p.Free 0 F (by simp; omega) (by simp; omega) (by omega) (by simp) (by omega)
    simp only [List.length_nil, List.nil_append, Int.natCast_zero] at this
    simp [this, Fl.on]
/-! ### A pool from new, and a run of acts -/
theorem stepP_sz {p : impl_Pool} (hp : In0 p) (a : impl_PoolAct) : (stepP p a).1.Free.length ≤ p.Free.length + 32 ∧ (stepP p a).1.Owner.length = p.Owner.length := by
  have h1 := heldR_len a.Owner p.Owner 0
  have h2 := hp.1.2
  unfold stepP
  repeat' split
  all_goals simp [freeR]
  all_goals omega
theorem stepP_in {p : impl_Pool} (hp : In0 p) (a : impl_PoolAct) : In0 (stepP p a).1 := by
  have h1 := stepP_sz hp a
  obtain ⟨h3, h4⟩ := hp
  refine ⟨by omega, ?_⟩
  rw [h1.2]
  clear h1
  unfold stepP
  repeat' split
  all_goals simp only
  all_goals try exact h4
  · intro x hx; exact h4 x (List.mem_of_mem_drop hx)
  · intro x hx
    rcases List.mem_append.1 hx with hx | hx
    · exact h4 x hx
    · have := heldR_in _ _ _ x hx; omega
  · intro x hx
    rcases List.mem_append.1 hx with hx | hx
    · exact h4 x hx
    · rw [List.mem_singleton.1 hx]; omega
def upto (n : Nat) : List Int := (List.range n).map fun (i : Nat) => (i : Int)
theorem upto_succ (n : Nat) : upto (n + 1) = upto n ++ [(n : Int)] := by simp [upto, List.range_succ]
theorem upto_len (n : Nat) : (upto n).length = n := by simp [upto]
theorem upto_in {n : Nat} {x : Int} (h : x ∈ upto n) : 0 ≤ x ∧ x < n := by
  simp only [upto, List.mem_map, List.mem_range] at h
  obtain ⟨i, h1, rfl⟩ := h
  omega
theorem newI {F n : Nat} (hn : n ≤ 32) : ∀ (m i k : Nat) (s w : List Int), i + m = n → m < k → s = upto i ++ List.replicate m 0 → w = List.replicate i (-1) ++ List.replicate m 0 → impl_NewPool_l1 F (n : Int) k s w (i : Int) = some (upto n, List.replicate n (-1))
  | 0, i, k, s, w, hi, hk, hs, hw => by
    obtain ⟨k, rfl⟩ : ∃ m, k = m + 1 := ⟨k - 1, by omega⟩
    have : i = n := by omega
    subst this
    simp [impl_NewPool_l1, hs, hw]
  | m + 1, i, k, s, w, hi, hk, hs, hw => by
    obtain ⟨k, rfl⟩ : ∃ m, k = m + 1 := ⟨k - 1, by omega⟩
    have ls : s.length = n := by rw [hs]; simp [upto_len]; omega
    have lw : w.length = n := by rw [hw]; simp; omega
    simp only [impl_NewPool_l1]
    rw [decide_eq_true (by omega), cond_true]
    repeat rw [gd_pos (by first | assumption | omega | (intro; first | assumption | omega) | (intro h; cases h; done) | (simp; done) | (simp; omega) | (intros; simp at *; omega))]; try simp (disch := omega) only [wr]
    have ih := newI (F := F) hn m (i + 1) k (s.set (Int.toNat (i : Int)) i) (w.set (Int.toNat (i : Int)) (-1)) (by omega) (by omega) (by
      rw [hs, List.replicate_succ, set_mid (by rw [upto_len]), upto_succ]; simp) (by
      rw [hw, List.replicate_succ, set_mid (by simp), List.replicate_succ']; simp)
    simpa using ih
theorem newS {F n : Nat} (hn : n ≤ 32) : ∀ (m i k : Nat), i + m = n → m < k → spec_NewPool_l1 F (n : Int) k (upto i) (List.replicate i (-1)) (i : Int) = some (upto n, List.replicate n (-1))
  | 0, i, k, hi, hk => by
    obtain ⟨k, rfl⟩ : ∃ m, k = m + 1 := ⟨k - 1, by omega⟩
    have : i = n := by omega
    subst this
    simp [spec_NewPool_l1]
  | m + 1, i, k, hi, hk => by
    obtain ⟨k, rfl⟩ : ∃ m, k = m + 1 := ⟨k - 1, by omega⟩
    have ls := upto_len i
    simp only [spec_NewPool_l1]
    rw [decide_eq_true (by omega), cond_true, gd_pos (by simp; omega), gd_pos (by simp; omega)]
    try simp (disch := omega) only [wr]
    have ih := newS (F := F) hn m (i + 1) k (by omega) (by omega)
    rw [upto_succ, List.replicate_succ'] at ih
    simpa using ih
/-- A pool of n buffers, or that there is none. -/
def newP (n : Int) : impl_Pool × Int := if 1 ≤ n ∧ n ≤ 32 then (⟨upto n.toNat, List.replicate n.toNat (-1)⟩, 0) else (⟨[], []⟩, 4)
theorem newI_ok {F : Nat} (hF : 2097152 ≤ F) (n : Int) : impl_NewPool F n = some (newP n) := by
  unfold impl_NewPool newP
  simp only [impl_inRange, Option.bind_some]
  by_cases h : 1 ≤ n ∧ n ≤ 32
  · obtain ⟨m, rfl⟩ : ∃ m : Nat, n = m := ⟨n.toNat, by omega⟩
    have hd : (decide (1 ≤ (m : Int)) && decide ((m : Int) ≤ 32)) = true := by simp; omega
    rw [hd, if_pos h]
    simp only [Bool.not_true, cond_false]
    have := newI (F := F) (n := m) (by omega) m 0 F (List.replicate m 0) (List.replicate m 0) (by omega) (by omega) (by simp [upto]) (by simp)
    rw [gd_pos (by omega), gd_pos (by omega)]
    simp only [Int.toNat_natCast, Int.natCast_zero] at this ⊢
    rw [this]; rfl
  · have hd : (decide (1 ≤ n) && decide (n ≤ 32)) = false := by simp; omega
    rw [hd, if_neg h]; rfl
theorem newS_ok {F : Nat} (hF : 2097152 ≤ F) (n : Int) : spec_NewPool F n = some (newP n) := by
  unfold spec_NewPool newP
  simp only [spec_l01In, Option.bind_some]
  by_cases h : 1 ≤ n ∧ n ≤ 32
  · obtain ⟨m, rfl⟩ : ∃ m : Nat, n = m := ⟨n.toNat, by omega⟩
    have hd : (decide (1 ≤ (m : Int)) && decide ((m : Int) ≤ 32)) = true := by simp; omega
    rw [hd, if_pos h]
    simp only [Bool.not_true, cond_false]
    have := newS (F := F) (n := m) (by omega) m 0 F (by omega) (by omega)
    rw [show upto 0 = [] from rfl, List.replicate_zero] at this
    simp only [Int.toNat_natCast, Int.natCast_zero] at this ⊢
    rw [this]; rfl
  · have hd : (decide (1 ≤ n) && decide (n ≤ 32)) = false := by simp; omega
    rw [hd, if_neg h]; rfl
theorem newP_in {n : Int} (h : (newP n).2 = 0) : In0 (newP n).1 ∧ (newP n).1.Free.length ≤ 32 ∧ (1 ≤ n ∧ n ≤ 32) := by
  unfold newP at h ⊢
  split at h
  · rename_i h'
    rw [if_pos h']
    refine ⟨⟨by simp; omega, fun x hx => ?_⟩, by simp [upto_len]; omega, h'⟩
    have := upto_in (n := n.toNat) hx
    simp; omega
  · cases h
/-- A pool after a row of acts, and the replies. -/
def runP : impl_Pool → List impl_PoolAct → impl_Pool × List impl_PoolReply
  | p, [] => (p, [])
  | p, a :: r => ((runP (stepP p a).1 r).1, (stepP p a).2 :: (runP (stepP p a).1 r).2)
theorem runP_len : ∀ (r : List impl_PoolAct) (p : impl_Pool), (runP p r).2.length = r.length
  | [], _ => rfl
  | a :: r, p => by simp [runP, runP_len r]
theorem runP_in : ∀ (r : List impl_PoolAct) (p : impl_Pool), In0 p → In0 (runP p r).1 ∧ (runP p r).1.Free.length ≤ p.Free.length + 32 * r.length ∧ (runP p r).1.Owner.length = p.Owner.length
  | [], p, h => ⟨h, by simp [runP], rfl⟩
  | a :: r, p, h => by
    have h1 := runP_in r (stepP p a).1 (stepP_in h a)
    have h2 := stepP_sz h a
    exact ⟨h1.1, by simp only [runP, List.length_cons]; omega, by simp only [runP]; omega⟩
theorem runI {F : Nat} (hF : 2097152 ≤ F) {al : List impl_PoolAct} (hl : al.length ≤ 300) : ∀ (r d : List impl_PoolAct) (p : impl_Pool) (os : List impl_PoolReply) (s : List impl_PoolReply) (k : Nat), al = d ++ r → In0 p → p.Free.length ≤ 32 * d.length + 32 → r.length < k → os.length = d.length → s.length = r.length →
    impl_PoolRun_l1 F al k p.Free p.Owner (os ++ s) (d.length : Int) = some ((runP p r).1.Free, (runP p r).1.Owner, os ++ (runP p r).2)
  | [], d, p, os, s, k, e, hp, hb, hk, ho, hs => by
    obtain ⟨k, rfl⟩ : ∃ m, k = m + 1 := ⟨k - 1, by omega⟩
    have : s = [] := by simpa using hs
    subst this
    subst e
    simp [impl_PoolRun_l1, runP]
  | a :: r, d, p, os, s, k, e, hp, hb, hk, ho, hs => by
    obtain ⟨k, rfl⟩ : ∃ m, k = m + 1 := ⟨k - 1, by omega⟩
    have la : al.length = d.length + (r.length + 1) := by rw [e]; simp
    have e' : ix al (d.length : Int) = a := by rw [e]; exact ix_mid rfl
    simp only [List.length_cons] at hk hs
    cases s with
    | nil => simp at hs
    | cons y s =>
      have h2 := stepP_sz hp a
      simp only [impl_PoolRun_l1]
      rw [decide_eq_true (by omega), cond_true, gd_pos (by omega), e', act_ok hF hp (by omega), Option.bind_some, gd_pos (by simp; omega), set_mid (by rw [ho])]
      try simp (disch := omega) only [wr]
      have ih := runI hF hl r (d ++ [a]) (stepP p a).1 (os ++ [(stepP p a).2]) s k (by rw [e]; simp) (stepP_in hp a) (by simp; omega) (by omega) (by simp [ho]) (by simp at hs; omega)
      simpa [runP] using ih
theorem runS {F : Nat} (hF : 2097152 ≤ F) {al : List impl_PoolAct} (hl : al.length ≤ 300) : ∀ (r d : List impl_PoolAct) (p : impl_Pool) (os : List impl_PoolReply) (k : Nat), al = d ++ r → In0 p → p.Free.length ≤ 32 * d.length + 32 → r.length < k → os.length = d.length →
    spec_PoolRun_l1 F al k p.Free p.Owner os (d.length : Int) = some ((runP p r).1.Free, (runP p r).1.Owner, os ++ (runP p r).2)
  | [], d, p, os, k, e, hp, hb, hk, ho => by
    obtain ⟨k, rfl⟩ : ∃ m, k = m + 1 := ⟨k - 1, by omega⟩
    subst e
    simp [spec_PoolRun_l1, runP]
  | a :: r, d, p, os, k, e, hp, hb, hk, ho => by
    obtain ⟨k, rfl⟩ : ∃ m, k = m + 1 := ⟨k - 1, by omega⟩
    have la : al.length = d.length + (r.length + 1) := by rw [e]; simp
    have e' : ix al (d.length : Int) = a := by rw [e]; exact ix_mid rfl
    simp only [List.length_cons] at hk
    have h2 := stepP_sz hp a
    simp only [spec_PoolRun_l1]
    rw [decide_eq_true (by omega), cond_true, gd_pos (by omega), e', step_ok hF hp (by omega), Option.bind_some, gd_pos (by simp; omega)]
    try simp (disch := omega) only [wr]
    have ih := runS hF hl r (d ++ [a]) (stepP p a).1 (os ++ [(stepP p a).2]) k (by rw [e]; simp) (stepP_in hp a) (by simp; omega) (by omega) (by simp [ho])
    simpa [runP] using ih
/-- What a whole run answers. -/
def wholeP (n : Int) (al : List impl_PoolAct) : impl_Pool × List impl_PoolReply × Int :=
  if 4096 < al.length then (⟨[], []⟩, [], 2) else if (newP n).2 ≠ 0 then (⟨[], []⟩, [], (newP n).2) else if 300 < al.length then (⟨[], []⟩, [], 6) else ((runP (newP n).1 al).1, (runP (newP n).1 al).2, 0)
theorem wholeI {F : Nat} (hF : 2097152 ≤ F) (n : Int) (al : List impl_PoolAct) : impl_PoolRun F n al = some (wholeP n al) := by
  unfold impl_PoolRun wholeP
  by_cases h1 : 4096 < al.length
  · rw [decide_eq_true (by omega), if_pos h1]; rfl
  rw [decide_eq_false (by omega), if_neg h1, cond_false, newI_ok hF, Option.bind_some]
  by_cases h2 : (newP n).2 = 0
  · have hi := newP_in h2
    rw [if_neg (by simp [h2]), decide_eq_true h2]
    simp only [Bool.not_true, cond_false]
    by_cases h3 : 300 < al.length
    · rw [decide_eq_true (by omega), if_pos h3]; rfl
    rw [decide_eq_false (by omega), if_neg h3, cond_false, gd_pos (by omega)]
    have := runI (F := F) (al := al) hF (by omega) al [] (newP n).1 [] (List.replicate (Int.toNat (al.length : Int)) (impl_PoolReply.mk 0 0)) F rfl hi.1 (by simp; omega) (by omega) rfl (by simp)
    simp only [List.length_nil, List.nil_append, Int.natCast_zero] at this
    rw [this]; rfl
  · rw [if_pos h2, decide_eq_false h2]; rfl
theorem wholeS {F : Nat} (hF : 2097152 ≤ F) (n : Int) (al : List impl_PoolAct) : spec_PoolRun F n al = some (wholeP n al) := by
  unfold spec_PoolRun wholeP
  by_cases h1 : 4096 < al.length
  · rw [decide_eq_true (by omega), if_pos h1]; rfl
  rw [decide_eq_false (by omega), if_neg h1, cond_false, newS_ok hF, Option.bind_some]
  by_cases h2 : (newP n).2 = 0
  · have hi := newP_in h2
    rw [if_neg (by simp [h2]), decide_eq_true h2]
    simp only [Bool.not_true, cond_false]
    by_cases h3 : 300 < al.length
    · rw [decide_eq_true (by omega), if_pos h3]; rfl
    rw [decide_eq_false (by omega), if_neg h3, cond_false]
    have := runS (F := F) (al := al) hF (by omega) al [] (newP n).1 [] F rfl hi.1 (by simp; omega) (by omega) rfl
    simp only [List.length_nil, List.nil_append, Int.natCast_zero] at this
    have hr := runP_in al (newP n).1 hi.1
    rw [this, Option.bind_some]
    simp only
    rw [own_ok (p := (runP (newP n).1 al).1) (by have := hi.1.1.2; omega) (by omega)]; rfl
  · rw [if_pos h2, decide_eq_false h2]; rfl
theorem wholeP_sz (n : Int) (al : List impl_PoolAct) : (wholeP n al).1.Free.length ≤ 10000 ∧ (wholeP n al).1.Owner.length ≤ 32 ∧ (wholeP n al).2.1.length ≤ 300 := by
  unfold wholeP
  repeat' split
  · simp
  · simp
  · simp
  · rename_i h1 h2 h3
    have hi := newP_in (n := n) (by omega)
    have hr := runP_in al (newP n).1 hi.1
    have hl := runP_len al (newP n).1
    have := hi.1.1.2
    simp only; omega
/-! ### Pools: compared, marked -/
theorem eqPool_ok {F : Nat} (hF : 2097152 ≤ F) {p : impl_Pool} (h : PoolSz p) : laws_eqPool F p p = some true := by
  unfold laws_eqPool
  rw [eqIntS_ok hF h.1, Option.bind_some, eqIntS_ok hF h.2]; rfl
theorem eqPoolReply_ok (r : impl_PoolReply) : laws_eqPoolReply r r = some true := by simp [laws_eqPoolReply]
/-- The counter behind a marked pool. -/
def poolM (p : impl_Pool) (c : Int) : Int × List Int × List Int := ((markL mInt p.Owner (markL mInt p.Free c).2).2, (markL mInt p.Free c).1, (markL mInt p.Owner (markL mInt p.Free c).2).1)
theorem poolM_le {p : impl_Pool} (h : PoolSz p) (c : Int) : c ≤ (poolM p c).1 ∧ (poolM p c).1 ≤ c + 3000000 := by
  have h1 := mInt_le h.1 c
  have h2 := mInt_le h.2 (markL mInt p.Free c).2
  simp only [poolM]; omega
theorem markPool_ok {F : Nat} (hF : 2097152 ≤ F) {p : impl_Pool} (h : PoolSz p) {c : Int} (hc : 0 ≤ c ∧ c ≤ 576460752303423488) : laws_markPool F p c = some (poolM p c) := by
  have h1 := mInt_le h.1 c
  unfold laws_markPool
  rw [markIntS_ok hF h.1 (by omega), Option.bind_some, markIntS_ok hF h.2 (by simp only; omega)]; rfl
theorem heldPool_ok {F : Nat} (hF : 2097152 ≤ F) {p : impl_Pool} (h : PoolSz p) {c : Int} (hc : 0 ≤ c ∧ c ≤ 576460752303423488) : laws_heldPool F (impl_Pool.mk (poolM p c).2.1 (poolM p c).2.2) c = some (poolM p c).1 := by
  have h1 := mInt_le h.1 c
  have h2 := mInt_le h.2 (markL mInt p.Free c).2
  unfold laws_heldPool
  simp only [poolM]
  rw [heldIntS_ok hF h.1 (by omega), Option.bind_some, decide_eq_false (by omega), cond_false, heldIntS_ok hF h.2 (by omega), Option.bind_some, decide_eq_false (by omega)]; rfl
/-! ### Rows of acts and of replies: measured, copied, compared, marked -/
theorem szPoolActS_ok {a : List impl_PoolAct} {b : Int} (hb : 0 ≤ b ∧ b ≤ 1048576) (ha : a.length ≤ maxLen) : laws_szPoolActS a b = some (if (a.length : Int) ≤ b then b - a.length else -1) := by
  have : (a.length : Int) ≤ 9223372036854775807 := by unfold maxLen at ha; omega
  unfold laws_szPoolActS
  rw [wr (by omega)]
  by_cases h : (a.length : Int) ≤ b
  · rw [if_pos h, decide_eq_false (by omega)]; rfl
  · rw [if_neg h, decide_eq_true (by omega)]; rfl
theorem toPoolActS_ok {F : Nat} (hF : 2097152 ≤ F) {a : List impl_PoolAct} (h : a.length ≤ 1500000) : laws_toPoolActS F a = some a := by
  unfold laws_toPoolActS
  rw [gd_pos (by omega), copy_all (f := laws_toPoolActS_l1 F a) (by omega)]
  · rfl
  · intro k s; simp [laws_toPoolActS_l1]
  · intro k s i h0 h1 h2
    simp only [laws_toPoolActS_l1, decide_eq_true h1, cond_true, laws_toPoolAct, Option.bind_some]
    simp (disch := omega) only [gd_pos, wr]
theorem eqPoolAct_ok (r : impl_PoolAct) : laws_eqPoolAct r r = some true := by simp [laws_eqPoolAct]
theorem eqPoolActS_ok {F : Nat} (hF : 2097152 ≤ F) {a : List impl_PoolAct} (h : a.length ≤ 1500000) : laws_eqPoolActS F a a = some true := by
  unfold laws_eqPoolActS
  have := same_loop (n := a.length) (v := Fl.go ()) (f := laws_eqPoolActS_l1 F a a) (fun k => by simp [laws_eqPoolActS_l1]) (fun k i h0 h1 => by
    simp only [laws_eqPoolActS_l1, decide_eq_true h1, cond_true, eqPoolAct_ok, Option.bind_some]
    simp (disch := omega) only [gd_pos, wr]
    simp) a.length 0 F (by omega) (by omega)
  simp at this
  simp [this, Fl.on]
def mPoolActS : impl_PoolAct → Int → impl_PoolAct × Int := fun x c => (⟨c, c + 1, c + 2, c + 3⟩, c + 4)
theorem mPoolActS_up : ∀ x c, True → c ≤ (mPoolActS x c).2 ∧ (mPoolActS x c).2 ≤ c + (4 : Nat) := fun x c _ => by simp [mPoolActS]; omega
theorem markPoolActS_ok {F : Nat} (hF : 2097152 ≤ F) {a : List impl_PoolAct} (h : a.length ≤ 1500000) {c : Int} (hc : 0 ≤ c ∧ c ≤ 1152921504606846976) : laws_markPoolActS F a c = some ((markL mPoolActS a c).2, (markL mPoolActS a c).1) := by
  have := mark_loop mPoolActS_up (B := 2305843009213693952) (f := laws_markPoolActS_l1 F) (fun k s c => by simp [laws_markPoolActS_l1]) (fun k s c i h0 h1 h2 h3 h4 _ => by
    simp only [laws_markPoolActS_l1, decide_eq_true h1, cond_true, mPoolActS, List.length_set]
    simp (disch := omega) only [gd_pos, wr, Int.add_assoc, Int.reduceAdd]) a [] c F (fun _ _ => trivial) (by omega) (by simp; omega) (by omega) (by omega)
  simp at this
  simp [laws_markPoolActS, this]
theorem mPoolActS_le {a : List impl_PoolAct} (h : a.length ≤ 1500000) (c : Int) : c ≤ (markL mPoolActS a c).2 ∧ (markL mPoolActS a c).2 ≤ c + 6000000 := by
  have := markL_up mPoolActS_up a c (fun _ _ => trivial)
  omega
theorem eqPoolReplyS_ok {F : Nat} (hF : 2097152 ≤ F) {a : List impl_PoolReply} (h : a.length ≤ 1500000) : laws_eqPoolReplyS F a a = some true := by
  unfold laws_eqPoolReplyS
  have := same_loop (n := a.length) (v := Fl.go ()) (f := laws_eqPoolReplyS_l1 F a a) (fun k => by simp [laws_eqPoolReplyS_l1]) (fun k i h0 h1 => by
    simp only [laws_eqPoolReplyS_l1, decide_eq_true h1, cond_true, eqPoolReply_ok, Option.bind_some]
    simp (disch := omega) only [gd_pos, wr]
    simp) a.length 0 F (by omega) (by omega)
  simp at this
  simp [this, Fl.on]
def mPoolReplyS : impl_PoolReply → Int → impl_PoolReply × Int := fun x c => (⟨c, c + 1⟩, c + 2)
theorem mPoolReplyS_up : ∀ x c, True → c ≤ (mPoolReplyS x c).2 ∧ (mPoolReplyS x c).2 ≤ c + (2 : Nat) := fun x c _ => by simp [mPoolReplyS]; omega
theorem markPoolReplyS_ok {F : Nat} (hF : 2097152 ≤ F) {a : List impl_PoolReply} (h : a.length ≤ 1500000) {c : Int} (hc : 0 ≤ c ∧ c ≤ 1152921504606846976) : laws_markPoolReplyS F a c = some ((markL mPoolReplyS a c).2, (markL mPoolReplyS a c).1) := by
  have := mark_loop mPoolReplyS_up (B := 2305843009213693952) (f := laws_markPoolReplyS_l1 F) (fun k s c => by simp [laws_markPoolReplyS_l1]) (fun k s c i h0 h1 h2 h3 h4 _ => by
    simp only [laws_markPoolReplyS_l1, decide_eq_true h1, cond_true, mPoolReplyS, List.length_set]
    simp (disch := omega) only [gd_pos, wr, Int.add_assoc, Int.reduceAdd]) a [] c F (fun _ _ => trivial) (by omega) (by simp; omega) (by omega) (by omega)
  simp at this
  simp [laws_markPoolReplyS, this]
theorem mPoolReplyS_le {a : List impl_PoolReply} (h : a.length ≤ 1500000) (c : Int) : c ≤ (markL mPoolReplyS a c).2 ∧ (markL mPoolReplyS a c).2 ≤ c + 3000000 := by
  have := markL_up mPoolReplyS_up a c (fun _ _ => trivial)
  omega
theorem heldPoolReplyS_ok {F : Nat} (hF : 2097152 ≤ F) {a : List impl_PoolReply} (h : a.length ≤ 1500000) {c : Int} (hc : 0 ≤ c ∧ c ≤ 1152921504606846976) : laws_heldPoolReplyS F (markL mPoolReplyS a c).1 c = some (markL mPoolReplyS a c).2 := by
  have := held_loop mPoolReplyS_up (B := 2305843009213693952) (a := (markL mPoolReplyS a c).1) (f := laws_heldPoolReplyS_l1 F (markL mPoolReplyS a c).1) (fun k c => by simp [laws_heldPoolReplyS_l1]) (fun k c x i h0 h1 h2 h3 h4 _ h5 => by
    simp only [laws_heldPoolReplyS_l1, decide_eq_true h1, cond_true, h5, mPoolReplyS]
    simp (disch := omega) only [gd_pos, wr, Int.add_assoc, Int.reduceAdd]
    simp) (by rw [markL_len]; omega) a [] c F rfl (fun _ _ => trivial) (by omega) (by omega) (by omega)
  simp at this
  simp [laws_heldPoolReplyS, this, Fl.on]
theorem main {F : Nat} (hF : 2097152 ≤ F) {n : Int} {al : List impl_PoolAct} (h1 : al.length ≤ maxLen) : laws_FnExactPoolRun F n al = some true := by
  unfold laws_FnExactPoolRun
  rw [szPoolActS_ok (by omega) h1, Option.bind_some]
  by_cases h : (al.length : Int) ≤ 1048576
  · rw [if_pos h, decide_eq_false (by omega), cond_false]
    have hz := wholeP_sz n al
    have hp : PoolSz (wholeP n al).1 := by constructor <;> omega
    have m1 := mPoolActS_le (a := al) (by omega) 1
    have m2 := poolM_le hp 1
    have m3 := mPoolReplyS_le (a := (wholeP n al).2.1) (by omega) (poolM (wholeP n al).1 1).1
    have k1 := markPoolActS_ok hF (a := al) (by omega) (c := 1) (by omega)
    have k2 := markPool_ok hF hp (c := 1) (by omega)
    have k3 := heldPool_ok hF hp (c := 1) (by omega)
    have k4 := markPoolReplyS_ok hF (a := (wholeP n al).2.1) (by omega) (c := (poolM (wholeP n al).1 1).1) (by omega)
    have k5 := heldPoolReplyS_ok hF (a := (wholeP n al).2.1) (by omega) (c := (poolM (wholeP n al).1 1).1) (by omega)
    have d1 : decide ((markL mPoolActS al 1).2 < 0) = false := decide_eq_false (by omega)
    have d2 : decide ((poolM (wholeP n al).1 1).1 < 0) = false := decide_eq_false (by omega)
    have d3 : decide ((markL mPoolReplyS (wholeP n al).2.1 (poolM (wholeP n al).1 1).1).2 < 0) = false := decide_eq_false (by omega)
    have t1 := toPoolActS_ok hF (a := al) (by omega)
    have q1 := eqPoolActS_ok hF (a := al) (by omega)
    have q2 := eqPoolReplyS_ok hF (a := (wholeP n al).2.1) (by omega)
    simp only [t1, Option.bind_some, wholeS hF, wholeI hF, eqPool_ok hF hp, q1, q2, k1, k2, k3, k4, k5, d1, d2, d3, Bool.not_true, Bool.not_false, cond_true, cond_false, Bool.or_false, Bool.false_or, decide_true]
  · rw [if_neg h, decide_eq_true (by omega)]; rfl
theorem pure : Pure := fun n al _ hp => ⟨2097152, main (Nat.le_refl _) hp.1⟩
end Go.Proofs.Ytpkdolmbhfmjcaa.FnExactPoolRun
