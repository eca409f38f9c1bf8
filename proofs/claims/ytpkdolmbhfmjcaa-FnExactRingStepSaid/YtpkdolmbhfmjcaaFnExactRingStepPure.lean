/- The ring's step: program and reference answer alike, and no row is shared. -/
import Derived.Test.YtpkdolmbhfmjcaaFnExactRingStepS
import Derived.Test.YtpkdolmbhfmjcaaGwP
set_option linter.unusedVariables false
set_option linter.unusedSimpArgs false
set_option linter.unusedSectionVars false
namespace Go.Proofs.Ytpkdolmbhfmjcaa.FnExactRingStep
open Go.RowKit Go.Proofs.Gw
/-! ### Rows of numbers: measured, copied -/
theorem szIntS_ok {a : List Int} {b : Int} (hb : 0 ≤ b ∧ b ≤ 1048576) (ha : a.length ≤ maxLen) : laws_szIntS a b = some (if (a.length : Int) ≤ b then b - a.length else -1) := by
  have : (a.length : Int) ≤ 9223372036854775807 := by unfold maxLen at ha; omega
  unfold laws_szIntS
  rw [wr (by omega)]
  by_cases h : (a.length : Int) ≤ b
  · rw [if_pos h, decide_eq_false (by omega)]; rfl
  · rw [if_neg h, decide_eq_true (by omega)]; rfl
theorem toIntS_ok {F : Nat} (hF : 2097152 ≤ F) {a : List Int} (h : a.length ≤ 1500000) : laws_toIntS F a = some a := by
  unfold laws_toIntS
  rw [gd_pos (by omega), copy_all (f := laws_toIntS_l1 F a) (by omega)]
  · rfl
  · intro k s; simp [laws_toIntS_l1]
  · intro k s i h0 h1 h2
    simp only [laws_toIntS_l1, decide_eq_true h1, cond_true]
    simp (disch := omega) only [gd_pos, wr]
/-! ### Rows of numbers: compared, marked -/
theorem eqIntS_ok {F : Nat} (hF : 2097152 ≤ F) {a : List Int} (h : a.length ≤ 1500000) : laws_eqIntS F a a = some true := by
  unfold laws_eqIntS
  have := same_loop (n := a.length) (v := Fl.go ()) (f := laws_eqIntS_l1 F a a) (fun k => by simp [laws_eqIntS_l1]) (fun k i h0 h1 => by
    simp only [laws_eqIntS_l1, decide_eq_true h1, cond_true]
    simp (disch := omega) only [gd_pos, wr]
    simp) a.length 0 F (by omega) (by omega)
  simp at this
  simp [this, Fl.on]
def mInt : Int → Int → Int × Int := fun _ c => (c, c + 1)
theorem mInt_up : ∀ x c : Int, True → c ≤ (mInt x c).2 ∧ (mInt x c).2 ≤ c + (1 : Nat) := fun x c _ => by simp [mInt]; omega
theorem markIntS_ok {F : Nat} (hF : 2097152 ≤ F) {a : List Int} (h : a.length ≤ 1500000) {c : Int} (hc : 0 ≤ c ∧ c ≤ 1152921504606846976) : laws_markIntS F a c = some ((markL mInt a c).2, (markL mInt a c).1) := by
  have := mark_loop mInt_up (B := 2305843009213693952) (f := laws_markIntS_l1 F) (fun k s c => by simp [laws_markIntS_l1]) (fun k s c i h0 h1 h2 h3 h4 _ => by
    simp only [laws_markIntS_l1, decide_eq_true h1, cond_true, mInt]
    simp (disch := omega) only [gd_pos, wr]) a [] c F (fun _ _ => trivial) (by omega) (by simp; omega) (by omega) (by omega)
  simp at this
  simp [laws_markIntS, this]
theorem heldIntS_ok {F : Nat} (hF : 2097152 ≤ F) {a : List Int} (h : a.length ≤ 1500000) {c : Int} (hc : 0 ≤ c ∧ c ≤ 1152921504606846976) : laws_heldIntS F (markL mInt a c).1 c = some (markL mInt a c).2 := by
  have := held_loop mInt_up (B := 2305843009213693952) (a := (markL mInt a c).1) (f := laws_heldIntS_l1 F (markL mInt a c).1) (fun k c => by simp [laws_heldIntS_l1]) (fun k c x i h0 h1 h2 h3 h4 _ h5 => by
    simp only [laws_heldIntS_l1, decide_eq_true h1, cond_true, h5, mInt]
    simp (disch := omega) only [gd_pos, wr]
    simp) (by rw [markL_len]; omega) a [] c F rfl (fun _ _ => trivial) (by omega) (by omega) (by omega)
  simp at this
  simp [laws_heldIntS, this, Fl.on]
theorem mInt_le {a : List Int} (h : a.length ≤ 1500000) (c : Int) : c ≤ (markL mInt a c).2 ∧ (markL mInt a c).2 ≤ c + 1500000 := by
  have := markL_up mInt_up a c (fun _ _ => trivial)
  omega
theorem index_l1 {F : Nat} {l : List Int} {x : Int} (hl : l.length ≤ 1500000) : ∀ (r d : List Int) (k : Nat), l = d ++ r → r.length < k → T (slices_Index___int_int__l1 F l x k (d.length : Int)) fun q => if x ∈ r then ∃ i, q = .out i ∧ 0 ≤ i else q = .go ()
  | [], d, k, e, hk => by
    obtain ⟨k, rfl⟩ : ∃ m, k = m + 1 := ⟨k - 1, by omega⟩
    have : l.length = d.length := by rw [e]; simp
    simp only [slices_Index___int_int__l1]
    rw [decide_eq_false (by omega), cond_false]
    exact T_some (by simp)
  | y :: r, d, k, e, hk => by
    obtain ⟨k, rfl⟩ : ∃ m, k = m + 1 := ⟨k - 1, by omega⟩
    have ll : l.length = d.length + (r.length + 1) := by rw [e]; simp
    have e' : ix l (d.length : Int) = y := by rw [e]; exact ix_mid rfl
    simp only [List.length_cons] at hk
    simp only [slices_Index___int_int__l1, e']
    rw [decide_eq_true (by omega), cond_true, gd_pos (by omega), wr (by omega)]
    by_cases h : x = y
    · rw [decide_eq_true h, cond_true]
      exact T_some (by rw [if_pos (by simp [h])]; exact ⟨_, rfl, by omega⟩)
    · rw [decide_eq_false h, cond_false]
      have ih := index_l1 (F := F) (x := x) hl r (d ++ [y]) k (by rw [e]; simp) (by omega)
      simp only [List.length_append, List.length_cons, List.length_nil, Int.natCast_add] at ih
      refine T_mono ih fun q hq => ?_
      have : (x ∈ y :: r) ↔ x ∈ r := by simp [h]
      simpa [this] using hq
theorem contains_ok {F : Nat} (hF : 2097152 ≤ F) {l : List Int} (x : Int) (hl : l.length ≤ 1500000) : slices_Contains___int_int_ F l x = some (decide (x ∈ l)) := by
  unfold slices_Contains___int_int_ slices_Index___int_int_
  obtain ⟨q, e, hq⟩ := index_l1 (F := F) (x := x) hl l [] F rfl (by omega)
  simp only [List.length_nil, Int.natCast_zero] at e
  rw [e]
  by_cases h : x ∈ l
  · rw [if_pos h] at hq
    obtain ⟨i, rfl, hi⟩ := hq
    simp [Fl.on, hi, h]
  · rw [if_neg h] at hq
    subst hq
    simp [Fl.on, h]
theorem has_l1 {F : Nat} {l : List Int} {x : Int} (hl : l.length ≤ 1500000) : ∀ (r d : List Int) (k : Nat), l = d ++ r → r.length < k → spec_l13Has_l1 F l x k (d.length : Int) = some (if x ∈ r then .out true else .go ())
  | [], d, k, e, hk => by
    obtain ⟨k, rfl⟩ : ∃ m, k = m + 1 := ⟨k - 1, by omega⟩
    have : l.length = d.length := by rw [e]; simp
    simp only [spec_l13Has_l1]
    rw [decide_eq_false (by omega), cond_false]
    simp
  | y :: r, d, k, e, hk => by
    obtain ⟨k, rfl⟩ : ∃ m, k = m + 1 := ⟨k - 1, by omega⟩
    have ll : l.length = d.length + (r.length + 1) := by rw [e]; simp
    have e' : ix l (d.length : Int) = y := by rw [e]; exact ix_mid rfl
    simp only [List.length_cons] at hk
    simp only [spec_l13Has_l1, e']
    rw [decide_eq_true (by omega), cond_true, gd_pos (by omega), wr (by omega)]
    by_cases h : y = x
    · rw [decide_eq_true h, cond_true, if_pos (by simp [h])]
    · rw [decide_eq_false h, cond_false]
      have ih := has_l1 (F := F) (x := x) hl r (d ++ [y]) k (by rw [e]; simp) (by omega)
      simp only [List.length_append, List.length_cons, List.length_nil, Int.natCast_add] at ih
      have : (x ∈ y :: r) ↔ x ∈ r := by simp [Ne.symm h]
      simpa [this] using ih
theorem has_ok {F : Nat} (hF : 2097152 ≤ F) {l : List Int} (x : Int) (hl : l.length ≤ 1500000) : spec_l13Has F l x = some (decide (x ∈ l)) := by
  have := has_l1 (F := F) (x := x) hl l [] F rfl (by omega)
  simp only [List.length_nil, Int.natCast_zero] at this
  unfold spec_l13Has
  rw [this]
  by_cases h : x ∈ l <;> simp [h, Fl.on]
/-! ### One act upon a ring -/
/-- A ring that can be acted upon. -/
def InR (r : impl_Ring) : Prop := (1 ≤ r.Size ∧ r.Size ≤ 16) ∧ (1 ≤ r.Every ∧ r.Every ≤ 16) ∧ ((r.Posted.length + r.Done.length : Nat) : Int) ≤ r.Size ∧ (0 ≤ r.Lost ∧ r.Lost ≤ 1000000000) ∧ (0 ≤ r.Signals ∧ r.Signals ≤ 1000000000) ∧ 0 ≤ r.Pending ∧ r.Pending < r.Every
/-- Something arrives. -/
def arriveR (r : impl_Ring) (o : List Int) : impl_Ring × List Int :=
  match r.Posted with
  | [] => (⟨r.Size, r.Up, r.Posted, r.Done, iMin (r.Lost + 1) 1000000000, r.Pending, r.Every, r.Signals⟩, o)
  | x :: t => if r.Up then
      (if r.Pending + 1 = r.Every then (⟨r.Size, r.Up, t, r.Done ++ [x], r.Lost, 0, r.Every, iMin (r.Signals + 1) 1000000000⟩, o ++ [x])
       else (⟨r.Size, r.Up, t, r.Done ++ [x], r.Lost, r.Pending + 1, r.Every, r.Signals⟩, o ++ [x]))
    else (⟨r.Size, r.Up, r.Posted, r.Done, iMin (r.Lost + 1) 1000000000, r.Pending, r.Every, r.Signals⟩, o)
def arrivesR : Nat → impl_Ring → List Int → impl_Ring × List Int
  | 0, r, o => (r, o)
  | n + 1, r, o => arrivesR n (arriveR r o).1 (arriveR r o).2
theorem iMin_le (a b : Int) : iMin a b ≤ a ∧ iMin a b ≤ b ∧ (iMin a b = a ∨ iMin a b = b) := by
  unfold iMin; split <;> omega
theorem arriveR_in {r : impl_Ring} (h : InR r) (o : List Int) : InR (arriveR r o).1 ∧ (arriveR r o).1.Size = r.Size ∧ (arriveR r o).1.Up = r.Up ∧ (arriveR r o).1.Every = r.Every ∧ (arriveR r o).2.length ≤ o.length + 1 := by
  obtain ⟨h1, h2, h3, h4, h5, h6⟩ := h
  have i1 := iMin_le (r.Lost + 1) 1000000000
  have i2 := iMin_le (r.Signals + 1) 1000000000
  unfold arriveR
  cases hp : r.Posted with
  | nil =>
    rw [hp] at h3
    refine ⟨⟨h1, h2, ?_, ?_, h5, h6⟩, rfl, rfl, rfl, by simp⟩
    · simpa using h3
    · simp only; omega
  | cons x t =>
    rw [hp] at h3
    simp only [List.length_cons] at h3
    simp only
    split
    · split
      · refine ⟨⟨h1, h2, ?_, h4, ?_, ?_⟩, rfl, rfl, rfl, by simp⟩
        · simp only [List.length_append, List.length_cons, List.length_nil]; omega
        · simp only; omega
        · simp only; omega
      · refine ⟨⟨h1, h2, ?_, h4, h5, ?_⟩, rfl, rfl, rfl, by simp⟩
        · simp only [List.length_append, List.length_cons, List.length_nil]; omega
        · simp only; omega
    · refine ⟨⟨h1, h2, ?_, ?_, h5, h6⟩, rfl, rfl, rfl, by simp⟩
      · simp only [List.length_cons]; omega
      · simp only; omega
theorem arrivesR_in : ∀ (n : Nat) {r : impl_Ring} (h : InR r) (o : List Int), InR (arrivesR n r o).1 ∧ (arrivesR n r o).1.Size = r.Size ∧ (arrivesR n r o).1.Up = r.Up ∧ (arrivesR n r o).1.Every = r.Every ∧ (arrivesR n r o).2.length ≤ o.length + n
  | 0, r, h, o => ⟨h, rfl, rfl, rfl, by simp [arrivesR]⟩
  | n + 1, r, h, o => by
    have h1 := arriveR_in h o
    have h2 := arrivesR_in n h1.1 (arriveR r o).2
    exact ⟨h2.1, h2.2.1.trans h1.2.1, h2.2.2.1.trans h1.2.2.1, h2.2.2.2.1.trans h1.2.2.2.1, by have := h1.2.2.2.2; have := h2.2.2.2.2; simp only [arrivesR]; omega⟩
theorem arrive_ok {r : impl_Ring} (h : InR r) {o : List Int} (ho : o.length ≤ 1000) : impl_Ring_arrive r o = some ((arriveR r o).2, (arriveR r o).1) := by
  obtain ⟨h1, h2, h3, h4, h5, h6⟩ := h
  have w1 : IntKind.wrap .i64 (r.Lost + 1) = r.Lost + 1 := wr (by omega)
  have w2 : IntKind.wrap .i64 (r.Pending + 1) = r.Pending + 1 := wr (by omega)
  have w3 : IntKind.wrap .i64 (r.Signals + 1) = r.Signals + 1 := wr (by omega)
  unfold impl_Ring_arrive arriveR
  rw [w1, w2, w3]
  obtain ⟨sz, up, po, dn, lo, pe, ev, si⟩ := r
  dsimp only at *
  cases po with
  | nil => simp
  | cons x t =>
    simp only [List.length_cons] at h3
    cases up with
    | false => simp
    | true =>
      have e1 : decide (((x :: t).length : Int) = 0) = false := decide_eq_false (by simp only [List.length_cons]; omega)
      simp only [e1, Bool.not_true, Bool.or_false, cond_false]
      rw [gd_pos (by simp), gd_pos (by simp only [List.length_cons]; omega), gd_pos (by simp only [List.length_cons, List.length_nil]; omega)]
      by_cases hp : pe + 1 = ev
      · simp only [decide_eq_true hp, cond_true, Option.bind_some]
        rw [gd_pos (by simp; omega)]
        simp [hp, ix, slc, List.take_of_length_le]
      · simp only [decide_eq_false hp, cond_false, Option.bind_some]
        rw [gd_pos (by simp; omega)]
        simp [hp, ix, slc, List.take_of_length_le]
theorem actR_l1 {F : Nat} {a0 : impl_Ring} {a : impl_RingAct} (hN : a.N ≤ 100) : ∀ (n : Nat) (r : impl_Ring) (o : List Int) (i : Int) (k : Nat), InR r → r.Size = a0.Size → r.Up = a0.Up → r.Every = a0.Every → 0 ≤ i → i + n = a.N → o.length ≤ i → n < k →
    impl_Ring_act_l1 F a0 a k r.Posted r.Done r.Lost r.Pending r.Signals o i = some ((arrivesR n r o).1.Posted, (arrivesR n r o).1.Done, (arrivesR n r o).1.Lost, (arrivesR n r o).1.Pending, (arrivesR n r o).1.Signals, (arrivesR n r o).2)
  | 0, r, o, i, k, hr, q1, q2, q3, h0, hi, ho, hk => by
    obtain ⟨k, rfl⟩ : ∃ m, k = m + 1 := ⟨k - 1, by omega⟩
    simp only [impl_Ring_act_l1]
    rw [decide_eq_false (by omega), cond_false]; rfl
  | n + 1, r, o, i, k, hr, q1, q2, q3, h0, hi, ho, hk => by
    obtain ⟨k, rfl⟩ : ∃ m, k = m + 1 := ⟨k - 1, by omega⟩
    have e : (⟨a0.Size, a0.Up, r.Posted, r.Done, r.Lost, r.Pending, a0.Every, r.Signals⟩ : impl_Ring) = r := by rw [← q1, ← q2, ← q3]
    have hn := arriveR_in hr o
    simp only [impl_Ring_act_l1]
    rw [decide_eq_true (by omega), cond_true, e, arrive_ok hr (by omega), Option.bind_some, wr (by omega)]
    exact actR_l1 hN n (arriveR r o).1 (arriveR r o).2 (i + 1) k hn.1 (hn.2.1.trans q1) (hn.2.2.1.trans q2) (hn.2.2.2.1.trans q3) (by omega) (by omega) (by have := hn.2.2.2.2; omega) (by omega)
def stepR (r : impl_Ring) (a : impl_RingAct) : impl_Ring × impl_RingReply :=
  if a.Kind = 1 then
    (if ¬ (0 ≤ a.N ∧ a.N ≤ 999) then (r, ⟨4, []⟩) else if a.N ∈ r.Posted ∨ a.N ∈ r.Done then (r, ⟨9, []⟩) else if ((r.Posted.length + r.Done.length : Nat) : Int) = r.Size then (r, ⟨7, []⟩)
     else (⟨r.Size, r.Up, r.Posted ++ [a.N], r.Done, r.Lost, r.Pending, r.Every, r.Signals⟩, ⟨0, []⟩))
  else if a.Kind = 2 then (if ¬ (0 ≤ a.N ∧ a.N ≤ 100) then (r, ⟨4, []⟩) else ((arrivesR a.N.toNat r []).1, ⟨0, (arrivesR a.N.toNat r []).2⟩))
  else if a.Kind = 3 then (if a.N ≤ 0 then (r, ⟨4, []⟩) else
    (⟨r.Size, r.Up, r.Posted, r.Done.drop (iMin a.N r.Done.length).toNat, r.Lost, iMin r.Pending ((r.Done.drop (iMin a.N r.Done.length).toNat).length : Int), r.Every, r.Signals⟩, ⟨0, r.Done.take (iMin a.N r.Done.length).toNat⟩))
  else if a.Kind = 4 then (⟨r.Size, r.Up, [], [], r.Lost, 0, r.Every, r.Signals⟩, ⟨0, r.Done ++ r.Posted⟩)
  else if a.Kind = 5 then (⟨r.Size, decide (a.N = 1), r.Posted, r.Done, r.Lost, r.Pending, r.Every, r.Signals⟩, ⟨0, []⟩)
  else (r, ⟨3, []⟩)
theorem actR_ok {F : Nat} (hF : 2097152 ≤ F) {r : impl_Ring} (h : InR r) (a : impl_RingAct) : impl_Ring_act F r a = some ((stepR r a).2, (stepR r a).1) := by
  have hh := h
  obtain ⟨h1, h2, h3, h4, h5, h6⟩ := h
  unfold impl_Ring_act stepR
  by_cases k1 : a.Kind = 1
  · simp only [k1, decide_true, cond_true, if_true, impl_Ring_post, impl_inRange, Option.bind_some, contains_ok hF a.N (l := r.Posted) (by omega), contains_ok hF a.N (l := r.Done) (by omega)]
    have w1 : IntKind.wrap .i64 ((r.Posted.length : Int) + (r.Done.length : Int)) = ((r.Posted.length + r.Done.length : Nat) : Int) := by rw [wr (by omega)]; omega
    rw [w1]
    by_cases q1 : 0 ≤ a.N ∧ a.N ≤ 999
    · have hd : (decide (0 ≤ a.N) && decide (a.N ≤ 999)) = true := by simp [q1]
      simp only [hd, q1, not_true, if_false, Bool.not_true, cond_false]
      by_cases q2 : a.N ∈ r.Posted
      · simp [q2, Fl.on]
      · by_cases q3 : a.N ∈ r.Done
        · simp [q2, q3, Fl.on]
        · simp only [q2, q3, decide_false, Bool.not_false, cond_true, Option.bind_some, Bool.or_self, cond_false, or_self, if_false]
          by_cases q4 : ((r.Posted.length + r.Done.length : Nat) : Int) = r.Size
          · rw [decide_eq_true q4, if_pos q4]; rfl
          · rw [decide_eq_false q4, if_neg q4, cond_false, gd_pos (by simp; omega)]; rfl
    · have hd : (decide (0 ≤ a.N) && decide (a.N ≤ 999)) = false := by simp; omega
      simp [hd, q1, Fl.on]
  by_cases k2 : a.Kind = 2
  · simp only [k2, decide_true, cond_true, if_true, impl_inRange, Option.bind_some]
    by_cases q1 : 0 ≤ a.N ∧ a.N ≤ 100
    · have hd : (decide (0 ≤ a.N) && decide (a.N ≤ 100)) = true := by simp [q1]
      have := actR_l1 (F := F) (a0 := r) (a := a) q1.2 a.N.toNat r [] 0 F hh rfl rfl rfl (by omega) (by omega) (by simp) (by omega)
      have hn := arrivesR_in a.N.toNat hh []
      simp only [hd, Bool.not_true, cond_false, this, Option.bind_some]
      rw [show decide ((2 : Int) = 1) = false from rfl, if_neg (by decide), if_neg (by simp [q1])]
      simp only [cond_false, Option.bind_some, Fl.on]
      rw [← hn.2.1, ← hn.2.2.1, ← hn.2.2.2.1]
    · have hd : (decide (0 ≤ a.N) && decide (a.N ≤ 100)) = false := by simp; omega
      simp [hd, q1, Fl.on]
  by_cases k3 : a.Kind = 3
  · simp only [k3]
    by_cases q1 : a.N ≤ 0
    · simp [q1, Fl.on]
    · have i1 := iMin_le a.N (r.Done.length : Int)
      simp only [if_true, decide_true, cond_true, decide_eq_false q1, cond_false, if_neg q1, show decide ((3 : Int) = 1) = false from rfl, show decide ((3 : Int) = 2) = false from rfl]
      rw [gd_pos (by omega), gd_pos (by simp [slc]; omega), gd_pos (by omega)]
      simp [slc, Fl.on, List.take_of_length_le]
  by_cases k4 : a.Kind = 4
  · simp only [k4]
    simp only [if_true, decide_true, cond_true, cond_false, show decide ((4 : Int) = 1) = false from rfl, show decide ((4 : Int) = 2) = false from rfl, show decide ((4 : Int) = 3) = false from rfl]
    rw [gd_pos (by simp; omega), gd_pos (by simp; omega)]
    simp [Fl.on]
  by_cases k5 : a.Kind = 5
  · simp [k5, Fl.on]
  · simp [k1, k2, k3, k4, k5, Fl.on]
theorem ownR_ok {r : impl_Ring} (h1 : r.Posted.length ≤ 1500000) (h2 : r.Done.length ≤ 1500000) : spec_l13Own r = some r := by
  unfold spec_l13Own
  rw [gd_pos (by simp; omega), gd_pos (by simp; omega)]
  simp
theorem stepR_l1 {F : Nat} {a0 : impl_Ring} {a : impl_RingAct} (hN : a.N ≤ 100) : ∀ (n : Nat) (r : impl_Ring) (o : List Int) (i : Int) (k : Nat), InR r → r.Size = a0.Size → r.Up = a0.Up → r.Every = a0.Every → 0 ≤ i → i + n = a.N → o.length ≤ i → n < k →
    spec_l13Step_l1 F a a0 k r.Posted r.Done r.Lost r.Pending r.Signals o i = some (a0.Up, (arrivesR n r o).1.Posted, (arrivesR n r o).1.Done, (arrivesR n r o).1.Lost, (arrivesR n r o).1.Pending, (arrivesR n r o).1.Signals, 0, (arrivesR n r o).2)
  | 0, r, o, i, k, hr, q1, q2, q3, h0, hi, ho, hk => by
    obtain ⟨k, rfl⟩ : ∃ m, k = m + 1 := ⟨k - 1, by omega⟩
    simp only [spec_l13Step_l1]
    rw [decide_eq_false (by omega), cond_false]; rfl
  | n + 1, r, o, i, k, hr, q1, q2, q3, h0, hi, ho, hk => by
    obtain ⟨k, rfl⟩ : ∃ m, k = m + 1 := ⟨k - 1, by omega⟩
    have hn := arriveR_in hr o
    have ih := stepR_l1 (F := F) hN n (arriveR r o).1 (arriveR r o).2 (i + 1) k hn.1 (hn.2.1.trans q1) (hn.2.2.1.trans q2) (hn.2.2.2.1.trans q3) (by omega) (by omega) (by have := hn.2.2.2.2; omega) (by omega)
    obtain ⟨h1, h2, h3, h4, h5, h6⟩ := hr
    have w0 : IntKind.wrap .i64 (i + 1) = i + 1 := wr (by omega)
    have w1 : IntKind.wrap .i64 (r.Lost + 1) = r.Lost + 1 := wr (by omega)
    have w2 : IntKind.wrap .i64 (r.Pending + 1) = r.Pending + 1 := wr (by omega)
    have w3 : IntKind.wrap .i64 (r.Signals + 1) = r.Signals + 1 := wr (by omega)
    simp only [spec_l13Step_l1]
    rw [decide_eq_true (by omega), cond_true, w0, w1, w2, w3, ← q2, ← q3]
    rw [← q2] at ih
    simp only [arrivesR]
    rw [← ih]
    clear ih hn w0 w1 w2 w3
    unfold arriveR
    obtain ⟨sz, up, po, dn, lo, pe, ev, si⟩ := r
    dsimp only at *
    cases po with
    | nil => simp
    | cons x t =>
      simp only [List.length_cons] at h3
      cases up with
      | false => simp
      | true =>
        have e1 : decide (((x :: t).length : Int) = 0) = false := decide_eq_false (by simp only [List.length_cons]; omega)
        simp only [e1, Bool.not_true, Bool.or_false, cond_false]
        rw [gd_pos (by simp), gd_pos (by simp only [List.length_cons, List.length_nil]; omega), gd_pos (by simp), gd_pos (by simp only [List.length_cons, List.length_nil]; omega), gd_pos (by simp only [List.length_cons]; omega), gd_pos (by simp [slc]; omega)]
        by_cases hp : pe + 1 = ev
        · simp [hp, ix, slc, List.take_of_length_le]
        · simp [hp, ix, slc, List.take_of_length_le]
theorem stepR_ok {F : Nat} (hF : 2097152 ≤ F) {r : impl_Ring} (h : InR r) (a : impl_RingAct) : spec_l13Step F r a = some (stepR r a) := by
  have hh := h
  obtain ⟨h1, h2, h3, h4, h5, h6⟩ := h
  unfold spec_l13Step stepR
  rw [ownR_ok (by omega) (by omega), Option.bind_some]
  by_cases k1 : a.Kind = 1
  · simp only [k1, decide_true, cond_true, if_true, spec_l01In, Option.bind_some, has_ok hF a.N (l := r.Posted) (by omega), has_ok hF a.N (l := r.Done) (by omega)]
    have w1 : IntKind.wrap .i64 ((r.Posted.length : Int) + (r.Done.length : Int)) = ((r.Posted.length + r.Done.length : Nat) : Int) := by rw [wr (by omega)]; omega
    rw [w1]
    by_cases q1 : 0 ≤ a.N ∧ a.N ≤ 999
    · have hd : (decide (0 ≤ a.N) && decide (a.N ≤ 999)) = true := by simp [q1]
      simp only [hd, q1, not_true, if_false, Bool.not_true, cond_false]
      by_cases q2 : a.N ∈ r.Posted
      · simp [q2]
      · by_cases q3 : a.N ∈ r.Done
        · simp [q2, q3]
        · simp only [q2, q3, decide_false, Bool.not_false, cond_true, Option.bind_some, Bool.or_self, cond_false, or_self, if_false]
          by_cases q4 : ((r.Posted.length + r.Done.length : Nat) : Int) = r.Size
          · rw [decide_eq_true q4, if_pos q4]; rfl
          · rw [decide_eq_false q4, if_neg q4, cond_false, gd_pos (by simp; omega)]; rfl
    · have hd : (decide (0 ≤ a.N) && decide (a.N ≤ 999)) = false := by simp; omega
      simp [hd, q1]
  by_cases k2 : a.Kind = 2
  · simp only [k2, decide_true, cond_true, if_true, spec_l01In, Option.bind_some]
    by_cases q1 : 0 ≤ a.N ∧ a.N ≤ 100
    · have hd : (decide (0 ≤ a.N) && decide (a.N ≤ 100)) = true := by simp [q1]
      have := stepR_l1 (F := F) (a0 := r) (a := a) q1.2 a.N.toNat r [] 0 F hh rfl rfl rfl (by omega) (by omega) (by simp) (by omega)
      have hn := arrivesR_in a.N.toNat hh []
      simp only [hd, Bool.not_true, cond_false, this, Option.bind_some]
      rw [show decide ((2 : Int) = 1) = false from rfl, if_neg (by decide), if_neg (by simp [q1])]
      simp only [cond_false, Option.bind_some]
      rw [← hn.2.1, ← hn.2.2.1, ← hn.2.2.2.1]
    · have hd : (decide (0 ≤ a.N) && decide (a.N ≤ 100)) = false := by simp; omega
      simp [hd, q1]
  by_cases k3 : a.Kind = 3
  · simp only [k3]
    by_cases q1 : a.N ≤ 0
    · simp [q1, show a.N < 1 by omega]
    · have i1 := iMin_le a.N (r.Done.length : Int)
      simp only [if_true, decide_true, cond_true, decide_eq_false (show ¬ a.N < 1 by omega), cond_false, if_neg q1, show decide ((3 : Int) = 1) = false from rfl, show decide ((3 : Int) = 2) = false from rfl]
      rw [gd_pos (by omega), gd_pos (by simp [slc]; omega), gd_pos (by omega), gd_pos (by simp [slc]; omega)]
      simp [slc, List.take_of_length_le]
  by_cases k4 : a.Kind = 4
  · simp only [k4]
    simp only [if_true, decide_true, cond_true, cond_false, show decide ((4 : Int) = 1) = false from rfl, show decide ((4 : Int) = 2) = false from rfl, show decide ((4 : Int) = 3) = false from rfl]
    rw [gd_pos (by simp; omega), gd_pos (by simp; omega)]
    simp
  by_cases k5 : a.Kind = 5
  · simp [k5]
  · simp [k1, k2, k3, k4, k5]
theorem stepR_in {r : impl_Ring} (h : InR r) (a : impl_RingAct) : InR (stepR r a).1 ∧ (stepR r a).2.List.length ≤ 1000 := by
  have hh := h
  obtain ⟨h1, h2, h3, h4, h5, h6⟩ := h
  have ha := arrivesR_in a.N.toNat hh []
  have i1 := iMin_le a.N (r.Done.length : Int)
  have i2 := iMin_le r.Pending ((r.Done.drop (iMin a.N r.Done.length).toNat).length : Int)
  unfold stepR
  repeat' split
  all_goals try exact ⟨hh, by simp⟩
  · exact ⟨⟨h1, h2, by simp only [List.length_append, List.length_cons, List.length_nil]; omega, h4, h5, h6⟩, by simp⟩
  · exact ⟨ha.1, by have := ha.2.2.2.2; simp only [List.length_nil] at this; simp only; omega⟩
  · exact ⟨⟨h1, h2, by simp only [List.length_drop]; omega, h4, h5, by simp only; omega⟩, by simp only [List.length_take]; omega⟩
  · exact ⟨⟨h1, h2, by simp; omega, h4, h5, by simp only; omega⟩, by simp only [List.length_append]; omega⟩
/-! ### A ring looked over -/
def OkR (r : impl_Ring) : Prop := InR r ∧ r.Pending ≤ (r.Done.length : Int) ∧ (∀ x ∈ r.Done ++ r.Posted, 0 ≤ x ∧ x ≤ 999) ∧ (r.Done ++ r.Posted).Nodup
theorem okI_l1 {F : Nat} (hF : 2097152 ≤ F) {a0 : impl_Ring} (hl : (a0.Done ++ a0.Posted).length ≤ 1000) : ∀ (r d : List Int) (k : Nat), a0.Done ++ a0.Posted = d ++ r → r.length < k → d.Nodup → T (impl_RingOK_l1 F a0 k (d.length : Int)) fun q => (q = .out false ∧ ¬ ((∀ x ∈ r, 0 ≤ x ∧ x ≤ 999) ∧ (d ++ r).Nodup)) ∨ (q = .go () ∧ (∀ x ∈ r, 0 ≤ x ∧ x ≤ 999) ∧ (d ++ r).Nodup)
  | [], d, k, e, hk, hd => by
    obtain ⟨k, rfl⟩ : ∃ m, k = m + 1 := ⟨k - 1, by omega⟩
    have : (a0.Done ++ a0.Posted).length = d.length := by rw [e]; simp
    simp only [impl_RingOK_l1, List.nil_append]
    rw [decide_eq_false (by omega), cond_false]
    exact T_some (.inr ⟨rfl, by simp, by simpa using hd⟩)
  | y :: r, d, k, e, hk, hd => by
    obtain ⟨k, rfl⟩ : ∃ m, k = m + 1 := ⟨k - 1, by omega⟩
    have ll : (a0.Done ++ a0.Posted).length = d.length + (r.length + 1) := by rw [e]; simp
    have e' : ix (a0.Done ++ a0.Posted) (d.length : Int) = y := by rw [e]; exact ix_mid rfl
    have es : slc (a0.Done ++ a0.Posted) 0 (Int.toNat (d.length : Int)) = d := by rw [e]; simp [slc]
    simp only [List.length_cons] at hk
    simp only [impl_RingOK_l1, List.nil_append, e', es, impl_inRange, Option.bind_some]
    rw [decide_eq_true (by omega), cond_true, gd_pos (by omega), gd_pos (by intro; omega), wr (by omega)]
    by_cases q : 0 ≤ y ∧ y ≤ 999
    · have hd1 : (decide (0 ≤ y) && decide (y ≤ 999)) = true := by simp [q]
      simp only [hd1, Bool.not_true, Bool.not_false, cond_true, contains_ok hF y (l := d) (by omega), Option.bind_some, Bool.false_or]
      by_cases hm : y ∈ d
      · rw [decide_eq_true hm, cond_true]
        refine T_some (.inl ⟨rfl, fun h => ?_⟩)
        exact (List.nodup_append.1 h.2).2.2 y hm y (by simp) rfl
      · rw [decide_eq_false hm, cond_false]
        have ih := okI_l1 hF hl r (d ++ [y]) k (by rw [e]; simp) (by omega) (List.nodup_append.2 ⟨hd, by simp, fun x hx z hz ee => hm (by rw [List.mem_singleton.1 hz] at ee; rw [← ee]; exact hx)⟩)
        simp only [List.length_append, List.length_cons, List.length_nil, Int.natCast_add] at ih
        refine T_mono ih fun w hw => ?_
        rw [List.append_assoc, List.singleton_append] at hw
        rcases hw with ⟨h1, h2⟩ | ⟨h1, h2, h3⟩
        · exact .inl ⟨h1, fun h => h2 ⟨fun x hx => h.1 x (List.mem_cons_of_mem _ hx), h.2⟩⟩
        · exact .inr ⟨h1, fun x hx => (List.mem_cons.1 hx).elim (fun e => e ▸ q) (h2 x), h3⟩
    · have hd1 : (decide (0 ≤ y) && decide (y ≤ 999)) = false := by simp; omega
      simp only [hd1, Bool.not_true, Bool.not_false, cond_false, Option.bind_some, Bool.true_or, cond_true]
      exact T_some (.inl ⟨rfl, fun h => q (h.1 y (by simp))⟩)
theorem okS_l2 {F : Nat} {a0 : impl_Ring} {n : Int} {y : Int} (hl : (a0.Posted ++ a0.Done).length ≤ 1000) (hn : 0 ≤ n ∧ n < ((a0.Posted ++ a0.Done).length : Int)) (hy : ix (a0.Posted ++ a0.Done) n = y) : ∀ (r d : List Int) (k : Nat) (t : List Int), a0.Posted ++ a0.Done = d ++ (r ++ t) → ((d.length + r.length : Nat) : Int) = n → r.length < k → spec_RingOK_l2 F a0 n k (d.length : Int) = some (if y ∈ r then .out (.out false) else .go ())
  | [], d, k, t, e, hr, hk => by
    obtain ⟨k, rfl⟩ : ∃ m, k = m + 1 := ⟨k - 1, by omega⟩
    simp only [List.length_nil] at hr
    simp only [spec_RingOK_l2]
    rw [decide_eq_false (by omega), cond_false]
    simp
  | z :: r, d, k, t, e, hr, hk => by
    obtain ⟨k, rfl⟩ : ∃ m, k = m + 1 := ⟨k - 1, by omega⟩
    have e' : ix (a0.Posted ++ a0.Done) (d.length : Int) = z := by rw [e]; exact ix_mid rfl
    simp only [List.length_cons] at hk hr
    simp only [spec_RingOK_l2, List.nil_append, e', hy]
    rw [decide_eq_true (by omega), cond_true, gd_pos (by omega), gd_pos (by omega), wr (by omega)]
    by_cases q : z = y
    · rw [decide_eq_true q, cond_true, if_pos (by simp [q])]
    · rw [decide_eq_false q, cond_false]
      have ih := okS_l2 (F := F) hl hn hy r (d ++ [z]) k t (by rw [e]; simp) (by simp; omega) (by omega)
      simp only [List.length_append, List.length_cons, List.length_nil, Int.natCast_add] at ih
      have : (y ∈ z :: r) ↔ y ∈ r := by simp [Ne.symm q]
      simpa [this] using ih
theorem okS_l1 {F : Nat} (hF : 2097152 ≤ F) {a0 : impl_Ring} (hl : (a0.Posted ++ a0.Done).length ≤ 1000) : ∀ (r d : List Int) (k : Nat), a0.Posted ++ a0.Done = d ++ r → r.length < k → d.Nodup → T (spec_RingOK_l1 F a0 k (d.length : Int)) fun q => (q = .out false ∧ ¬ ((∀ x ∈ r, 0 ≤ x ∧ x ≤ 999) ∧ (d ++ r).Nodup)) ∨ (q = .go () ∧ (∀ x ∈ r, 0 ≤ x ∧ x ≤ 999) ∧ (d ++ r).Nodup)
  | [], d, k, e, hk, hd => by
    obtain ⟨k, rfl⟩ : ∃ m, k = m + 1 := ⟨k - 1, by omega⟩
    have : (a0.Posted ++ a0.Done).length = d.length := by rw [e]; simp
    simp only [spec_RingOK_l1, List.nil_append]
    rw [decide_eq_false (by omega), cond_false]
    exact T_some (.inr ⟨rfl, by simp, by simpa using hd⟩)
  | y :: r, d, k, e, hk, hd => by
    obtain ⟨k, rfl⟩ : ∃ m, k = m + 1 := ⟨k - 1, by omega⟩
    have ll : (a0.Posted ++ a0.Done).length = d.length + (r.length + 1) := by rw [e]; simp
    have e' : ix (a0.Posted ++ a0.Done) (d.length : Int) = y := by rw [e]; exact ix_mid rfl
    have e2 := okS_l2 (F := F) hl (n := (d.length : Int)) (by omega) e' d [] F (y :: r) (by rw [e]; simp) (by simp) (by omega)
    simp only [List.length_nil, Int.natCast_zero] at e2
    simp only [List.length_cons] at hk
    simp only [spec_RingOK_l1, List.nil_append, e', spec_l01In, Option.bind_some]
    rw [decide_eq_true (by omega), cond_true, gd_pos (by omega), wr (by omega), e2]
    by_cases q : 0 ≤ y ∧ y ≤ 999
    · have hd1 : (decide (0 ≤ y) && decide (y ≤ 999)) = true := by simp [q]
      simp only [hd1, Bool.not_true, cond_false, Option.bind_some]
      by_cases hm : y ∈ d
      · rw [if_pos hm]
        refine T_some (.inl ⟨rfl, fun h => ?_⟩)
        exact (List.nodup_append.1 h.2).2.2 y hm y (by simp) rfl
      · rw [if_neg hm]
        have ih := okS_l1 hF hl r (d ++ [y]) k (by rw [e]; simp) (by omega) (List.nodup_append.2 ⟨hd, by simp, fun x hx z hz ee => hm (by rw [List.mem_singleton.1 hz] at ee; rw [← ee]; exact hx)⟩)
        simp only [List.length_append, List.length_cons, List.length_nil, Int.natCast_add] at ih
        refine T_mono ih fun w hw => ?_
        rw [List.append_assoc, List.singleton_append] at hw
        rcases hw with ⟨h1, h2⟩ | ⟨h1, h2, h3⟩
        · exact .inl ⟨h1, fun h => h2 ⟨fun x hx => h.1 x (List.mem_cons_of_mem _ hx), h.2⟩⟩
        · exact .inr ⟨h1, fun x hx => (List.mem_cons.1 hx).elim (fun e => e ▸ q) (h2 x), h3⟩
    · have hd1 : (decide (0 ≤ y) && decide (y ≤ 999)) = false := by simp; omega
      simp only [hd1, Bool.not_false, cond_true, Option.bind_some]
      exact T_some (.inl ⟨rfl, fun h => q (h.1 y (by simp))⟩)
theorem nodup_swap {a b : List Int} : (a ++ b).Nodup ↔ (b ++ a).Nodup := by
  rw [List.nodup_append, List.nodup_append]
  exact ⟨fun ⟨h1, h2, h3⟩ => ⟨h2, h1, fun x hx y hy e => h3 y hy x hx e.symm⟩, fun ⟨h1, h2, h3⟩ => ⟨h2, h1, fun x hx y hy e => h3 y hy x hx e.symm⟩⟩
theorem andB {a b x : Int} : (decide (a ≤ x) && decide (x ≤ b)) = decide (a ≤ x ∧ x ≤ b) := by simp
theorem ringOK_I {F : Nat} (hF : 2097152 ≤ F) {r : impl_Ring} (h1 : r.Posted.length ≤ 1500000) (h2 : r.Done.length ≤ 1500000) : T (impl_RingOK F r) fun q => q = true ↔ OkR r := by
  unfold impl_RingOK
  simp only [impl_inRange, Option.bind_some, andB]
  have w1 : IntKind.wrap .i64 ((r.Posted.length : Int) + (r.Done.length : Int)) = ((r.Posted.length + r.Done.length : Nat) : Int) := by rw [wr (by omega)]; omega
  rw [w1]
  by_cases q : (1 ≤ r.Size ∧ r.Size ≤ 16) ∧ (1 ≤ r.Every ∧ r.Every ≤ 16) ∧ ((r.Posted.length + r.Done.length : Nat) : Int) ≤ r.Size
  · have w2 : IntKind.wrap .i64 (r.Every - 1) = r.Every - 1 := wr (by omega)
    rw [w2, decide_eq_true q.1, decide_eq_true q.2.1, decide_eq_false (show ¬ r.Size < ((r.Posted.length + r.Done.length : Nat) : Int) by omega)]
    simp only [Bool.not_true, Bool.not_false, cond_true, cond_false, Option.bind_some, Bool.or_self]
    rw [gd_pos (by simp; omega), gd_pos (by simp; omega)]
    have hloop := okI_l1 (F := F) hF (a0 := r) (by simp; omega) (r.Done ++ r.Posted) [] F rfl (by simp; omega) (by simp)
    simp only [List.length_nil, Int.natCast_zero, List.nil_append] at hloop
    refine T_use hloop fun l hl => ?_
    rcases hl with ⟨rfl, hn⟩ | ⟨rfl, hy1, hy2⟩
    · exact T_out ⟨fun h => (by cases h), fun h => absurd ⟨h.2.2.1, h.2.2.2⟩ hn⟩
    · refine T_go ?_
      have i1 := iMin_le (r.Done.length : Int) (r.Every - 1)
      by_cases q4 : (0 ≤ r.Lost ∧ r.Lost ≤ 1000000000)
      · rw [decide_eq_true q4]
        simp only [Bool.not_true, Bool.not_false, cond_true, Option.bind_some, Bool.false_or]
        by_cases q5 : (0 ≤ r.Signals ∧ r.Signals ≤ 1000000000)
        · rw [decide_eq_true q5]
          simp only [Bool.not_true, cond_false]
          refine T_some ⟨fun h => ?_, fun h => ?_⟩
          · have h := of_decide_eq_true h
            exact ⟨⟨q.1, q.2.1, q.2.2, q4, q5, by omega⟩, by omega, hy1, hy2⟩
          · obtain ⟨⟨g1, g2, g3, g4, g5, g6⟩, g7, g8⟩ := h
            refine decide_eq_true ⟨g6.1, ?_⟩
            omega
        · rw [decide_eq_false q5]
          exact T_some ⟨fun h => (by cases h), fun h => absurd h.1.2.2.2.2.1 q5⟩
      · rw [decide_eq_false q4]
        exact T_some ⟨fun h => (by cases h), fun h => absurd h.1.2.2.2.1 q4⟩
  · have hno : ¬ OkR r := fun h => q ⟨h.1.1, h.1.2.1, h.1.2.2.1⟩
    by_cases q1 : 1 ≤ r.Size ∧ r.Size ≤ 16
    · by_cases q2 : 1 ≤ r.Every ∧ r.Every ≤ 16
      · rw [decide_eq_true q1, decide_eq_true q2, decide_eq_true (show r.Size < ((r.Posted.length + r.Done.length : Nat) : Int) by omega)]
        exact T_some ⟨fun h => (by cases h), fun h => absurd h hno⟩
      · rw [decide_eq_true q1, decide_eq_false q2]
        exact T_some ⟨fun h => (by cases h), fun h => absurd h hno⟩
    · rw [decide_eq_false q1]
      exact T_some ⟨fun h => (by cases h), fun h => absurd h hno⟩
theorem ringOK_S {F : Nat} (hF : 2097152 ≤ F) {r : impl_Ring} (h1 : r.Posted.length ≤ 1500000) (h2 : r.Done.length ≤ 1500000) : T (spec_RingOK F r) fun q => q = true ↔ OkR r := by
  unfold spec_RingOK
  simp only [spec_l01In, Option.bind_some, andB]
  have w1 : IntKind.wrap .i64 ((r.Posted.length : Int) + (r.Done.length : Int)) = ((r.Posted.length + r.Done.length : Nat) : Int) := by rw [wr (by omega)]; omega
  rw [w1]
  by_cases q1 : 1 ≤ r.Size ∧ r.Size ≤ 16
  · by_cases q2 : 1 ≤ r.Every ∧ r.Every ≤ 16
    · have w2 : IntKind.wrap .i64 (r.Every - 1) = r.Every - 1 := wr (by omega)
      by_cases q3 : r.Size < ((r.Posted.length + r.Done.length : Nat) : Int)
      · rw [w2, decide_eq_true q1, decide_eq_true q2, decide_eq_true q3]
        exact T_some ⟨fun h => (by cases h), fun h => by have := h.1.2.2.1; omega⟩
      · by_cases q4 : (0 ≤ r.Lost ∧ r.Lost ≤ 1000000000)
        · by_cases q5 : (0 ≤ r.Signals ∧ r.Signals ≤ 1000000000)
          · by_cases q6 : 0 ≤ r.Pending ∧ r.Pending ≤ r.Every - 1
            · by_cases q7 : (r.Done.length : Int) < r.Pending
              · rw [w2, decide_eq_true q1, decide_eq_true q2, decide_eq_false q3, decide_eq_true q4, decide_eq_true q5, decide_eq_true q6, decide_eq_true q7]
                exact T_some ⟨fun h => (by cases h), fun h => by have := h.2.1; omega⟩
              · rw [w2, decide_eq_true q1, decide_eq_true q2, decide_eq_false q3, decide_eq_true q4, decide_eq_true q5, decide_eq_true q6, decide_eq_false q7]
                simp only [Bool.not_true, Bool.not_false, cond_true, cond_false, Option.bind_some, Bool.or_self]
                rw [gd_pos (by simp; omega), gd_pos (by simp; omega)]
                have hloop := okS_l1 (F := F) hF (a0 := r) (by simp; omega) (r.Posted ++ r.Done) [] F rfl (by simp; omega) (by simp)
                simp only [List.length_nil, Int.natCast_zero, List.nil_append] at hloop
                refine T_use hloop fun l hl => ?_
                rcases hl with ⟨rfl, hn⟩ | ⟨rfl, hy1, hy2⟩
                · refine T_out ⟨fun h => (by cases h), fun h => absurd ⟨fun x hx => h.2.2.1 x ?_, nodup_swap.1 h.2.2.2⟩ hn⟩
                  exact (List.mem_append.1 hx).elim (fun h => List.mem_append.2 (.inr h)) (fun h => List.mem_append.2 (.inl h))
                · refine T_go (T_some ⟨fun _ => ⟨⟨q1, q2, by omega, q4, q5, by omega⟩, by omega, fun x hx => hy1 x ?_, nodup_swap.1 hy2⟩, fun _ => rfl⟩)
                  exact (List.mem_append.1 hx).elim (fun h => List.mem_append.2 (.inr h)) (fun h => List.mem_append.2 (.inl h))
            · rw [w2, decide_eq_true q1, decide_eq_true q2, decide_eq_false q3, decide_eq_true q4, decide_eq_true q5, decide_eq_false q6]
              exact T_some ⟨fun h => (by cases h), fun h => by have := h.1.2.2.2.2.2; omega⟩
          · rw [w2, decide_eq_true q1, decide_eq_true q2, decide_eq_false q3, decide_eq_true q4, decide_eq_false q5]
            exact T_some ⟨fun h => (by cases h), fun h => absurd h.1.2.2.2.2.1 q5⟩
        · rw [w2, decide_eq_true q1, decide_eq_true q2, decide_eq_false q3, decide_eq_false q4]
          exact T_some ⟨fun h => (by cases h), fun h => absurd h.1.2.2.2.1 q4⟩
    · rw [decide_eq_true q1, decide_eq_false q2]
      exact T_some ⟨fun h => (by cases h), fun h => absurd h.1.2.1 q2⟩
  · rw [decide_eq_false q1]
    exact T_some ⟨fun h => (by cases h), fun h => absurd h.1.1 q1⟩
/-! ### Rings and replies: compared, marked -/
def RingSz (r : impl_Ring) : Prop := r.Posted.length ≤ 1500000 ∧ r.Done.length ≤ 1500000
theorem eqRing_ok {F : Nat} (hF : 2097152 ≤ F) {r : impl_Ring} (h : RingSz r) : laws_eqRing F r r = some true := by
  unfold laws_eqRing
  simp [eqIntS_ok hF h.1, eqIntS_ok hF h.2]
def ringM (p : impl_Ring) (c : Int) : Int × List Int × List Int := ((markL mInt p.Done (markL mInt p.Posted c).2).2, (markL mInt p.Posted c).1, (markL mInt p.Done (markL mInt p.Posted c).2).1)
theorem ringM_le {p : impl_Ring} (h : RingSz p) (c : Int) : c ≤ (ringM p c).1 ∧ (ringM p c).1 ≤ c + 3000000 := by
  have h1 := mInt_le h.1 c
  have h2 := mInt_le h.2 (markL mInt p.Posted c).2
  simp only [ringM]; omega
theorem markRing_ok {F : Nat} (hF : 2097152 ≤ F) {p : impl_Ring} (h : RingSz p) {c : Int} (hc : 0 ≤ c ∧ c ≤ 576460752303423488) : laws_markRing F p c = some (ringM p c) := by
  have h1 := mInt_le h.1 c
  unfold laws_markRing
  rw [markIntS_ok hF h.1 (by omega), Option.bind_some, markIntS_ok hF h.2 (by simp only; omega)]; rfl
theorem heldRing_ok {F : Nat} (hF : 2097152 ≤ F) {p : impl_Ring} (h : RingSz p) {c : Int} (hc : 0 ≤ c ∧ c ≤ 576460752303423488) (a : Int) (b : Bool) (l q e s : Int) : laws_heldRing F (impl_Ring.mk a b (ringM p c).2.1 (ringM p c).2.2 l q e s) c = some (ringM p c).1 := by
  have h1 := mInt_le h.1 c
  have h2 := mInt_le h.2 (markL mInt p.Posted c).2
  unfold laws_heldRing
  simp only [ringM]
  rw [heldIntS_ok hF h.1 (by omega), Option.bind_some, decide_eq_false (by omega), cond_false, heldIntS_ok hF h.2 (by omega), Option.bind_some, decide_eq_false (by omega)]; rfl
theorem eqRingReply_ok {F : Nat} (hF : 2097152 ≤ F) {r : impl_RingReply} (h : r.List.length ≤ 1500000) : laws_eqRingReply F r r = some true := by
  unfold laws_eqRingReply
  simp [eqIntS_ok hF h]
theorem szRing_ok {p : impl_Ring} (h1 : p.Posted.length ≤ maxLen) (h2 : p.Done.length ≤ maxLen) : T (laws_szRing p 1048576) fun r => 0 ≤ r → p.Posted.length ≤ 1048576 ∧ p.Done.length ≤ 1048576 := by
  unfold laws_szRing
  rw [szIntS_ok (by omega) h1]
  simp only [Option.bind_some]
  by_cases h : (p.Posted.length : Int) ≤ 1048576
  · rw [if_pos h, decide_eq_false (by omega), cond_false, szIntS_ok (by omega) h2]
    simp only [Option.bind_some]
    by_cases h' : (p.Done.length : Int) ≤ 1048576 - p.Posted.length
    · rw [if_pos h', decide_eq_false (by omega), cond_false]
      exact T_some (by omega)
    · rw [if_neg h', decide_eq_true (by omega), cond_true]
      exact T_some (by omega)
  · rw [if_neg h, decide_eq_true (by omega), cond_true]
    exact T_some (by omega)
theorem toRing_ok {F : Nat} (hF : 2097152 ≤ F) {p : impl_Ring} (h : RingSz p) : laws_toRing F p = some p := by
  unfold laws_toRing
  rw [toIntS_ok hF h.1, Option.bind_some, toIntS_ok hF h.2]; rfl
theorem cloneRing_ok {p : impl_Ring} (h : RingSz p) : impl_cloneRing p = some p := by
  have := h.1; have := h.2
  unfold impl_cloneRing
  rw [gd_pos (by simp; omega), gd_pos (by simp; omega)]
  simp
theorem markRingReply_ok {F : Nat} (hF : 2097152 ≤ F) {r : impl_RingReply} (h : r.List.length ≤ 1500000) {c : Int} (hc : 0 ≤ c ∧ c ≤ 576460752303423488) : laws_markRingReply F r c = some ((markL mInt r.List c).2, (markL mInt r.List c).1) := by
  unfold laws_markRingReply
  rw [markIntS_ok hF h (by omega)]; rfl
theorem heldRingReply_ok {F : Nat} (hF : 2097152 ≤ F) {r : impl_RingReply} (h : r.List.length ≤ 1500000) {c : Int} (hc : 0 ≤ c ∧ c ≤ 576460752303423488) (k : Int) : laws_heldRingReply F (impl_RingReply.mk k (markL mInt r.List c).1) c = some (markL mInt r.List c).2 := by
  have h1 := mInt_le h c
  unfold laws_heldRingReply
  rw [heldIntS_ok hF h (by omega), Option.bind_some, decide_eq_false (by omega)]; rfl
theorem stepR_up {r : impl_Ring} (h : InR r) (a : impl_RingAct) : (stepR r a).1.Size = r.Size ∧ (stepR r a).1.Every = r.Every := by
  have ha := arrivesR_in a.N.toNat h []
  unfold stepR
  repeat' split
  all_goals first
    | exact ⟨rfl, rfl⟩
    | exact ⟨ha.2.1, ha.2.2.2.1⟩
theorem ringStep_eq {F : Nat} (hF : 2097152 ≤ F) {r : impl_Ring} (h : r.Posted.length ≤ 1048576 ∧ r.Done.length ≤ 1048576) (a : impl_RingAct) : T (spec_RingStep F r a) fun q => impl_RingStep F r a = some q ∧ RingSz q.1 ∧ q.2.1.List.length ≤ 1500000 := by
  unfold spec_RingStep impl_RingStep
  obtain ⟨q, e, hq⟩ := ringOK_S hF (r := r) (by omega) (by omega)
  obtain ⟨q', e', hq'⟩ := ringOK_I hF (r := r) (by omega) (by omega)
  have : q = q' := by
    by_cases ho : OkR r
    · rw [hq.2 ho, hq'.2 ho]
    · cases q
      · cases q'
        · rfl
        · exact absurd (hq'.1 rfl) ho
      · exact absurd (hq.1 rfl) ho
  subst this
  rw [e, e', Option.bind_some, Option.bind_some]
  cases q
  · exact T_some ⟨rfl, by constructor <;> simp, by simp⟩
  · have hp := (hq.1 rfl).1
    have hz := stepR_in hp a
    have hu := stepR_up hp a
    have hb := hz.1.2.2.1
    have hb1 := hz.1.1
    rw [cloneRing_ok (by constructor <;> omega), stepR_ok hF hp]
    simp only [Bool.not_true, cond_false, Option.bind_some]
    rw [actR_ok hF hp]
    refine T_some ⟨?_, by constructor <;> (simp only; omega), by simp only; omega⟩
    simp only [Option.bind_some]
    rw [← hu.1, ← hu.2]
theorem main {F : Nat} (hF : 2097152 ≤ F) {p : impl_Ring} {a : impl_RingAct} (h1 : p.Posted.length ≤ maxLen) (h2 : p.Done.length ≤ maxLen) : laws_FnExactRingStep F p a = some true := by
  unfold laws_FnExactRingStep
  obtain ⟨z, e, hz⟩ := szRing_ok h1 h2
  rw [e, Option.bind_some]
  by_cases h : z < 0
  · rw [decide_eq_true h]; rfl
  have hz := hz (by omega)
  have hp : RingSz p := by constructor <;> omega
  obtain ⟨r, e1, e2, hr, hl⟩ := ringStep_eq hF hz a
  have m1 := ringM_le hp 1
  have m2 := ringM_le hr 1
  have m3 := mInt_le hl (ringM r.1 1).1
  have k1 := markRing_ok hF hp (c := 1) (by omega)
  have k2 := markRing_ok hF hr (c := 1) (by omega)
  have k3 := heldRing_ok hF hr (c := 1) (by omega)
  have k4 := markRingReply_ok hF hl (c := (ringM r.1 1).1) (by omega)
  have k5 := heldRingReply_ok hF hl (c := (ringM r.1 1).1) (by omega)
  have d1 : decide ((ringM p 1).1 < 0) = false := decide_eq_false (by omega)
  have d2 : decide ((ringM r.1 1).1 < 0) = false := decide_eq_false (by omega)
  have d3 : decide ((markL mInt r.2.1.List (ringM r.1 1).1).2 < 0) = false := decide_eq_false (by omega)
  simp only [decide_eq_false h, cond_false, toRing_ok hF hp, laws_toRingAct, Option.bind_some, e1, e2, eqRing_ok hF hp, eqRing_ok hF hr, eqRingReply_ok hF hl, k1, k2, k3, k4, k5, d1, d2, d3, Bool.not_true, Bool.not_false, cond_true, Bool.or_false, Bool.false_or, decide_true]
theorem pure : Pure := fun p a hp _ => ⟨2097152, main (Nat.le_refl _) hp.2.2.1.1 hp.2.2.2.1.1⟩
end Go.Proofs.Ytpkdolmbhfmjcaa.FnExactRingStep
