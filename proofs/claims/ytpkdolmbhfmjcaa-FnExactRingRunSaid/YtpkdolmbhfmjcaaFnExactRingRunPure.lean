/- A run of the ring: program and reference answer alike, and no row is shared. -/
import Derived.Test.YtpkdolmbhfmjcaaFnExactRingRunS
import Derived.Test.YtpkdolmbhfmjcaaGwP
set_option linter.unusedVariables false
set_option linter.unusedSimpArgs false
set_option linter.unusedSectionVars false
namespace Go.Proofs.Ytpkdolmbhfmjcaa.FnExactRingRun
open Go.RowKit Go.Proofs.Gw
/-! ### Rows of numbers: compared, marked -/
theorem eqIntS_ok {F : Nat} (hF : 2097152 ≤ F) {a : List Int} (h : a.length ≤ 1500000) : laws_eqIntS F a a = some true := by
  unfold laws_eqIntS
  have := same_loop (n := a.length) (v := Fl.go ()) (f := laws_eqIntS_l1 F a a) (fun k => by simp [laws_eqIntS_l1]) (fun k i h0 h1 => by
    simp only [laws_eqIntS_l1, decide_eq_true h1, cond_true]
    simp (disch := omega) only [gd_pos, wr]
    simp) a.length 0 F (by omega) (by omega)
  simp at this
  simp [this, Fl.on]
def mInt : Int → Int → Int × Int := fun _ c => (c, c + 1)
theorem mInt_up : ∀ x c : Int, True → c ≤ (mInt x c).2 ∧ (mInt x c).2 ≤ c + (1 : Nat) := fun x c _ => by simp [mInt]; omega
theorem markIntS_ok {F : Nat} (hF : 2097152 ≤ F) {a : List Int} (h : a.length ≤ 1500000) {c : Int} (hc : 0 ≤ c ∧ c ≤ 1152921504606846976) : laws_markIntS F a c = some ((markL mInt a c).2, (markL mInt a c).1) := by
  have := mark_loop mInt_up (B := 2305843009213693952) (f := laws_markIntS_l1 F) (fun k s c => by simp [laws_markIntS_l1]) (fun k s c i h0 h1 h2 h3 h4 _ => by
    simp only [laws_markIntS_l1, decide_eq_true h1, cond_true, mInt]
    simp (disch := omega) only [gd_pos, wr]) a [] c F (fun _ _ => trivial) (by omega) (by simp; omega) (by omega) (by omega)
  simp at this
  simp [laws_markIntS, this]
theorem heldIntS_ok {F : Nat} (hF : 2097152 ≤ F) {a : List Int} (h : a.length ≤ 1500000) {c : Int} (hc : 0 ≤ c ∧ c ≤ 1152921504606846976) : laws_heldIntS F (markL mInt a c).1 c = some (markL mInt a c).2 := by
  have := held_loop mInt_up (B := 2305843009213693952) (a := (markL mInt a c).1) (f := laws_heldIntS_l1 F (markL mInt a c).1) (fun k c => by simp [laws_heldIntS_l1]) (fun k c x i h0 h1 h2 h3 h4 _ h5 => by
    simp only [laws_heldIntS_l1, decide_eq_true h1, cond_true, h5, mInt]
    simp (disch := omega) only [gd_pos, wr]
    simp) (by rw [markL_len]; omega) a [] c F rfl (fun _ _ => trivial) (by omega) (by omega) (by omega)
  simp at this
  simp [laws_heldIntS, this, Fl.on]
theorem mInt_le {a : List Int} (h : a.length ≤ 1500000) (c : Int) : c ≤ (markL mInt a c).2 ∧ (markL mInt a c).2 ≤ c + 1500000 := by
  have := markL_up mInt_up a c (fun _ _ => trivial)
  omega
theorem index_l1 {F : Nat} {l : List Int} {x : Int} (hl : l.length ≤ 1500000) : ∀ (r d : List Int) (k : Nat), l = d ++ r → r.length < k → T (slices_Index___int_int__l1 F l x k (d.length : Int)) fun q => if x ∈ r then ∃ i, q = .out i ∧ 0 ≤ i else q = .go ()
  | [], d, k, e, hk => by
    obtain ⟨k, rfl⟩ : ∃ m, k = m + 1 := ⟨k - 1, by omega⟩
    have : l.length = d.length := by rw [e]; simp
    simp only [slices_Index___int_int__l1]
    rw [decide_eq_false (by omega), cond_false]
    exact T_some (by simp)
  | y :: r, d, k, e, hk => by
    obtain ⟨k, rfl⟩ : ∃ m, k = m + 1 := ⟨k - 1, by omega⟩
    have ll : l.length = d.length + (r.length + 1) := by rw [e]; simp
    have e' : ix l (d.length : Int) = y := by rw [e]; exact ix_mid rfl
    simp only [List.length_cons] at hk
    simp only [slices_Index___int_int__l1, e']
    rw [decide_eq_true (by omega), cond_true, gd_pos (by omega), wr (by omega)]
    by_cases h : x = y
    · rw [decide_eq_true h, cond_true]
      exact T_some (by rw [if_pos (by simp [h])]; exact ⟨_, rfl, by omega⟩)
    · rw [decide_eq_false h, cond_false]
      have ih := index_l1 (F := F) (x := x) hl r (d ++ [y]) k (by rw [e]; simp) (by omega)
      simp only [List.length_append, List.length_cons, List.length_nil, Int.natCast_add] at ih
      refine T_mono ih fun q hq => ?_
      have : (x ∈ y :: r) ↔ x ∈ r := by simp [h]
      simpa [this] using hq
theorem contains_ok {F : Nat} (hF : 2097152 ≤ F) {l : List Int} (x : Int) (hl : l.length ≤ 1500000) : slices_Contains___int_int_ F l x = some (decide (x ∈ l)) := by
  unfold slices_Contains___int_int_ slices_Index___int_int_
  obtain ⟨q, e, hq⟩ := index_l1 (F := F) (x := x) hl l [] F rfl (by omega)
  simp only [List.length_nil, Int.natCast_zero] at e
  rw [e]
  by_cases h : x ∈ l
  · rw [if_pos h] at hq
    obtain ⟨i, rfl, hi⟩ := hq
    simp [Fl.on, hi, h]
  · rw [if_neg h] at hq
    subst hq
    simp [Fl.on, h]
theorem has_l1 {F : Nat} {l : List Int} {x : Int} (hl : l.length ≤ 1500000) : ∀ (r d : List Int) (k : Nat), l = d ++ r → r.length < k → spec_l13Has_l1 F l x k (d.length : Int) = some (if x ∈ r then .out true else .go ())
  | [], d, k, e, hk => by
    obtain ⟨k, rfl⟩ : ∃ m, k = m + 1 := ⟨k - 1, by omega⟩
    have : l.length = d.length := by rw [e]; simp
    simp only [spec_l13Has_l1]
    rw [decide_eq_false (by omega), cond_false]
    simp
  | y :: r, d, k, e, hk => by
    obtain ⟨k, rfl⟩ : ∃ m, k = m + 1 := ⟨k - 1, by omega⟩
    have ll : l.length = d.length + (r.length + 1) := by rw [e]; simp
    have e' : ix l (d.length : Int) = y := by rw [e]; exact ix_mid rfl
    simp only [List.length_cons] at hk
    simp only [spec_l13Has_l1, e']
    rw [decide_eq_true (by omega), cond_true, gd_pos (by omega), wr (by omega)]
    by_cases h : y = x
    · rw [decide_eq_true h, cond_true, if_pos (by simp [h])]
    · rw [decide_eq_false h, cond_false]
      have ih := has_l1 (F := F) (x := x) hl r (d ++ [y]) k (by rw [e]; simp) (by omega)
      simp only [List.length_append, List.length_cons, List.length_nil, Int.natCast_add] at ih
      have : (x ∈ y :: r) ↔ x ∈ r := by simp [Ne.symm h]
      simpa [this] using ih
theorem has_ok {F : Nat} (hF : 2097152 ≤ F) {l : List Int} (x : Int) (hl : l.length ≤ 1500000) : spec_l13Has F l x = some (decide (x ∈ l)) := by
  have := has_l1 (F := F) (x := x) hl l [] F rfl (by omega)
  simp only [List.length_nil, Int.natCast_zero] at this
  unfold spec_l13Has
  rw [this]
  by_cases h : x ∈ l <;> simp [h, Fl.on]
/-! ### One act upon a ring -/
/-- A ring that can be acted upon. -/
def InR (r : impl_Ring) : Prop := (1 ≤ r.Size ∧ r.Size ≤ 16) ∧ (1 ≤ r.Every ∧ r.Every ≤ 16) ∧ ((r.Posted.length + r.Done.length : Nat) : Int) ≤ r.Size ∧ (0 ≤ r.Lost ∧ r.Lost ≤ 1000000000) ∧ (0 ≤ r.Signals ∧ r.Signals ≤ 1000000000) ∧ 0 ≤ r.Pending ∧ r.Pending < r.Every
/-- Something arrives. -/
def arriveR (r : impl_Ring) (o : List Int) : impl_Ring × List Int :=
  match r.Posted with
  | [] => (⟨r.Size, r.Up, r.Posted, r.Done, iMin (r.Lost + 1) 1000000000, r.Pending, r.Every, r.Signals⟩, o)
  | x :: t => if r.Up then
      (if r.Pending + 1 = r.Every then (⟨r.Size, r.Up, t, r.Done ++ [x], r.Lost, 0, r.Every, iMin (r.Signals + 1) 1000000000⟩, o ++ [x])
       else (⟨r.Size, r.Up, t, r.Done ++ [x], r.Lost, r.Pending + 1, r.Every, r.Signals⟩, o ++ [x]))
    else (⟨r.Size, r.Up, r.Posted, r.Done, iMin (r.Lost + 1) 1000000000, r.Pending, r.Every, r.Signals⟩, o)
def arrivesR : Nat → impl_Ring → List Int → impl_Ring × List Int
  | 0, r, o => (r, o)
  | n + 1, r, o => arrivesR n (arriveR r o).1 (arriveR r o).2
theorem iMin_le (a b : Int) : iMin a b ≤ a ∧ iMin a b ≤ b ∧ (iMin a b = a ∨ iMin a b = b) := by
  unfold iMin; split <;> omega
theorem arriveR_in {r : impl_Ring} (h : InR r) (o : List Int) : InR (arriveR r o).1 ∧ (arriveR r o).1.Size = r.Size ∧ (arriveR r o).1.Up = r.Up ∧ (arriveR r o).1.Every = r.Every ∧ (arriveR r o).2.length ≤ o.length + 1 := by
  obtain ⟨h1, h2, h3, h4, h5, h6⟩ := h
  have i1 := iMin_le (r.Lost + 1) 1000000000
  have i2 := iMin_le (r.Signals + 1) 1000000000
  unfold arriveR
  cases hp : r.Posted with
  | nil =>
    rw [hp] at h3
    refine ⟨⟨h1, h2, ?_, ?_, h5, h6⟩, rfl, rfl, rfl, by simp⟩
    · simpa using h3
    · simp only; omega
  | cons x t =>
    rw [hp] at h3
    simp only [List.length_cons] at h3
    simp only
    split
    · split
      · refine ⟨⟨h1, h2, ?_, h4, ?_, ?_⟩, rfl, rfl, rfl, by simp⟩
        · simp only [List.length_append, List.length_cons, List.length_nil]; omega
        · simp only; omega
        · simp only; omega
      · refine ⟨⟨h1, h2, ?_, h4, h5, ?_⟩, rfl, rfl, rfl, by simp⟩
        · simp only [List.length_append, List.length_cons, List.length_nil]; omega
        · simp only; omega
    · refine ⟨⟨h1, h2, ?_, ?_, h5, h6⟩, rfl, rfl, rfl, by simp⟩
      · simp only [List.length_cons]; omega
      · simp only; omega
theorem arrivesR_in : ∀ (n : Nat) {r : impl_Ring} (h : InR r) (o : List Int), InR (arrivesR n r o).1 ∧ (arrivesR n r o).1.Size = r.Size ∧ (arrivesR n r o).1.Up = r.Up ∧ (arrivesR n r o).1.Every = r.Every ∧ (arrivesR n r o).2.length ≤ o.length + n
  | 0, r, h, o => ⟨h, rfl, rfl, rfl, by simp [arrivesR]⟩
  | n + 1, r, h, o => by
    have h1 := arriveR_in h o
    have h2 := arrivesR_in n h1.1 (arriveR r o).2
    exact ⟨h2.1, h2.2.1.trans h1.2.1, h2.2.2.1.trans h1.2.2.1, h2.2.2.2.1.trans h1.2.2.2.1, by have := h1.2.2.2.2; have := h2.2.2.2.2; simp only [arrivesR]; omega⟩
theorem arrive_ok {r : impl_Ring} (h : InR r) {o : List Int} (ho : o.length ≤ 1000) : impl_Ring_arrive r o = some ((arriveR r o).2, (arriveR r o).1) := by
  obtain ⟨h1, h2, h3, h4, h5, h6⟩ := h
  have w1 : IntKind.wrap .i64 (r.Lost + 1) = r.Lost + 1 := wr (by omega)
  have w2 : IntKind.wrap .i64 (r.Pending + 1) = r.Pending + 1 := wr (by omega)
  have w3 : IntKind.wrap .i64 (r.Signals + 1) = r.Signals + 1 := wr (by omega)
  unfold impl_Ring_arrive arriveR
  rw [w1, w2, w3]
  obtain ⟨sz, up, po, dn, lo, pe, ev, si⟩ := r
  dsimp only at *
  cases po with
  | nil => simp
  | cons x t =>
    simp only [List.length_cons] at h3
    cases up with
    | false => simp
    | true =>
      have e1 : decide (((x :: t).length : Int) = 0) = false := decide_eq_false (by simp only [List.length_cons]; omega)
      simp only [e1, Bool.not_true, Bool.or_false, cond_false]
      rw [gd_pos (by simp), gd_pos (by simp only [List.length_cons]; omega), gd_pos (by simp only [List.length_cons, List.length_nil]; omega)]
      by_cases hp : pe + 1 = ev
      · simp only [decide_eq_true hp, cond_true, Option.bind_some]
        rw [gd_pos (by simp; omega)]
        simp [hp, ix, slc, List.take_of_length_le]
      · simp only [decide_eq_false hp, cond_false, Option.bind_some]
        rw [gd_pos (by simp; omega)]
        simp [hp, ix, slc, List.take_of_length_le]
theorem actR_l1 {F : Nat} {a0 : impl_Ring} {a : impl_RingAct} (hN : a.N ≤ 100) : ∀ (n : Nat) (r : impl_Ring) (o : List Int) (i : Int) (k : Nat), InR r → r.Size = a0.Size → r.Up = a0.Up → r.Every = a0.Every → 0 ≤ i → i + n = a.N → o.length ≤ i → n < k →
    impl_Ring_act_l1 F a0 a k r.Posted r.Done r.Lost r.Pending r.Signals o i = some ((arrivesR n r o).1.Posted, (arrivesR n r o).1.Done, (arrivesR n r o).1.Lost, (arrivesR n r o).1.Pending, (arrivesR n r o).1.Signals, (arrivesR n r o).2)
  | 0, r, o, i, k, hr, q1, q2, q3, h0, hi, ho, hk => by
    obtain ⟨k, rfl⟩ : ∃ m, k = m + 1 := ⟨k - 1, by omega⟩
    simp only [impl_Ring_act_l1]
    rw [decide_eq_false (by omega), cond_false]; rfl
  | n + 1, r, o, i, k, hr, q1, q2, q3, h0, hi, ho, hk => by
    obtain ⟨k, rfl⟩ : ∃ m, k = m + 1 := ⟨k - 1, by omega⟩
    have e : (⟨a0.Size, a0.Up, r.Posted, r.Done, r.Lost, r.Pending, a0.Every, r.Signals⟩ : impl_Ring) = r := by rw [← q1, ← q2, ← q3]
    have hn := arriveR_in hr o
    simp only [impl_Ring_act_l1]
    rw [decide_eq_true (by omega), cond_true, e, arrive_ok hr (by omega), Option.bind_some, wr (by omega)]
    exact actR_l1 hN n (arriveR r o).1 (arriveR r o).2 (i + 1) k hn.1 (hn.2.1.trans q1) (hn.2.2.1.trans q2) (hn.2.2.2.1.trans q3) (by omega) (by omega) (by have := hn.2.2.2.2; omega) (by omega)
def stepR (r : impl_Ring) (a : impl_RingAct) : impl_Ring × impl_RingReply :=
  if a.Kind = 1 then
    (if ¬ (0 ≤ a.N ∧ a.N ≤ 999) then (r, ⟨4, []⟩) else if a.N ∈ r.Posted ∨ a.N ∈ r.Done then (r, ⟨9, []⟩) else if ((r.Posted.length + r.Done.length : Nat) : Int) = r.Size then (r, ⟨7, []⟩)
     else (⟨r.Size, r.Up, r.Posted ++ [a.N], r.Done, r.Lost, r.Pending, r.Every, r.Signals⟩, ⟨0, []⟩))
  else if a.Kind = 2 then (if ¬ (0 ≤ a.N ∧ a.N ≤ 100) then (r, ⟨4, []⟩) else ((arrivesR a.N.toNat r []).1, ⟨0, (arrivesR a.N.toNat r []).2⟩))
  else if a.Kind = 3 then (if a.N ≤ 0 then (r, ⟨4, []⟩) else
    (⟨r.Size, r.Up, r.Posted, r.Done.drop (iMin a.N r.Done.length).toNat, r.Lost, iMin r.Pending ((r.Done.drop (iMin a.N r.Done.length).toNat).length : Int), r.Every, r.Signals⟩, ⟨0, r.Done.take (iMin a.N r.Done.length).toNat⟩))
  else if a.Kind = 4 then (⟨r.Size, r.Up, [], [], r.Lost, 0, r.Every, r.Signals⟩, ⟨0, r.Done ++ r.Posted⟩)
  else if a.Kind = 5 then (⟨r.Size, decide (a.N = 1), r.Posted, r.Done, r.Lost, r.Pending, r.Every, r.Signals⟩, ⟨0, []⟩)
  else (r, ⟨3, []⟩)
theorem actR_ok {F : Nat} (hF : 2097152 ≤ F) {r : impl_Ring} (h : InR r) (a : impl_RingAct) : impl_Ring_act F r a = some ((stepR r a).2, (stepR r a).1) := by
  have hh := h
  obtain ⟨h1, h2, h3, h4, h5, h6⟩ := h
  unfold impl_Ring_act stepR
  by_cases k1 : a.Kind = 1
  · simp only [k1, decide_true, cond_true, if_true, impl_Ring_post, impl_inRange, Option.bind_some, contains_ok hF a.N (l := r.Posted) (by omega), contains_ok hF a.N (l := r.Done) (by omega)]
    have w1 : IntKind.wrap .i64 ((r.Posted.length : Int) + (r.Done.length : Int)) = ((r.Posted.length + r.Done.length : Nat) : Int) := by rw [wr (by omega)]; omega
    rw [w1]
    by_cases q1 : 0 ≤ a.N ∧ a.N ≤ 999
    · have hd : (decide (0 ≤ a.N) && decide (a.N ≤ 999)) = true := by simp [q1]
      simp only [hd, q1, not_true, if_false, Bool.not_true, cond_false]
      by_cases q2 : a.N ∈ r.Posted
      · simp [q2, Fl.on]
      · by_cases q3 : a.N ∈ r.Done
        · simp [q2, q3, Fl.on]
        · simp only [q2, q3, decide_false, Bool.not_false, cond_true, Option.bind_some, Bool.or_self, cond_false, or_self, if_false]
          by_cases q4 : ((r.Posted.length + r.Done.length : Nat) : Int) = r.Size
          · rw [decide_eq_true q4, if_pos q4]; rfl
          · rw [decide_eq_false q4, if_neg q4, cond_false, gd_pos (by simp; omega)]; rfl
    · have hd : (decide (0 ≤ a.N) && decide (a.N ≤ 999)) = false := by simp; omega
      simp [hd, q1, Fl.on]
  by_cases k2 : a.Kind = 2
  · simp only [k2, decide_true, cond_true, if_true, impl_inRange, Option.bind_some]
    by_cases q1 : 0 ≤ a.N ∧ a.N ≤ 100
    · have hd : (decide (0 ≤ a.N) && decide (a.N ≤ 100)) = true := by simp [q1]
      have := actR_l1 (F := F) (a0 := r) (a := a) q1.2 a.N.toNat r [] 0 F hh rfl rfl rfl (by omega) (by omega) (by simp) (by omega)
      have hn := arrivesR_in a.N.toNat hh []
      simp only [hd, Bool.not_true, cond_false, this, Option.bind_some]
      rw [show decide ((2 : Int) = 1) = false from rfl, if_neg (by decide), if_neg (by simp [q1])]
      simp only [cond_false, Option.bind_some, Fl.on]
      rw [← hn.2.1, ← hn.2.2.1, ← hn.2.2.2.1]
    · have hd : (decide (0 ≤ a.N) && decide (a.N ≤ 100)) = false := by simp; omega
      simp [hd, q1, Fl.on]
  by_cases k3 : a.Kind = 3
  · simp only [k3]
    by_cases q1 : a.N ≤ 0
    · simp [q1, Fl.on]
    · have i1 := iMin_le a.N (r.Done.length : Int)
      simp only [if_true, decide_true, cond_true, decide_eq_false q1, cond_false, if_neg q1, show decide ((3 : Int) = 1) = false from rfl, show decide ((3 : Int) = 2) = false from rfl]
      rw [gd_pos (by omega), gd_pos (by simp [slc]; omega), gd_pos (by omega)]
      simp [slc, Fl.on, List.take_of_length_le]
  by_cases k4 : a.Kind = 4
  · simp only [k4]
    simp only [if_true, decide_true, cond_true, cond_false, show decide ((4 : Int) = 1) = false from rfl, show decide ((4 : Int) = 2) = false from rfl, show decide ((4 : Int) = 3) = false from rfl]
    rw [gd_pos (by simp; omega), gd_pos (by simp; omega)]
    simp [Fl.on]
  by_cases k5 : a.Kind = 5
  · simp [k5, Fl.on]
  · simp [k1, k2, k3, k4, k5, Fl.on]
theorem ownR_ok {r : impl_Ring} (h1 : r.Posted.length ≤ 1500000) (h2 : r.Done.length ≤ 1500000) : spec_l13Own r = some r := by
  unfold spec_l13Own
  rw [gd_pos (by simp; omega), gd_pos (by simp; omega)]
  simp
theorem stepR_l1 {F : Nat} {a0 : impl_Ring} {a : impl_RingAct} (hN : a.N ≤ 100) : ∀ (n : Nat) (r : impl_Ring) (o : List Int) (i : Int) (k : Nat), InR r → r.Size = a0.Size → r.Up = a0.Up → r.Every = a0.Every → 0 ≤ i → i + n = a.N → o.length ≤ i → n < k →
    spec_l13Step_l1 F a a0 k r.Posted r.Done r.Lost r.Pending r.Signals o i = some (a0.Up, (arrivesR n r o).1.Posted, (arrivesR n r o).1.Done, (arrivesR n r o).1.Lost, (arrivesR n r o).1.Pending, (arrivesR n r o).1.Signals, 0, (arrivesR n r o).2)
  | 0, r, o, i, k, hr, q1, q2, q3, h0, hi, ho, hk => by
    obtain ⟨k, rfl⟩ : ∃ m, k = m + 1 := ⟨k - 1, by omega⟩
    simp only [spec_l13Step_l1]
    rw [decide_eq_false (by omega), cond_false]; rfl
  | n + 1, r, o, i, k, hr, q1, q2, q3, h0, hi, ho, hk => by
    obtain ⟨k, rfl⟩ : ∃ m, k = m + 1 := ⟨k - 1, by omega⟩
    have hn := arriveR_in hr o
    have ih := stepR_l1 (F := F) hN n (arriveR r o).1 (arriveR r o).2 (i + 1) k hn.1 (hn.2.1.trans q1) (hn.2.2.1.trans q2) (hn.2.2.2.1.trans q3) (by omega) (by omega) (by have := hn.2.2.2.2; omega) (by omega)
    obtain ⟨h1, h2, h3, h4, h5, h6⟩ := hr
    have w0 : IntKind.wrap .i64 (i + 1) = i + 1 := wr (by omega)
    have w1 : IntKind.wrap .i64 (r.Lost + 1) = r.Lost + 1 := wr (by omega)
    have w2 : IntKind.wrap .i64 (r.Pending + 1) = r.Pending + 1 := wr (by omega)
    have w3 : IntKind.wrap .i64 (r.Signals + 1) = r.Signals + 1 := wr (by omega)
    simp only [spec_l13Step_l1]
    rw [decide_eq_true (by omega), cond_true, w0, w1, w2, w3, ← q2, ← q3]
    rw [← q2] at ih
    simp only [arrivesR]
    rw [← ih]
    clear ih hn w0 w1 w2 w3
    unfold arriveR
    obtain ⟨sz, up, po, dn, lo, pe, ev, si⟩ := r
    dsimp only at *
    cases po with
    | nil => simp
    | cons x t =>
      simp only [List.length_cons] at h3
      cases up with
      | false => simp
      | true =>
        have e1 : decide (((x :: t).length : Int) = 0) = false := decide_eq_false (by simp only [List.length_cons]; omega)
        simp only [e1, Bool.not_true, Bool.or_false, cond_false]
        rw [gd_pos (by simp), gd_pos (by simp only [List.length_cons, List.length_nil]; omega), gd_pos (by simp), gd_pos (by simp only [List.length_cons, List.length_nil]; omega), gd_pos (by simp only [List.length_cons]; omega), gd_pos (by simp [slc]; omega)]
        by_cases hp : pe + 1 = ev
        · simp [hp, ix, slc, List.take_of_length_le]
        · simp [hp, ix, slc, List.take_of_length_le]
theorem stepR_ok {F : Nat} (hF : 2097152 ≤ F) {r : impl_Ring} (h : InR r) (a : impl_RingAct) : spec_l13Step F r a = some (stepR r a) := by
  have hh := h
  obtain ⟨h1, h2, h3, h4, h5, h6⟩ := h
  unfold spec_l13Step stepR
  rw [ownR_ok (by omega) (by omega), Option.bind_some]
  by_cases k1 : a.Kind = 1
  · simp only [k1, decide_true, cond_true, if_true, spec_l01In, Option.bind_some, has_ok hF a.N (l := r.Posted) (by omega), has_ok hF a.N (l := r.Done) (by omega)]
    have w1 : IntKind.wrap .i64 ((r.Posted.length : Int) + (r.Done.length : Int)) = ((r.Posted.length + r.Done.length : Nat) : Int) := by rw [wr (by omega)]; omega
    rw [w1]
    by_cases q1 : 0 ≤ a.N ∧ a.N ≤ 999
    · have hd : (decide (0 ≤ a.N) && decide (a.N ≤ 999)) = true := by simp [q1]
      simp only [hd, q1, not_true, if_false, Bool.not_true, cond_false]
      by_cases q2 : a.N ∈ r.Posted
      · simp [q2]
      · by_cases q3 : a.N ∈ r.Done
        · simp [q2, q3]
        · simp only [q2, q3, decide_false, Bool.not_false, cond_true, Option.bind_some, Bool.or_self, cond_false, or_self, if_false]
          by_cases q4 : ((r.Posted.length + r.Done.length : Nat) : Int) = r.Size
          · rw [decide_eq_true q4, if_pos q4]; rfl
          · rw [decide_eq_false q4, if_neg q4, cond_false, gd_pos (by simp; omega)]; rfl
    · have hd : (decide (0 ≤ a.N) && decide (a.N ≤ 999)) = false := by simp; omega
      simp [hd, q1]
  by_cases k2 : a.Kind = 2
  · simp only [k2, decide_true, cond_true, if_true, spec_l01In, Option.bind_some]
    by_cases q1 : 0 ≤ a.N ∧ a.N ≤ 100
    · have hd : (decide (0 ≤ a.N) && decide (a.N ≤ 100)) = true := by simp [q1]
      have := stepR_l1 (F := F) (a0 := r) (a := a) q1.2 a.N.toNat r [] 0 F hh rfl rfl rfl (by omega) (by omega) (by simp) (by omega)
      have hn := arrivesR_in a.N.toNat hh []
      simp only [hd, Bool.not_true, cond_false, this, Option.bind_some]
      rw [show decide ((2 : Int) = 1) = false from rfl, if_neg (by decide), if_neg (by simp [q1])]
      simp only [cond_false, Option.bind_some]
      rw [← hn.2.1, ← hn.2.2.1, ← hn.2.2.2.1]
    · have hd : (decide (0 ≤ a.N) && decide (a.N ≤ 100)) = false := by simp; omega
      simp [hd, q1]
  by_cases k3 : a.Kind = 3
  · simp only [k3]
    by_cases q1 : a.N ≤ 0
    · simp [q1, show a.N < 1 by omega]
    · have i1 := iMin_le a.N (r.Done.length : Int)
      simp only [if_true, decide_true, cond_true, decide_eq_false (show ¬ a.N < 1 by omega), cond_false, if_neg q1, show decide ((3 : Int) = 1) = false from rfl, show decide ((3 : Int) = 2) = false from rfl]
      rw [gd_pos (by omega), gd_pos (by simp [slc]; omega), gd_pos (by omega), gd_pos (by simp [slc]; omega)]
      simp [slc, List.take_of_length_le]
  by_cases k4 : a.Kind = 4
  · simp only [k4]
    simp only [if_true, decide_true, cond_true, cond_false, show decide ((4 : Int) = 1) = false from rfl, show decide ((4 : Int) = 2) = false from rfl, show decide ((4 : Int) = 3) = false from rfl]
    rw [gd_pos (by simp; omega), gd_pos (by simp; omega)]
    simp
  by_cases k5 : a.Kind = 5
  · simp [k5]
  · simp [k1, k2, k3, k4, k5]
theorem stepR_in {r : impl_Ring} (h : InR r) (a : impl_RingAct) : InR (stepR r a).1 ∧ (stepR r a).2.List.length ≤ 1000 := by
  have hh := h
  obtain ⟨h1, h2, h3, h4, h5, h6⟩ := h
  have ha := arrivesR_in a.N.toNat hh []
  have i1 := iMin_le a.N (r.Done.length : Int)
  have i2 := iMin_le r.Pending ((r.Done.drop (iMin a.N r.Done.length).toNat).length : Int)
  unfold stepR
  repeat' split
  all_goals try exact ⟨hh, by simp⟩
  · exact ⟨⟨h1, h2, by simp only [List.length_append, List.length_cons, List.length_nil]; omega, h4, h5, h6⟩, by simp⟩
  · exact ⟨ha.1, by have := ha.2.2.2.2; simp only [List.length_nil] at this; simp only; omega⟩
  · exact ⟨⟨h1, h2, by simp only [List.length_drop]; omega, h4, h5, by simp only; omega⟩, by simp only [List.length_take]; omega⟩
  · exact ⟨⟨h1, h2, by simp; omega, h4, h5, by simp only; omega⟩, by simp only [List.length_append]; omega⟩
/-! ### A ring from new, and a run of acts -/
theorem stepR_up {r : impl_Ring} (h : InR r) (a : impl_RingAct) : (stepR r a).1.Size = r.Size ∧ (stepR r a).1.Every = r.Every := by
  have ha := arrivesR_in a.N.toNat h []
  unfold stepR
  repeat' split
  all_goals first
    | exact ⟨rfl, rfl⟩
    | exact ⟨ha.2.1, ha.2.2.2.1⟩
def newR (n e : Int) : impl_Ring × Int := if (1 ≤ n ∧ n ≤ 16) ∧ (1 ≤ e ∧ e ≤ 16) then (⟨n, true, [], [], 0, 0, e, 0⟩, 0) else (⟨0, false, [], [], 0, 0, 0, 0⟩, 4)
theorem newR_I (n e : Int) : impl_NewRing n e = some (newR n e) := by
  unfold impl_NewRing newR
  simp only [impl_inRange, Option.bind_some]
  by_cases q1 : 1 ≤ n ∧ n ≤ 16
  · have d1 : (decide (1 ≤ n) && decide (n ≤ 16)) = true := by simp [q1]
    by_cases q2 : 1 ≤ e ∧ e ≤ 16
    · have d2 : (decide (1 ≤ e) && decide (e ≤ 16)) = true := by simp [q2]
      rw [d1, d2, if_pos ⟨q1, q2⟩]; rfl
    · have d2 : (decide (1 ≤ e) && decide (e ≤ 16)) = false := by simp; omega
      rw [d1, d2, if_neg (fun h => q2 h.2)]; rfl
  · have d1 : (decide (1 ≤ n) && decide (n ≤ 16)) = false := by simp; omega
    rw [d1, if_neg (fun h => q1 h.1)]; rfl
theorem newR_S (n e : Int) : spec_NewRing n e = some (newR n e) := by
  unfold spec_NewRing newR
  simp only [spec_l01In, Option.bind_some]
  by_cases q1 : 1 ≤ n ∧ n ≤ 16
  · have d1 : (decide (1 ≤ n) && decide (n ≤ 16)) = true := by simp [q1]
    by_cases q2 : 1 ≤ e ∧ e ≤ 16
    · have d2 : (decide (1 ≤ e) && decide (e ≤ 16)) = true := by simp [q2]
      rw [d1, d2, if_pos ⟨q1, q2⟩]; rfl
    · have d2 : (decide (1 ≤ e) && decide (e ≤ 16)) = false := by simp; omega
      rw [d1, d2, if_neg (fun h => q2 h.2)]; rfl
  · have d1 : (decide (1 ≤ n) && decide (n ≤ 16)) = false := by simp; omega
    rw [d1, if_neg (fun h => q1 h.1)]; rfl
theorem newR_in {n e : Int} (h : (newR n e).2 = 0) : InR (newR n e).1 ∧ (1 ≤ n ∧ n ≤ 16) ∧ (1 ≤ e ∧ e ≤ 16) := by
  unfold newR at h ⊢
  split at h
  · rename_i h'
    rw [if_pos h']
    exact ⟨⟨h'.1, h'.2, by simp; omega, by simp, by simp, by simp only; omega⟩, h'⟩
  · cases h
def runR : impl_Ring → List impl_RingAct → impl_Ring × List impl_RingReply
  | p, [] => (p, [])
  | p, a :: r => ((runR (stepR p a).1 r).1, (stepR p a).2 :: (runR (stepR p a).1 r).2)
theorem runR_len : ∀ (r : List impl_RingAct) (p : impl_Ring), (runR p r).2.length = r.length
  | [], _ => rfl
  | a :: r, p => by simp [runR, runR_len r]
theorem runR_in : ∀ (r : List impl_RingAct) (p : impl_Ring), InR p → InR (runR p r).1 ∧ (runR p r).1.Size = p.Size ∧ (runR p r).1.Every = p.Every ∧ ∀ x ∈ (runR p r).2, x.List.length ≤ 1000
  | [], p, h => ⟨h, rfl, rfl, by simp [runR]⟩
  | a :: r, p, h => by
    have h0 := stepR_in h a
    have h1 := runR_in r (stepR p a).1 h0.1
    have h2 := stepR_up h a
    exact ⟨h1.1, h1.2.1.trans h2.1, h1.2.2.1.trans h2.2, fun x hx => (List.mem_cons.1 hx).elim (fun e => e ▸ h0.2) (h1.2.2.2 x)⟩
theorem runR_I {F : Nat} (hF : 2097152 ≤ F) {al : List impl_RingAct} (hl : al.length ≤ 300) {q : impl_Ring × Int} : ∀ (r d : List impl_RingAct) (p : impl_Ring) (os : List impl_RingReply) (s : List impl_RingReply) (k : Nat), al = d ++ r → InR p → p.Size = q.1.Size → p.Every = q.1.Every → r.length < k → os.length = d.length → s.length = r.length →
    impl_RingRun_l1 F al q k p.Up p.Posted p.Done p.Lost p.Pending p.Signals (os ++ s) (d.length : Int) = some ((runR p r).1.Up, (runR p r).1.Posted, (runR p r).1.Done, (runR p r).1.Lost, (runR p r).1.Pending, (runR p r).1.Signals, os ++ (runR p r).2)
  | [], d, p, os, s, k, e, hp, q1, q2, hk, ho, hs => by
    obtain ⟨k, rfl⟩ : ∃ m, k = m + 1 := ⟨k - 1, by omega⟩
    have : s = [] := by simpa using hs
    subst this
    subst e
    simp [impl_RingRun_l1, runR]
  | a :: r, d, p, os, s, k, e, hp, q1, q2, hk, ho, hs => by
    obtain ⟨k, rfl⟩ : ∃ m, k = m + 1 := ⟨k - 1, by omega⟩
    have la : al.length = d.length + (r.length + 1) := by rw [e]; simp
    have e' : ix al (d.length : Int) = a := by rw [e]; exact ix_mid rfl
    simp only [List.length_cons] at hk hs
    cases s with
    | nil => simp at hs
    | cons y s =>
      have h2 := stepR_up hp a
      have ep : (⟨q.1.Size, p.Up, p.Posted, p.Done, p.Lost, p.Pending, q.1.Every, p.Signals⟩ : impl_Ring) = p := by rw [← q1, ← q2]
      simp only [impl_RingRun_l1]
      rw [decide_eq_true (by omega), cond_true, gd_pos (by omega), e', ep, actR_ok hF hp, Option.bind_some, gd_pos (by simp; omega), set_mid (by rw [ho]), wr (by omega)]
      have ih := runR_I hF hl (q := q) r (d ++ [a]) (stepR p a).1 (os ++ [(stepR p a).2]) s k (by rw [e]; simp) (stepR_in hp a).1 (h2.1.trans q1) (h2.2.trans q2) (by omega) (by simp [ho]) (by simp at hs; omega)
      simpa [runR] using ih
theorem runR_S {F : Nat} (hF : 2097152 ≤ F) {al : List impl_RingAct} (hl : al.length ≤ 300) : ∀ (r d : List impl_RingAct) (p : impl_Ring) (os : List impl_RingReply) (k : Nat), al = d ++ r → InR p → r.length < k → os.length = d.length →
    spec_RingRun_l1 F al k p.Size p.Up p.Posted p.Done p.Lost p.Pending p.Every p.Signals os (d.length : Int) = some ((runR p r).1.Size, (runR p r).1.Up, (runR p r).1.Posted, (runR p r).1.Done, (runR p r).1.Lost, (runR p r).1.Pending, (runR p r).1.Every, (runR p r).1.Signals, os ++ (runR p r).2)
  | [], d, p, os, k, e, hp, hk, ho => by
    obtain ⟨k, rfl⟩ : ∃ m, k = m + 1 := ⟨k - 1, by omega⟩
    subst e
    simp [spec_RingRun_l1, runR]
  | a :: r, d, p, os, k, e, hp, hk, ho => by
    obtain ⟨k, rfl⟩ : ∃ m, k = m + 1 := ⟨k - 1, by omega⟩
    have la : al.length = d.length + (r.length + 1) := by rw [e]; simp
    have e' : ix al (d.length : Int) = a := by rw [e]; exact ix_mid rfl
    simp only [List.length_cons] at hk
    simp only [spec_RingRun_l1]
    rw [decide_eq_true (by omega), cond_true, gd_pos (by omega), e', stepR_ok hF hp, Option.bind_some, gd_pos (by simp; omega), wr (by omega)]
    have ih := runR_S hF hl r (d ++ [a]) (stepR p a).1 (os ++ [(stepR p a).2]) k (by rw [e]; simp) (stepR_in hp a).1 (by omega) (by simp [ho])
    simpa [runR] using ih
def wholeR (n e : Int) (al : List impl_RingAct) : impl_Ring × List impl_RingReply × Int :=
  if 4096 < al.length then (⟨0, false, [], [], 0, 0, 0, 0⟩, [], 2) else if (newR n e).2 ≠ 0 then (⟨0, false, [], [], 0, 0, 0, 0⟩, [], (newR n e).2) else if 300 < al.length then (⟨0, false, [], [], 0, 0, 0, 0⟩, [], 6) else ((runR (newR n e).1 al).1, (runR (newR n e).1 al).2, 0)
theorem wholeR_I {F : Nat} (hF : 2097152 ≤ F) (n e : Int) (al : List impl_RingAct) : impl_RingRun F n e al = some (wholeR n e al) := by
  unfold impl_RingRun wholeR
  by_cases h1 : 4096 < al.length
  · rw [decide_eq_true (by omega), if_pos h1]; rfl
  rw [decide_eq_false (by omega), if_neg h1, cond_false, newR_I, Option.bind_some]
  by_cases h2 : (newR n e).2 = 0
  · have hi := newR_in h2
    rw [if_neg (by simp [h2]), decide_eq_true h2]
    simp only [Bool.not_true, cond_false]
    by_cases h3 : 300 < al.length
    · rw [decide_eq_true (by omega), if_pos h3]; rfl
    rw [decide_eq_false (by omega), if_neg h3, cond_false, gd_pos (by omega)]
    have := runR_I (F := F) (al := al) (q := newR n e) hF (by omega) al [] (newR n e).1 [] (List.replicate (Int.toNat (al.length : Int)) (impl_RingReply.mk 0 [])) F rfl hi.1 rfl rfl (by omega) rfl (by simp)
    simp only [List.length_nil, List.nil_append, Int.natCast_zero] at this
    have hr := runR_in al (newR n e).1 hi.1
    rw [this, Option.bind_some, ← hr.2.1, ← hr.2.2.1]
  · rw [if_pos h2, decide_eq_false h2]; rfl
theorem wholeR_S {F : Nat} (hF : 2097152 ≤ F) (n e : Int) (al : List impl_RingAct) : spec_RingRun F n e al = some (wholeR n e al) := by
  unfold spec_RingRun wholeR
  by_cases h1 : 4096 < al.length
  · rw [decide_eq_true (by omega), if_pos h1]; rfl
  rw [decide_eq_false (by omega), if_neg h1, cond_false, newR_S, Option.bind_some]
  by_cases h2 : (newR n e).2 = 0
  · have hi := newR_in h2
    rw [if_neg (by simp [h2]), decide_eq_true h2]
    simp only [Bool.not_true, cond_false]
    by_cases h3 : 300 < al.length
    · rw [decide_eq_true (by omega), if_pos h3]; rfl
    rw [decide_eq_false (by omega), if_neg h3, cond_false]
    have := runR_S (F := F) (al := al) hF (by omega) al [] (newR n e).1 [] F rfl hi.1 (by omega) rfl
    simp only [List.length_nil, List.nil_append, Int.natCast_zero] at this
    have hr := runR_in al (newR n e).1 hi.1
    have hb := hr.1.2.2.1
    have hb1 := hr.1.1
    rw [this, Option.bind_some]
    simp only
    rw [ownR_ok (r := (runR (newR n e).1 al).1) (by omega) (by omega)]; rfl
  · rw [if_pos h2, decide_eq_false h2]; rfl
theorem wholeR_sz (n e : Int) (al : List impl_RingAct) : (wholeR n e al).1.Posted.length ≤ 1000 ∧ (wholeR n e al).1.Done.length ≤ 1000 ∧ (wholeR n e al).2.1.length ≤ 300 ∧ ∀ x ∈ (wholeR n e al).2.1, x.List.length ≤ 1000 := by
  unfold wholeR
  repeat' split
  · simp
  · simp
  · simp
  · rename_i h1 h2 h3
    have hi := newR_in (n := n) (e := e) (by omega)
    have hr := runR_in al (newR n e).1 hi.1
    have hl := runR_len al (newR n e).1
    have hb := hr.1.2.2.1
    have hb1 := hr.1.1
    exact ⟨by simp only; omega, by simp only; omega, by simp only; omega, hr.2.2.2⟩
/-! ### Rings and replies: compared, marked -/
def RingSz (r : impl_Ring) : Prop := r.Posted.length ≤ 1500000 ∧ r.Done.length ≤ 1500000
theorem eqRing_ok {F : Nat} (hF : 2097152 ≤ F) {r : impl_Ring} (h : RingSz r) : laws_eqRing F r r = some true := by
  unfold laws_eqRing
  simp [eqIntS_ok hF h.1, eqIntS_ok hF h.2]
def ringM (p : impl_Ring) (c : Int) : Int × List Int × List Int := ((markL mInt p.Done (markL mInt p.Posted c).2).2, (markL mInt p.Posted c).1, (markL mInt p.Done (markL mInt p.Posted c).2).1)
theorem ringM_le {p : impl_Ring} (h : RingSz p) (c : Int) : c ≤ (ringM p c).1 ∧ (ringM p c).1 ≤ c + 3000000 := by
  have h1 := mInt_le h.1 c
  have h2 := mInt_le h.2 (markL mInt p.Posted c).2
  simp only [ringM]; omega
theorem markRing_ok {F : Nat} (hF : 2097152 ≤ F) {p : impl_Ring} (h : RingSz p) {c : Int} (hc : 0 ≤ c ∧ c ≤ 576460752303423488) : laws_markRing F p c = some (ringM p c) := by
  have h1 := mInt_le h.1 c
  unfold laws_markRing
  rw [markIntS_ok hF h.1 (by omega), Option.bind_some, markIntS_ok hF h.2 (by simp only; omega)]; rfl
theorem heldRing_ok {F : Nat} (hF : 2097152 ≤ F) {p : impl_Ring} (h : RingSz p) {c : Int} (hc : 0 ≤ c ∧ c ≤ 576460752303423488) (a : Int) (b : Bool) (l q e s : Int) : laws_heldRing F (impl_Ring.mk a b (ringM p c).2.1 (ringM p c).2.2 l q e s) c = some (ringM p c).1 := by
  have h1 := mInt_le h.1 c
  have h2 := mInt_le h.2 (markL mInt p.Posted c).2
  unfold laws_heldRing
  simp only [ringM]
  rw [heldIntS_ok hF h.1 (by omega), Option.bind_some, decide_eq_false (by omega), cond_false, heldIntS_ok hF h.2 (by omega), Option.bind_some, decide_eq_false (by omega)]; rfl
theorem eqRingReply_ok {F : Nat} (hF : 2097152 ≤ F) {r : impl_RingReply} (h : r.List.length ≤ 1500000) : laws_eqRingReply F r r = some true := by
  unfold laws_eqRingReply
  simp [eqIntS_ok hF h]
/-! ### Rows of acts and of replies: measured, copied, compared, marked -/
theorem szRingActS_ok {a : List impl_RingAct} {b : Int} (hb : 0 ≤ b ∧ b ≤ 1048576) (ha : a.length ≤ maxLen) : laws_szRingActS a b = some (if (a.length : Int) ≤ b then b - a.length else -1) := by
  have : (a.length : Int) ≤ 9223372036854775807 := by unfold maxLen at ha; omega
  unfold laws_szRingActS
  rw [wr (by omega)]
  by_cases h : (a.length : Int) ≤ b
  · rw [if_pos h, decide_eq_false (by omega)]; rfl
  · rw [if_neg h, decide_eq_true (by omega)]; rfl
theorem toRingActS_ok {F : Nat} (hF : 2097152 ≤ F) {a : List impl_RingAct} (h : a.length ≤ 1500000) : laws_toRingActS F a = some a := by
  unfold laws_toRingActS
  rw [gd_pos (by omega), copy_all (f := laws_toRingActS_l1 F a) (by omega)]
  · rfl
  · intro k s; simp [laws_toRingActS_l1]
  · intro k s i h0 h1 h2
    simp only [laws_toRingActS_l1, decide_eq_true h1, cond_true, laws_toRingAct, Option.bind_some]
    simp (disch := omega) only [gd_pos, wr]
theorem eqRingAct_ok (r : impl_RingAct) : laws_eqRingAct r r = some true := by simp [laws_eqRingAct]
theorem eqRingActS_ok {F : Nat} (hF : 2097152 ≤ F) {a : List impl_RingAct} (h : a.length ≤ 1500000) : laws_eqRingActS F a a = some true := by
  unfold laws_eqRingActS
  have := same_loop (n := a.length) (v := Fl.go ()) (f := laws_eqRingActS_l1 F a a) (fun k => by simp [laws_eqRingActS_l1]) (fun k i h0 h1 => by
    simp only [laws_eqRingActS_l1, decide_eq_true h1, cond_true, eqRingAct_ok, Option.bind_some]
    simp (disch := omega) only [gd_pos, wr]
    simp) a.length 0 F (by omega) (by omega)
  simp at this
  simp [this, Fl.on]
def mRingActS : impl_RingAct → Int → impl_RingAct × Int := fun x c => (⟨c, c + 1⟩, c + 2)
theorem mRingActS_up : ∀ x c, True → c ≤ (mRingActS x c).2 ∧ (mRingActS x c).2 ≤ c + (2 : Nat) := fun x c _ => by simp [mRingActS]; omega
theorem markRingActS_ok {F : Nat} (hF : 2097152 ≤ F) {a : List impl_RingAct} (h : a.length ≤ 1500000) {c : Int} (hc : 0 ≤ c ∧ c ≤ 1152921504606846976) : laws_markRingActS F a c = some ((markL mRingActS a c).2, (markL mRingActS a c).1) := by
  have := mark_loop mRingActS_up (B := 2305843009213693952) (f := laws_markRingActS_l1 F) (fun k s c => by simp [laws_markRingActS_l1]) (fun k s c i h0 h1 h2 h3 h4 _ => by
    simp only [laws_markRingActS_l1, decide_eq_true h1, cond_true, mRingActS, List.length_set]
    simp (disch := omega) only [gd_pos, wr, Int.add_assoc, Int.reduceAdd]) a [] c F (fun _ _ => trivial) (by omega) (by simp; omega) (by omega) (by omega)
  simp at this
  simp [laws_markRingActS, this]
theorem mRingActS_le {a : List impl_RingAct} (h : a.length ≤ 1500000) (c : Int) : c ≤ (markL mRingActS a c).2 ∧ (markL mRingActS a c).2 ≤ c + 3000000 := by
  have := markL_up mRingActS_up a c (fun _ _ => trivial)
  omega
def RepSz (a : List impl_RingReply) : Prop := a.length ≤ 1000 ∧ ∀ x ∈ a, x.List.length ≤ 1000
theorem ix_rep {a : List impl_RingReply} (h : RepSz a) {i : Int} (h0 : 0 ≤ i) (h1 : i < (a.length : Int)) : (ix a i).List.length ≤ 1000 := by
  apply h.2
  have : i.toNat < a.length := by omega
  simp [ix, List.getD_eq_getElem?_getD, List.getElem?_eq_getElem this]
theorem eqRingReplyS_ok {F : Nat} (hF : 2097152 ≤ F) {a : List impl_RingReply} (h : RepSz a) : laws_eqRingReplyS F a a = some true := by
  have hl := h.1
  unfold laws_eqRingReplyS
  have := same_loop (n := a.length) (v := Fl.go ()) (f := laws_eqRingReplyS_l1 F a a) (fun k => by simp [laws_eqRingReplyS_l1]) (fun k i h0 h1 => by
    have hi := ix_rep h h0 h1
    simp only [laws_eqRingReplyS_l1, decide_eq_true h1, cond_true]
    simp (disch := omega) only [gd_pos, wr]
    rw [eqRingReply_ok hF (r := ⟨(ix a i).Code, (ix a i).List⟩) (by simp only; omega)]
    simp) a.length 0 F (by omega) (by omega)
  simp at this
  simp [this, Fl.on]
def mRep : impl_RingReply → Int → impl_RingReply × Int := fun x c => (⟨c, (markL mInt x.List (c + 1)).1⟩, (markL mInt x.List (c + 1)).2)
def RepG (x : impl_RingReply) : Prop := x.List.length ≤ 1000
theorem mRep_up : ∀ x c, RepG x → c ≤ (mRep x c).2 ∧ (mRep x c).2 ≤ c + (1001 : Nat) := fun x c h => by
  have h : x.List.length ≤ 1000 := h
  have := markL_up mInt_up x.List (c + 1) (fun _ _ => trivial)
  simp only [mRep]; omega
theorem markRingReplyS_ok {F : Nat} (hF : 2097152 ≤ F) {a : List impl_RingReply} (h : RepSz a) {c : Int} (hc : 0 ≤ c ∧ c ≤ 576460752303423488) : laws_markRingReplyS F a c = some ((markL mRep a c).2, (markL mRep a c).1) := by
  have hl := h.1
  have := mark_loop mRep_up (B := 600000000000000000) (f := laws_markRingReplyS_l1 F) (fun k s c => by simp [laws_markRingReplyS_l1]) (fun k s c i h0 h1 h2 h3 h4 hg => by
    have hg : (ix s i).List.length ≤ 1000 := hg
    simp only [laws_markRingReplyS_l1, decide_eq_true h1, cond_true, mRep]
    simp (disch := omega) only [gd_pos, wr]
    rw [markIntS_ok hF (by omega) (by omega)]
    rfl) a [] c F h.2 (by omega) (by simp; omega) (by omega) (by omega)
  simp at this
  simp [laws_markRingReplyS, this]
theorem mRep_le {a : List impl_RingReply} (h : RepSz a) (c : Int) : c ≤ (markL mRep a c).2 ∧ (markL mRep a c).2 ≤ c + 1001000 := by
  have hl := h.1
  have := markL_up mRep_up a c h.2
  omega
theorem heldRingReplyS_ok {F : Nat} (hF : 2097152 ≤ F) {a : List impl_RingReply} (h : RepSz a) {c : Int} (hc : 0 ≤ c ∧ c ≤ 576460752303423488) : laws_heldRingReplyS F (markL mRep a c).1 c = some (markL mRep a c).2 := by
  have hl := h.1
  have := held_loop mRep_up (B := 600000000000000000) (a := (markL mRep a c).1) (f := laws_heldRingReplyS_l1 F (markL mRep a c).1) (fun k c => by simp [laws_heldRingReplyS_l1]) (fun k c x i h0 h1 h2 h3 h4 hg h5 => by
    have hg : x.List.length ≤ 1000 := hg
    have hu := mInt_le (a := x.List) (by omega) (c + 1)
    simp only [laws_heldRingReplyS_l1, decide_eq_true h1, cond_true, h5, mRep]
    simp (disch := omega) only [gd_pos, wr]
    simp only [decide_true, Bool.not_true, cond_false]
    rw [heldIntS_ok hF (by omega) (by omega), Option.bind_some, decide_eq_false (by omega)]
    rfl) (by rw [markL_len]; omega) a [] c F rfl h.2 (by omega) (by omega) (by omega)
  simp at this
  simp [laws_heldRingReplyS, this, Fl.on]
theorem main {F : Nat} (hF : 2097152 ≤ F) {n m : Int} {al : List impl_RingAct} (h1 : al.length ≤ maxLen) : laws_FnExactRingRun F n m al = some true := by
  unfold laws_FnExactRingRun
  rw [szRingActS_ok (by omega) h1, Option.bind_some]
  by_cases h : (al.length : Int) ≤ 1048576
  · rw [if_pos h, decide_eq_false (by omega), cond_false]
    have hz := wholeR_sz n m al
    have hp : RingSz (wholeR n m al).1 := by constructor <;> omega
    have hq : RepSz (wholeR n m al).2.1 := ⟨by omega, hz.2.2.2⟩
    have m1 := mRingActS_le (a := al) (by omega) 1
    have m2 := ringM_le hp 1
    have m3 := mRep_le hq (ringM (wholeR n m al).1 1).1
    have k1 := markRingActS_ok hF (a := al) (by omega) (c := 1) (by omega)
    have k2 := markRing_ok hF hp (c := 1) (by omega)
    have k3 := heldRing_ok hF hp (c := 1) (by omega)
    have k4 := markRingReplyS_ok hF hq (c := (ringM (wholeR n m al).1 1).1) (by omega)
    have k5 := heldRingReplyS_ok hF hq (c := (ringM (wholeR n m al).1 1).1) (by omega)
    have d1 : decide ((markL mRingActS al 1).2 < 0) = false := decide_eq_false (by omega)
    have d2 : decide ((ringM (wholeR n m al).1 1).1 < 0) = false := decide_eq_false (by omega)
    have d3 : decide ((markL mRep (wholeR n m al).2.1 (ringM (wholeR n m al).1 1).1).2 < 0) = false := decide_eq_false (by omega)
    have t1 := toRingActS_ok hF (a := al) (by omega)
    have q1 := eqRingActS_ok hF (a := al) (by omega)
    have q2 := eqRingReplyS_ok hF hq
    simp only [t1, Option.bind_some, wholeR_S hF, wholeR_I hF, eqRing_ok hF hp, q1, q2, k1, k2, k3, k4, k5, d1, d2, d3, Bool.not_true, Bool.not_false, cond_true, cond_false, Bool.or_false, Bool.false_or, decide_true]
  · rw [if_neg h, decide_eq_true (by omega)]; rfl
theorem pure : Pure := fun n m al _ _ hp => ⟨2097152, main (Nat.le_refl _) hp.1⟩
end Go.Proofs.Ytpkdolmbhfmjcaa.FnExactRingRun
