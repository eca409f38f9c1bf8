/- A ring hands over all that was posted, in order, and counts what is lost: the law's plain statement. -/
import Derived.Test.YtpkdolmbhfmjcaaFnRingS
import Derived.Test.YtpkdolmbhfmjcaaGwP
set_option linter.unusedVariables false
set_option linter.unusedSimpArgs false
set_option linter.unusedSectionVars false
namespace Go.Proofs.Ytpkdolmbhfmjcaa.FnRing
open Go.RowKit Go.Proofs.Gw
/-! ### What is drawn from bytes -/
def Byt (c : List Int) : Prop := c.length ≤ 1048576 ∧ ∀ x ∈ c, 0 ≤ x ∧ x ≤ 255
def SrcOK (c : List Int) (b : Int) (s : spec_l00Src) : Prop := s.code = c ∧ (0 ≤ s.at_ ∧ s.at_ ≤ b) ∧ 0 ≤ s.seed ∧ s.seed < 2147483648
theorem SrcOK.mk {c : List Int} {b b' : Int} {s : spec_l00Src} (h : SrcOK c b s) (hb : b ≤ b') : SrcOK c b' s := ⟨h.1, ⟨h.2.1.1, by have := h.2.1.2; omega⟩, h.2.2⟩
theorem ix_byt {c : List Int} (hc : Byt c) {i : Int} (h0 : 0 ≤ i) (h1 : i < (c.length : Int)) : 0 ≤ ix c i ∧ ix c i ≤ 255 := by
  apply hc.2
  have : i.toNat < c.length := by omega
  simp [ix, List.getD_eq_getElem?_getD, List.getElem?_eq_getElem this]
theorem tmod_in {a n : Int} (h0 : 0 ≤ a) (hn : 1 ≤ n) : 0 ≤ Int.tmod a n ∧ Int.tmod a n < n := by
  rw [Int.tmod_eq_emod_of_nonneg h0]
  exact ⟨Int.emod_nonneg _ (by omega), Int.emod_lt_of_pos _ (by omega)⟩
theorem tdiv_in {a n : Int} (h0 : 0 ≤ a) (hn : 1 ≤ n) : 0 ≤ Int.tdiv a n ∧ Int.tdiv a n ≤ a := by
  rw [Int.tdiv_eq_ediv_of_nonneg h0]
  exact ⟨Int.ediv_nonneg h0 (by omega), Int.ediv_le_self n h0⟩
theorem byte_ok {c : List Int} {b : Int} {s : spec_l00Src} (hc : Byt c) (hs : SrcOK c b s) (hb : b ≤ 1099511627776) : T (spec_l00Src_byte s) fun r => (0 ≤ r.1 ∧ r.1 ≤ 255) ∧ SrcOK c (b + 1) r.2 := by
  obtain ⟨rfl, ⟨h1, h2⟩, h3, h4⟩ := hs
  unfold spec_l00Src_byte
  have hl := hc.1
  have w1 : IntKind.wrap .i64 (s.at_ + 1) = s.at_ + 1 := wr (by omega)
  have w2 : IntKind.wrap .i64 (s.at_ + 1 - 1) = s.at_ + 1 - 1 := wr (by omega)
  rw [w1, w2]
  refine T_bif (fun e => ?_) (fun e => T_bif (fun e' => ?_) (fun e' => ?_))
  · have e := of_decide_eq_true e
    have hx := ix_byt hc (i := s.at_ + 1 - 1) (by omega) (by omega)
    have hq := tmod_in (a := s.seed * 31 + ix s.code (s.at_ + 1 - 1) + 7) (n := 2147483648) (by omega) (by omega)
    repeat rw [gd_pos (by first | assumption | omega | (intro; first | assumption | omega) | (intro h; cases h; done) | (simp; done) | (simp; omega) | (intros; simp at *; omega))]
    simp (disch := omega) only [wr]
    exact T_some ⟨hx, rfl, ⟨by simp only; omega, by simp only; omega⟩, hq⟩
  · exact T_some ⟨by simp, rfl, ⟨by simp only; omega, by simp only; omega⟩, h3, h4⟩
  · have hq := tmod_in (a := s.seed * 1103515245 + 12345) (n := 2147483648) (by omega) (by omega)
    have hd := tdiv_in (a := Int.tmod (s.seed * 1103515245 + 12345) 2147483648) (n := 65536) hq.1 (by omega)
    simp (disch := omega) only [wr]
    have hr := tmod_in (a := Int.tdiv (Int.tmod (s.seed * 1103515245 + 12345) 2147483648) 65536) (n := 256) hd.1 (by omega)
    exact T_some ⟨by simp only; omega, rfl, ⟨by simp only; omega, by simp only; omega⟩, hq⟩
theorem next_ok {c : List Int} {b : Int} {s : spec_l00Src} (hc : Byt c) (hs : SrcOK c b s) (hb : b ≤ 1099511627700) (n : Int) : T (spec_l00Src_next s n) fun r => (0 ≤ r.1 ∧ (1 ≤ n → r.1 < n)) ∧ SrcOK c (b + 3) r.2 := by
  unfold spec_l00Src_next
  refine T_bif (fun e => ?_) (fun e => T_bif (fun e' => ?_) (fun e' => ?_))
  · have e := of_decide_eq_true e
    exact T_some ⟨⟨by simp, fun h => by simp only; omega⟩, hs.mk (by omega)⟩
  · have e := of_decide_eq_false e
    refine T_use (byte_ok hc hs (by omega)) fun r h => ?_
    obtain ⟨h1, h2⟩ := h
    repeat rw [gd_pos (by first | assumption | omega | (intro; first | assumption | omega) | (intro h; cases h; done) | (simp; done) | (simp; omega) | (intros; simp at *; omega))]
    have := tmod_in (a := r.1) (n := n) (by omega) (by omega)
    refine T_some ⟨⟨this.1, fun _ => this.2⟩, ?_⟩
    exact ⟨hs.1, ⟨h2.2.1.1, by have := h2.2.1.2; simp only; omega⟩, h2.2.2⟩
  · have e := of_decide_eq_false e
    have k : ∀ {b : Int} {t : spec_l00Src}, SrcOK c b t → SrcOK c b (spec_l00Src.mk s.code t.at_ t.seed) := fun h => ⟨hs.1, h.2⟩
    refine T_use (byte_ok hc hs (by omega)) fun r h => ?_
    refine T_use (byte_ok hc (k h.2) (by omega)) fun r' h' => ?_
    refine T_use (byte_ok hc (k h'.2) (by omega)) fun r'' h'' => ?_
    have := h.1; have := h'.1; have := h''.1
    repeat rw [gd_pos (by first | assumption | omega | (intro; first | assumption | omega) | (intro h; cases h; done) | (simp; done) | (simp; omega) | (intros; simp at *; omega))]
    simp (disch := omega) only [wr]
    have := tmod_in (a := r.1 * 65536 + r'.1 * 256 + r''.1) (n := n) (by omega) (by omega)
    refine T_some ⟨⟨this.1, fun _ => this.2⟩, ?_⟩
    have h2 := h''.2
    exact ⟨hs.1, ⟨h2.2.1.1, by have := h2.2.1.2; simp only; omega⟩, h2.2.2⟩
theorem source_ok {c : List Int} (hc : Byt c) : T (spec_l00Source c) fun s => SrcOK c 0 s := by
  unfold spec_l00Source
  have := tmod_in (a := (c.length : Int)) (n := 1000) (by omega) (by omega)
  exact T_some ⟨rfl, ⟨by simp, by simp⟩, by simp only; omega, by simp only; omega⟩
theorem size_ok {c : List Int} {b : Int} {s : spec_l00Src} (hc : Byt c) (hs : SrcOK c b s) (n : Int) (hn : 1 ≤ n) : T (spec_l00Src_size s n) fun r => 1 ≤ r ∧ r ≤ n := by
  obtain ⟨rfl, h1, h2⟩ := hs
  have hl := hc.1
  unfold spec_l00Src_size
  have hd := tdiv_in (a := (s.code.length : Int)) (n := 12) (by omega) (by omega)
  simp (disch := omega) only [wr]
  refine T_some ?_
  unfold iMin
  split <;> omega
theorem byt_of {c : List Int} (h : okT (inK .u8) c) (hl : c.length ≤ 1048576) : Byt c := ⟨hl, fun x hx => by
  have := h.2 x hx
  have h1 : (IntKind.u8).min = 0 := by decide
  have h2 : (IntKind.u8).max = 255 := by decide
  unfold inK at this
  omega⟩
theorem at_ok {c : List Int} (hc : Byt c) {i n : Int} (hi : 0 ≤ i ∧ i ≤ 1000000) : T (laws_at c i n) fun r => 0 ≤ r ∧ (1 ≤ n → r < n) := by
  have hl := hc.1
  unfold laws_at
  refine T_bif (fun e => ?_) (fun e => T_bif (fun e' => ?_) (fun e' => ?_))
  · have e := of_decide_eq_true e
    exact T_some ⟨by omega, by omega⟩
  · have e := of_decide_eq_false e
    rw [gd_pos (by omega), wr (by omega)]
    have := tmod_in (a := i * 7) (n := n) (by omega) (by omega)
    exact T_some ⟨this.1, fun _ => this.2⟩
  · have e := of_decide_eq_false e
    have e' := of_decide_eq_false e'
    have w1 : IntKind.wrap .i64 (i + 1) = i + 1 := wr (by omega)
    rw [w1]
    have q1 := tmod_in (a := i) (n := (c.length : Int)) (by omega) (by omega)
    have q2 := tmod_in (a := i + 1) (n := (c.length : Int)) (by omega) (by omega)
    have x1 := ix_byt hc q1.1 q1.2
    have x2 := ix_byt hc q2.1 q2.2
    have q3 := tdiv_in (a := i) (n := (c.length : Int)) (by omega) (by omega)
    rw [gd_pos (by omega), gd_pos (by omega), gd_pos (by omega), gd_pos (by omega), gd_pos (by omega), gd_pos (by omega)]
    simp (disch := omega) only [wr]
    have q4 := tmod_in (a := ix c (Int.tmod i (c.length : Int)) * 31 + ix c (Int.tmod (i + 1) (c.length : Int)) + Int.tdiv i (c.length : Int)) (n := n) (by omega) (by omega)
    exact T_some ⟨q4.1, fun _ => q4.2⟩
theorem chance_ok {c : List Int} {b : Int} {s : spec_l00Src} (hc : Byt c) (hs : SrcOK c b s) (hb : b ≤ 1099511627700) (n : Int) : T (spec_l00Src_chance s n) fun r => SrcOK c (b + 3) r.2 := by
  unfold spec_l00Src_chance
  refine T_use (next_ok hc hs hb n) fun r h => T_some ⟨hs.1, h.2.2⟩
theorem ringActs_l1 {F : Nat} {c : List Int} (hc : Byt c) {a0 : spec_l00Src} (ha : a0.code = c) : ∀ (m : Nat) (k : Nat) (p q : Int) (al : List impl_RingAct) (n : Int), n.toNat ≤ m → m < k → n ≤ 1000000 → SrcOK c (1000000000 - 12 * n) ⟨c, p, q⟩ → al.length ≤ 300 → T (spec_l00Src_ringActs_l1 F a0 k p q al n) fun r => r.2.2.length ≤ 300
  | m, 0, _, _, _, _, _, hk, _, _, _ => absurd hk (Nat.not_lt_zero _)
  | m, k + 1, p, q, al, n, hm, hk, hn, hs, hl => by
    simp only [spec_l00Src_ringActs_l1, ha]
    refine T_bif (fun e => ?_) (fun e => T_some hl)
    simp only [Bool.and_eq_true, decide_eq_true_eq] at e
    have kk : ∀ {b : Int} {t : spec_l00Src}, SrcOK c b t → SrcOK c b (spec_l00Src.mk c t.at_ t.seed) := fun h => ⟨rfl, h.2⟩
    refine T_use (R := fun r => SrcOK c (1000000000 - 12 * n + 12) ⟨c, r.1, r.2.1⟩ ∧ r.2.2.length ≤ 300) ?_ fun r h => ?_
    · refine T_use (next_ok hc hs (by omega) 7) fun r0 h0 => ?_
      refine T_use (R := fun _ => True) (T_bif (fun _ => T_some trivial) (fun _ => T_some trivial)) fun z _ => ?_
      refine T_bif (fun _ => ?_) (fun _ => T_bif (fun _ => ?_) (fun _ => T_bif (fun _ => ?_) (fun _ => ?_)))
      · refine T_use (next_ok hc (kk h0.2) (by omega) 5) fun r1 h1 => ?_
        rw [gd_pos (by simp; omega)]
        exact T_some ⟨(kk h1.2).mk (by omega), by simp; omega⟩
      · refine T_use (next_ok hc (kk h0.2) (by omega) 5) fun r1 h1 => ?_
        rw [gd_pos (by simp; omega)]
        exact T_some ⟨(kk h1.2).mk (by omega), by simp; omega⟩
      · refine T_use (chance_ok hc (kk h0.2) (by omega) 3) fun r1 h1 => ?_
        refine T_bif (fun _ => ?_) (fun _ => ?_)
        · refine T_use (next_ok hc (kk h1) (by omega) 2) fun r2 h2 => ?_
          have h8 := h2.1.2 (by omega)
          have h9 := h2.1.1
          rw [gd_pos (by simp; omega)]
          refine T_use (next_ok hc (kk h2.2) (by omega) 2) fun r3 h3 => ?_
          rw [gd_pos (by simp; omega)]
          exact T_some ⟨(kk h3.2).mk (by omega), by simp; omega⟩
        · exact T_some ⟨(kk h1).mk (by omega), hl⟩
      · refine T_use (next_ok hc (kk h0.2) (by omega) 40) fun r1 h1 => ?_
        rw [gd_pos (by simp; omega)]
        exact T_some ⟨(kk h1.2).mk (by omega), by simp; omega⟩
    · try simp (disch := omega) only [wr]
      exact ringActs_l1 hc ha (m - 1) k _ _ _ _ (by omega) (by omega) (by omega) (h.1.mk (by omega)) h.2
theorem ringActs_ok {F : Nat} (hF : 2097152 ≤ F) {c : List Int} (hc : Byt c) : T (spec_RingActsOf F c) fun r => r.length ≤ 300 := by
  unfold spec_RingActsOf
  refine T_use (source_ok hc) fun s hs => ?_
  unfold spec_l00Src_ringActs
  refine T_use (R := fun r => r.1.length ≤ 300) ?_ fun r h => T_some h
  refine T_bind (T_bind ?_)
  refine T_mono (size_ok hc hs 40 (by omega)) fun z hz => ?_
  have wz : IntKind.wrap .i64 (z + 4) = z + 4 := wr (by omega)
  rw [wz]
  refine T_bind (T_mono (next_ok hc hs (by omega) (z + 4)) fun r h => ?_)
  have h1 := h.1.2 (by omega)
  refine T_mono (ringActs_l1 hc hs.1 50 F _ _ [] r.1 (by omega) (by omega) (by omega) ⟨rfl, ⟨h.2.2.1.1, by have := h.2.2.1.2; simp only; omega⟩, h.2.2.2⟩ (by simp)) fun r h => T_some h
theorem index_l1 {F : Nat} {l : List Int} {x : Int} (hl : l.length ≤ 1500000) : ∀ (r d : List Int) (k : Nat), l = d ++ r → r.length < k → T (slices_Index___int_int__l1 F l x k (d.length : Int)) fun q => if x ∈ r then ∃ i, q = .out i ∧ 0 ≤ i else q = .go ()
  | [], d, k, e, hk => by
    obtain ⟨k, rfl⟩ : ∃ m, k = m + 1 := ⟨k - 1, by omega⟩
    have : l.length = d.length := by rw [e]; simp
    simp only [slices_Index___int_int__l1]
    rw [decide_eq_false (by omega), cond_false]
    exact T_some (by simp)
  | y :: r, d, k, e, hk => by
    obtain ⟨k, rfl⟩ : ∃ m, k = m + 1 := ⟨k - 1, by omega⟩
    have ll : l.length = d.length + (r.length + 1) := by rw [e]; simp
    have e' : ix l (d.length : Int) = y := by rw [e]; exact ix_mid rfl
    simp only [List.length_cons] at hk
    simp only [slices_Index___int_int__l1, e']
    rw [decide_eq_true (by omega), cond_true, gd_pos (by omega), wr (by omega)]
    by_cases h : x = y
    · rw [decide_eq_true h, cond_true]
      exact T_some (by rw [if_pos (by simp [h])]; exact ⟨_, rfl, by omega⟩)
    · rw [decide_eq_false h, cond_false]
      have ih := index_l1 (F := F) (x := x) hl r (d ++ [y]) k (by rw [e]; simp) (by omega)
      simp only [List.length_append, List.length_cons, List.length_nil, Int.natCast_add] at ih
      refine T_mono ih fun q hq => ?_
      have : (x ∈ y :: r) ↔ x ∈ r := by simp [h]
      simpa [this] using hq
theorem contains_ok {F : Nat} (hF : 2097152 ≤ F) {l : List Int} (x : Int) (hl : l.length ≤ 1500000) : slices_Contains___int_int_ F l x = some (decide (x ∈ l)) := by
  unfold slices_Contains___int_int_ slices_Index___int_int_
  obtain ⟨q, e, hq⟩ := index_l1 (F := F) (x := x) hl l [] F rfl (by omega)
  simp only [List.length_nil, Int.natCast_zero] at e
  rw [e]
  by_cases h : x ∈ l
  · rw [if_pos h] at hq
    obtain ⟨i, rfl, hi⟩ := hq
    simp [Fl.on, hi, h]
  · rw [if_neg h] at hq
    subst hq
    simp [Fl.on, h]
theorem has_l1 {F : Nat} {l : List Int} {x : Int} (hl : l.length ≤ 1500000) : ∀ (r d : List Int) (k : Nat), l = d ++ r → r.length < k → spec_l13Has_l1 F l x k (d.length : Int) = some (if x ∈ r then .out true else .go ())
  | [], d, k, e, hk => by
    obtain ⟨k, rfl⟩ : ∃ m, k = m + 1 := ⟨k - 1, by omega⟩
    have : l.length = d.length := by rw [e]; simp
    simp only [spec_l13Has_l1]
    rw [decide_eq_false (by omega), cond_false]
    simp
  | y :: r, d, k, e, hk => by
    obtain ⟨k, rfl⟩ : ∃ m, k = m + 1 := ⟨k - 1, by omega⟩
    have ll : l.length = d.length + (r.length + 1) := by rw [e]; simp
    have e' : ix l (d.length : Int) = y := by rw [e]; exact ix_mid rfl
    simp only [List.length_cons] at hk
    simp only [spec_l13Has_l1, e']
    rw [decide_eq_true (by omega), cond_true, gd_pos (by omega), wr (by omega)]
    by_cases h : y = x
    · rw [decide_eq_true h, cond_true, if_pos (by simp [h])]
    · rw [decide_eq_false h, cond_false]
      have ih := has_l1 (F := F) (x := x) hl r (d ++ [y]) k (by rw [e]; simp) (by omega)
      simp only [List.length_append, List.length_cons, List.length_nil, Int.natCast_add] at ih
      have : (x ∈ y :: r) ↔ x ∈ r := by simp [Ne.symm h]
      simpa [this] using ih
theorem has_ok {F : Nat} (hF : 2097152 ≤ F) {l : List Int} (x : Int) (hl : l.length ≤ 1500000) : spec_l13Has F l x = some (decide (x ∈ l)) := by
  have := has_l1 (F := F) (x := x) hl l [] F rfl (by omega)
  simp only [List.length_nil, Int.natCast_zero] at this
  unfold spec_l13Has
  rw [this]
  by_cases h : x ∈ l <;> simp [h, Fl.on]
/-! ### One act upon a ring -/
/-- A ring that can be acted upon. -/
def InR (r : impl_Ring) : Prop := (1 ≤ r.Size ∧ r.Size ≤ 16) ∧ (1 ≤ r.Every ∧ r.Every ≤ 16) ∧ ((r.Posted.length + r.Done.length : Nat) : Int) ≤ r.Size ∧ (0 ≤ r.Lost ∧ r.Lost ≤ 1000000000) ∧ (0 ≤ r.Signals ∧ r.Signals ≤ 1000000000) ∧ 0 ≤ r.Pending ∧ r.Pending < r.Every
/-- Something arrives. -/
def arriveR (r : impl_Ring) (o : List Int) : impl_Ring × List Int :=
  match r.Posted with
  | [] => (⟨r.Size, r.Up, r.Posted, r.Done, iMin (r.Lost + 1) 1000000000, r.Pending, r.Every, r.Signals⟩, o)
  | x :: t => if r.Up then
      (if r.Pending + 1 = r.Every then (⟨r.Size, r.Up, t, r.Done ++ [x], r.Lost, 0, r.Every, iMin (r.Signals + 1) 1000000000⟩, o ++ [x])
       else (⟨r.Size, r.Up, t, r.Done ++ [x], r.Lost, r.Pending + 1, r.Every, r.Signals⟩, o ++ [x]))
    else (⟨r.Size, r.Up, r.Posted, r.Done, iMin (r.Lost + 1) 1000000000, r.Pending, r.Every, r.Signals⟩, o)
def arrivesR : Nat → impl_Ring → List Int → impl_Ring × List Int
  | 0, r, o => (r, o)
  | n + 1, r, o => arrivesR n (arriveR r o).1 (arriveR r o).2
theorem iMin_le (a b : Int) : iMin a b ≤ a ∧ iMin a b ≤ b ∧ (iMin a b = a ∨ iMin a b = b) := by
  unfold iMin; split <;> omega
theorem arriveR_in {r : impl_Ring} (h : InR r) (o : List Int) : InR (arriveR r o).1 ∧ (arriveR r o).1.Size = r.Size ∧ (arriveR r o).1.Up = r.Up ∧ (arriveR r o).1.Every = r.Every ∧ (arriveR r o).2.length ≤ o.length + 1 := by
  obtain ⟨h1, h2, h3, h4, h5, h6⟩ := h
  have i1 := iMin_le (r.Lost + 1) 1000000000
  have i2 := iMin_le (r.Signals + 1) 1000000000
  unfold arriveR
  cases hp : r.Posted with
  | nil =>
    rw [hp] at h3
    refine ⟨⟨h1, h2, ?_, ?_, h5, h6⟩, rfl, rfl, rfl, by simp⟩
    · simpa using h3
    · simp only; omega
  | cons x t =>
    rw [hp] at h3
    simp only [List.length_cons] at h3
    simp only
    split
    · split
      · refine ⟨⟨h1, h2, ?_, h4, ?_, ?_⟩, rfl, rfl, rfl, by simp⟩
        · simp only [List.length_append, List.length_cons, List.length_nil]; omega
        · simp only; omega
        · simp only; omega
      · refine ⟨⟨h1, h2, ?_, h4, h5, ?_⟩, rfl, rfl, rfl, by simp⟩
        · simp only [List.length_append, List.length_cons, List.length_nil]; omega
        · simp only; omega
    · refine ⟨⟨h1, h2, ?_, ?_, h5, h6⟩, rfl, rfl, rfl, by simp⟩
      · simp only [List.length_cons]; omega
      · simp only; omega
theorem arrivesR_in : ∀ (n : Nat) {r : impl_Ring} (h : InR r) (o : List Int), InR (arrivesR n r o).1 ∧ (arrivesR n r o).1.Size = r.Size ∧ (arrivesR n r o).1.Up = r.Up ∧ (arrivesR n r o).1.Every = r.Every ∧ (arrivesR n r o).2.length ≤ o.length + n
  | 0, r, h, o => ⟨h, rfl, rfl, rfl, by simp [arrivesR]⟩
  | n + 1, r, h, o => by
    have h1 := arriveR_in h o
    have h2 := arrivesR_in n h1.1 (arriveR r o).2
    exact ⟨h2.1, h2.2.1.trans h1.2.1, h2.2.2.1.trans h1.2.2.1, h2.2.2.2.1.trans h1.2.2.2.1, by have := h1.2.2.2.2; have := h2.2.2.2.2; simp only [arrivesR]; omega⟩
theorem arrive_ok {r : impl_Ring} (h : InR r) {o : List Int} (ho : o.length ≤ 1000) : impl_Ring_arrive r o = some ((arriveR r o).2, (arriveR r o).1) := by
  obtain ⟨h1, h2, h3, h4, h5, h6⟩ := h
  have w1 : IntKind.wrap .i64 (r.Lost + 1) = r.Lost + 1 := wr (by omega)
  have w2 : IntKind.wrap .i64 (r.Pending + 1) = r.Pending + 1 := wr (by omega)
  have w3 : IntKind.wrap .i64 (r.Signals + 1) = r.Signals + 1 := wr (by omega)
  unfold impl_Ring_arrive arriveR
  rw [w1, w2, w3]
  obtain ⟨sz, up, po, dn, lo, pe, ev, si⟩ := r
  dsimp only at *
  cases po with
  | nil => simp
  | cons x t =>
    simp only [List.length_cons] at h3
    cases up with
    | false => simp
    | true =>
      have e1 : decide (((x :: t).length : Int) = 0) = false := decide_eq_false (by simp only [List.length_cons]; omega)
      simp only [e1, Bool.not_true, Bool.or_false, cond_false]
      rw [gd_pos (by simp), gd_pos (by simp only [List.length_cons]; omega), gd_pos (by simp only [List.length_cons, List.length_nil]; omega)]
      by_cases hp : pe + 1 = ev
      · simp only [decide_eq_true hp, cond_true, Option.bind_some]
        rw [gd_pos (by simp; omega)]
        simp [hp, ix, slc, List.take_of_length_le]
      · simp only [decide_eq_false hp, cond_false, Option.bind_some]
        rw [gd_pos (by simp; omega)]
        simp [hp, ix, slc, List.take_of_length_le]
theorem actR_l1 {F : Nat} {a0 : impl_Ring} {a : impl_RingAct} (hN : a.N ≤ 100) : ∀ (n : Nat) (r : impl_Ring) (o : List Int) (i : Int) (k : Nat), InR r → r.Size = a0.Size → r.Up = a0.Up → r.Every = a0.Every → 0 ≤ i → i + n = a.N → o.length ≤ i → n < k →
    impl_Ring_act_l1 F a0 a k r.Posted r.Done r.Lost r.Pending r.Signals o i = some ((arrivesR n r o).1.Posted, (arrivesR n r o).1.Done, (arrivesR n r o).1.Lost, (arrivesR n r o).1.Pending, (arrivesR n r o).1.Signals, (arrivesR n r o).2)
  | 0, r, o, i, k, hr, q1, q2, q3, h0, hi, ho, hk => by
    obtain ⟨k, rfl⟩ : ∃ m, k = m + 1 := ⟨k - 1, by omega⟩
    simp only [impl_Ring_act_l1]
    rw [decide_eq_false (by omega), cond_false]; rfl
  | n + 1, r, o, i, k, hr, q1, q2, q3, h0, hi, ho, hk => by
    obtain ⟨k, rfl⟩ : ∃ m, k = m + 1 := ⟨k - 1, by omega⟩
    have e : (⟨a0.Size, a0.Up, r.Posted, r.Done, r.Lost, r.Pending, a0.Every, r.Signals⟩ : impl_Ring) = r := by rw [← q1, ← q2, ← q3]
    have hn := arriveR_in hr o
    simp only [impl_Ring_act_l1]
    rw [decide_eq_true (by omega), cond_true, e, arrive_ok hr (by omega), Option.bind_some, wr (by omega)]
    exact actR_l1 hN n (arriveR r o).1 (arriveR r o).2 (i + 1) k hn.1 (hn.2.1.trans q1) (hn.2.2.1.trans q2) (hn.2.2.2.1.trans q3) (by omega) (by omega) (by have := hn.2.2.2.2; omega) (by omega)
def stepR (r : impl_Ring) (a : impl_RingAct) : impl_Ring × impl_RingReply :=
  if a.Kind = 1 then
    (if ¬ (0 ≤ a.N ∧ a.N ≤ 999) then (r, ⟨4, []⟩) else if a.N ∈ r.Posted ∨ a.N ∈ r.Done then (r, ⟨9, []⟩) else if ((r.Posted.length + r.Done.length : Nat) : Int) = r.Size then (r, ⟨7, []⟩)
     else (⟨r.Size, r.Up, r.Posted ++ [a.N], r.Done, r.Lost, r.Pending, r.Every, r.Signals⟩, ⟨0, []⟩))
  else if a.Kind = 2 then (if ¬ (0 ≤ a.N ∧ a.N ≤ 100) then (r, ⟨4, []⟩) else ((arrivesR a.N.toNat r []).1, ⟨0, (arrivesR a.N.toNat r []).2⟩))
  else if a.Kind = 3 then (if a.N ≤ 0 then (r, ⟨4, []⟩) else
    (⟨r.Size, r.Up, r.Posted, r.Done.drop (iMin a.N r.Done.length).toNat, r.Lost, iMin r.Pending ((r.Done.drop (iMin a.N r.Done.length).toNat).length : Int), r.Every, r.Signals⟩, ⟨0, r.Done.take (iMin a.N r.Done.length).toNat⟩))
  else if a.Kind = 4 then (⟨r.Size, r.Up, [], [], r.Lost, 0, r.Every, r.Signals⟩, ⟨0, r.Done ++ r.Posted⟩)
  else if a.Kind = 5 then (⟨r.Size, decide (a.N = 1), r.Posted, r.Done, r.Lost, r.Pending, r.Every, r.Signals⟩, ⟨0, []⟩)
  else (r, ⟨3, []⟩)
theorem actR_ok {F : Nat} (hF : 2097152 ≤ F) {r : impl_Ring} (h : InR r) (a : impl_RingAct) : impl_Ring_act F r a = some ((stepR r a).2, (stepR r a).1) := by
  have hh := h
  obtain ⟨h1, h2, h3, h4, h5, h6⟩ := h
  unfold impl_Ring_act stepR
  by_cases k1 : a.Kind = 1
  · simp only [k1, decide_true, cond_true, if_true, impl_Ring_post, impl_inRange, Option.bind_some, contains_ok hF a.N (l := r.Posted) (by omega), contains_ok hF a.N (l := r.Done) (by omega)]
    have w1 : IntKind.wrap .i64 ((r.Posted.length : Int) + (r.Done.length : Int)) = ((r.Posted.length + r.Done.length : Nat) : Int) := by rw [wr (by omega)]; omega
    rw [w1]
    by_cases q1 : 0 ≤ a.N ∧ a.N ≤ 999
    · have hd : (decide (0 ≤ a.N) && decide (a.N ≤ 999)) = true := by simp [q1]
      simp only [hd, q1, not_true, if_false, Bool.not_true, cond_false]
      by_cases q2 : a.N ∈ r.Posted
      · simp [q2, Fl.on]
      · by_cases q3 : a.N ∈ r.Done
        · simp [q2, q3, Fl.on]
        · simp only [q2, q3, decide_false, Bool.not_false, cond_true, Option.bind_some, Bool.or_self, cond_false, or_self, if_false]
          by_cases q4 : ((r.Posted.length + r.Done.length : Nat) : Int) = r.Size
          · rw [decide_eq_true q4, if_pos q4]; rfl
          · rw [decide_eq_false q4, if_neg q4, cond_false, gd_pos (by simp; omega)]; rfl
    · have hd : (decide (0 ≤ a.N) && decide (a.N ≤ 999)) = false := by simp; omega
      simp [hd, q1, Fl.on]
  by_cases k2 : a.Kind = 2
  · simp only [k2, decide_true, cond_true, if_true, impl_inRange, Option.bind_some]
    by_cases q1 : 0 ≤ a.N ∧ a.N ≤ 100
    · have hd : (decide (0 ≤ a.N) && decide (a.N ≤ 100)) = true := by simp [q1]
      have := actR_l1 (F := F) (a0 := r) (a := a) q1.2 a.N.toNat r [] 0 F hh rfl rfl rfl (by omega) (by omega) (by simp) (by omega)
      have hn := arrivesR_in a.N.toNat hh []
      simp only [hd, Bool.not_true, cond_false, this, Option.bind_some]
      rw [show decide ((2 : Int) = 1) = false from rfl, if_neg (by decide), if_neg (by simp [q1])]
      simp only [cond_false, Option.bind_some, Fl.on]
      rw [← hn.2.1, ← hn.2.2.1, ← hn.2.2.2.1]
    · have hd : (decide (0 ≤ a.N) && decide (a.N ≤ 100)) = false := by simp; omega
      simp [hd, q1, Fl.on]
  by_cases k3 : a.Kind = 3
  · simp only [k3]
    by_cases q1 : a.N ≤ 0
    · simp [q1, Fl.on]
    · have i1 := iMin_le a.N (r.Done.length : Int)
      simp only [if_true, decide_true, cond_true, decide_eq_false q1, cond_false, if_neg q1, show decide ((3 : Int) = 1) = false from rfl, show decide ((3 : Int) = 2) = false from rfl]
      rw [gd_pos (by omega), gd_pos (by simp [slc]; omega), gd_pos (by omega)]
      simp [slc, Fl.on, List.take_of_length_le]
  by_cases k4 : a.Kind = 4
  · simp only [k4]
    simp only [if_true, decide_true, cond_true, cond_false, show decide ((4 : Int) = 1) = false from rfl, show decide ((4 : Int) = 2) = false from rfl, show decide ((4 : Int) = 3) = false from rfl]
    rw [gd_pos (by simp; omega), gd_pos (by simp; omega)]
    simp [Fl.on]
  by_cases k5 : a.Kind = 5
  · simp [k5, Fl.on]
  · simp [k1, k2, k3, k4, k5, Fl.on]
theorem ownR_ok {r : impl_Ring} (h1 : r.Posted.length ≤ 1500000) (h2 : r.Done.length ≤ 1500000) : spec_l13Own r = some r := by
  unfold spec_l13Own
  rw [gd_pos (by simp; omega), gd_pos (by simp; omega)]
  simp
theorem stepR_l1 {F : Nat} {a0 : impl_Ring} {a : impl_RingAct} (hN : a.N ≤ 100) : ∀ (n : Nat) (r : impl_Ring) (o : List Int) (i : Int) (k : Nat), InR r → r.Size = a0.Size → r.Up = a0.Up → r.Every = a0.Every → 0 ≤ i → i + n = a.N → o.length ≤ i → n < k →
    spec_l13Step_l1 F a a0 k r.Posted r.Done r.Lost r.Pending r.Signals o i = some (a0.Up, (arrivesR n r o).1.Posted, (arrivesR n r o).1.Done, (arrivesR n r o).1.Lost, (arrivesR n r o).1.Pending, (arrivesR n r o).1.Signals, 0, (arrivesR n r o).2)
  | 0, r, o, i, k, hr, q1, q2, q3, h0, hi, ho, hk => by
    obtain ⟨k, rfl⟩ : ∃ m, k = m + 1 := ⟨k - 1, by omega⟩
    simp only [spec_l13Step_l1]
    rw [decide_eq_false (by omega), cond_false]; rfl
  | n + 1, r, o, i, k, hr, q1, q2, q3, h0, hi, ho, hk => by
    obtain ⟨k, rfl⟩ : ∃ m, k = m + 1 := ⟨k - 1, by omega⟩
    have hn := arriveR_in hr o
    have ih := stepR_l1 (F := F) hN n (arriveR r o).1 (arriveR r o).2 (i + 1) k hn.1 (hn.2.1.trans q1) (hn.2.2.1.trans q2) (hn.2.2.2.1.trans q3) (by omega) (by omega) (by have := hn.2.2.2.2; omega) (by omega)
    obtain ⟨h1, h2, h3, h4, h5, h6⟩ := hr
    have w0 : IntKind.wrap .i64 (i + 1) = i + 1 := wr (by omega)
    have w1 : IntKind.wrap .i64 (r.Lost + 1) = r.Lost + 1 := wr (by omega)
    have w2 : IntKind.wrap .i64 (r.Pending + 1) = r.Pending + 1 := wr (by omega)
    have w3 : IntKind.wrap .i64 (r.Signals + 1) = r.Signals + 1 := wr (by omega)
    simp only [spec_l13Step_l1]
    rw [decide_eq_true (by omega), cond_true, w0, w1, w2, w3, ← q2, ← q3]
    rw [← q2] at ih
    simp only [arrivesR]
    rw [← ih]
    clear ih hn w0 w1 w2 w3
    unfold arriveR
    obtain ⟨sz, up, po, dn, lo, pe, ev, si⟩ := r
    dsimp only at *
    cases po with
    | nil => simp
    | cons x t =>
      simp only [List.length_cons] at h3
      cases up with
      | false => simp
      | true =>
        have e1 : decide (((x :: t).length : Int) = 0) = false := decide_eq_false (by simp only [List.length_cons]; omega)
        simp only [e1, Bool.not_true, Bool.or_false, cond_false]
        rw [gd_pos (by simp), gd_pos (by simp only [List.length_cons, List.length_nil]; omega), gd_pos (by simp), gd_pos (by simp only [List.length_cons, List.length_nil]; omega), gd_pos (by simp only [List.length_cons]; omega), gd_pos (by simp [slc]; omega)]
        by_cases hp : pe + 1 = ev
        · simp [hp, ix, slc, List.take_of_length_le]
        · simp [hp, ix, slc, List.take_of_length_le]
theorem stepR_ok {F : Nat} (hF : 2097152 ≤ F) {r : impl_Ring} (h : InR r) (a : impl_RingAct) : spec_l13Step F r a = some (stepR r a) := by
  have hh := h
  obtain ⟨h1, h2, h3, h4, h5, h6⟩ := h
  unfold spec_l13Step stepR
  rw [ownR_ok (by omega) (by omega), Option.bind_some]
  by_cases k1 : a.Kind = 1
  · simp only [k1, decide_true, cond_true, if_true, spec_l01In, Option.bind_some, has_ok hF a.N (l := r.Posted) (by omega), has_ok hF a.N (l := r.Done) (by omega)]
    have w1 : IntKind.wrap .i64 ((r.Posted.length : Int) + (r.Done.length : Int)) = ((r.Posted.length + r.Done.length : Nat) : Int) := by rw [wr (by omega)]; omega
    rw [w1]
    by_cases q1 : 0 ≤ a.N ∧ a.N ≤ 999
    · have hd : (decide (0 ≤ a.N) && decide (a.N ≤ 999)) = true := by simp [q1]
      simp only [hd, q1, not_true, if_false, Bool.not_true, cond_false]
      by_cases q2 : a.N ∈ r.Posted
      · simp [q2]
      · by_cases q3 : a.N ∈ r.Done
        · simp [q2, q3]
        · simp only [q2, q3, decide_false, Bool.not_false, cond_true, Option.bind_some, Bool.or_self, cond_false, or_self, if_false]
          by_cases q4 : ((r.Posted.length + r.Done.length : Nat) : Int) = r.Size
          · rw [decide_eq_true q4, if_pos q4]; rfl
          · rw [decide_eq_false q4, if_neg q4, cond_false, gd_pos (by simp; omega)]; rfl
    · have hd : (decide (0 ≤ a.N) && decide (a.N ≤ 999)) = false := by simp; omega
      simp [hd, q1]
  by_cases k2 : a.Kind = 2
  · simp only [k2, decide_true, cond_true, if_true, spec_l01In, Option.bind_some]
    by_cases q1 : 0 ≤ a.N ∧ a.N ≤ 100
    · have hd : (decide (0 ≤ a.N) && decide (a.N ≤ 100)) = true := by simp [q1]
      have := stepR_l1 (F := F) (a0 := r) (a := a) q1.2 a.N.toNat r [] 0 F hh rfl rfl rfl (by omega) (by omega) (by simp) (by omega)
      have hn := arrivesR_in a.N.toNat hh []
      simp only [hd, Bool.not_true, cond_false, this, Option.bind_some]
      rw [show decide ((2 : Int) = 1) = false from rfl, if_neg (by decide), if_neg (by simp [q1])]
      simp only [cond_false, Option.bind_some]
      rw [← hn.2.1, ← hn.2.2.1, ← hn.2.2.2.1]
    · have hd : (decide (0 ≤ a.N) && decide (a.N ≤ 100)) = false := by simp; omega
      simp [hd, q1]
  by_cases k3 : a.Kind = 3
  · simp only [k3]
    by_cases q1 : a.N ≤ 0
    · simp [q1, show a.N < 1 by omega]
    · have i1 := iMin_le a.N (r.Done.length : Int)
      simp only [if_true, decide_true, cond_true, decide_eq_false (show ¬ a.N < 1 by omega), cond_false, if_neg q1, show decide ((3 : Int) = 1) = false from rfl, show decide ((3 : Int) = 2) = false from rfl]
      rw [gd_pos (by omega), gd_pos (by simp [slc]; omega), gd_pos (by omega), gd_pos (by simp [slc]; omega)]
      simp [slc, List.take_of_length_le]
  by_cases k4 : a.Kind = 4
  · simp only [k4]
    simp only [if_true, decide_true, cond_true, cond_false, show decide ((4 : Int) = 1) = false from rfl, show decide ((4 : Int) = 2) = false from rfl, show decide ((4 : Int) = 3) = false from rfl]
    rw [gd_pos (by simp; omega), gd_pos (by simp; omega)]
    simp
  by_cases k5 : a.Kind = 5
  · simp [k5]
  · simp [k1, k2, k3, k4, k5]
theorem stepR_in {r : impl_Ring} (h : InR r) (a : impl_RingAct) : InR (stepR r a).1 ∧ (stepR r a).2.List.length ≤ 1000 := by
  have hh := h
  obtain ⟨h1, h2, h3, h4, h5, h6⟩ := h
  have ha := arrivesR_in a.N.toNat hh []
  have i1 := iMin_le a.N (r.Done.length : Int)
  have i2 := iMin_le r.Pending ((r.Done.drop (iMin a.N r.Done.length).toNat).length : Int)
  unfold stepR
  repeat' split
  all_goals try exact ⟨hh, by simp⟩
  · exact ⟨⟨h1, h2, by simp only [List.length_append, List.length_cons, List.length_nil]; omega, h4, h5, h6⟩, by simp⟩
  · exact ⟨ha.1, by have := ha.2.2.2.2; simp only [List.length_nil] at this; simp only; omega⟩
  · exact ⟨⟨h1, h2, by simp only [List.length_drop]; omega, h4, h5, by simp only; omega⟩, by simp only [List.length_take]; omega⟩
  · exact ⟨⟨h1, h2, by simp; omega, h4, h5, by simp only; omega⟩, by simp only [List.length_append]; omega⟩
/-! ### A ring from new, and a run of acts -/
theorem stepR_up {r : impl_Ring} (h : InR r) (a : impl_RingAct) : (stepR r a).1.Size = r.Size ∧ (stepR r a).1.Every = r.Every := by
  have ha := arrivesR_in a.N.toNat h []
  unfold stepR
  repeat' split
  all_goals first
    | exact ⟨rfl, rfl⟩
    | exact ⟨ha.2.1, ha.2.2.2.1⟩
def newR (n e : Int) : impl_Ring × Int := if (1 ≤ n ∧ n ≤ 16) ∧ (1 ≤ e ∧ e ≤ 16) then (⟨n, true, [], [], 0, 0, e, 0⟩, 0) else (⟨0, false, [], [], 0, 0, 0, 0⟩, 4)
theorem newR_I (n e : Int) : impl_NewRing n e = some (newR n e) := by
  unfold impl_NewRing newR
  simp only [impl_inRange, Option.bind_some]
  by_cases q1 : 1 ≤ n ∧ n ≤ 16
  · have d1 : (decide (1 ≤ n) && decide (n ≤ 16)) = true := by simp [q1]
    by_cases q2 : 1 ≤ e ∧ e ≤ 16
    · have d2 : (decide (1 ≤ e) && decide (e ≤ 16)) = true := by simp [q2]
      rw [d1, d2, if_pos ⟨q1, q2⟩]; rfl
    · have d2 : (decide (1 ≤ e) && decide (e ≤ 16)) = false := by simp; omega
      rw [d1, d2, if_neg (fun h => q2 h.2)]; rfl
  · have d1 : (decide (1 ≤ n) && decide (n ≤ 16)) = false := by simp; omega
    rw [d1, if_neg (fun h => q1 h.1)]; rfl
theorem newR_S (n e : Int) : spec_NewRing n e = some (newR n e) := by
  unfold spec_NewRing newR
  simp only [spec_l01In, Option.bind_some]
  by_cases q1 : 1 ≤ n ∧ n ≤ 16
  · have d1 : (decide (1 ≤ n) && decide (n ≤ 16)) = true := by simp [q1]
    by_cases q2 : 1 ≤ e ∧ e ≤ 16
    · have d2 : (decide (1 ≤ e) && decide (e ≤ 16)) = true := by simp [q2]
      rw [d1, d2, if_pos ⟨q1, q2⟩]; rfl
    · have d2 : (decide (1 ≤ e) && decide (e ≤ 16)) = false := by simp; omega
      rw [d1, d2, if_neg (fun h => q2 h.2)]; rfl
  · have d1 : (decide (1 ≤ n) && decide (n ≤ 16)) = false := by simp; omega
    rw [d1, if_neg (fun h => q1 h.1)]; rfl
theorem newR_in {n e : Int} (h : (newR n e).2 = 0) : InR (newR n e).1 ∧ (1 ≤ n ∧ n ≤ 16) ∧ (1 ≤ e ∧ e ≤ 16) := by
  unfold newR at h ⊢
  split at h
  · rename_i h'
    rw [if_pos h']
    exact ⟨⟨h'.1, h'.2, by simp; omega, by simp, by simp, by simp only; omega⟩, h'⟩
  · cases h
def runR : impl_Ring → List impl_RingAct → impl_Ring × List impl_RingReply
  | p, [] => (p, [])
  | p, a :: r => ((runR (stepR p a).1 r).1, (stepR p a).2 :: (runR (stepR p a).1 r).2)
theorem runR_len : ∀ (r : List impl_RingAct) (p : impl_Ring), (runR p r).2.length = r.length
  | [], _ => rfl
  | a :: r, p => by simp [runR, runR_len r]
theorem runR_in : ∀ (r : List impl_RingAct) (p : impl_Ring), InR p → InR (runR p r).1 ∧ (runR p r).1.Size = p.Size ∧ (runR p r).1.Every = p.Every ∧ ∀ x ∈ (runR p r).2, x.List.length ≤ 1000
  | [], p, h => ⟨h, rfl, rfl, by simp [runR]⟩
  | a :: r, p, h => by
    have h0 := stepR_in h a
    have h1 := runR_in r (stepR p a).1 h0.1
    have h2 := stepR_up h a
    exact ⟨h1.1, h1.2.1.trans h2.1, h1.2.2.1.trans h2.2, fun x hx => (List.mem_cons.1 hx).elim (fun e => e ▸ h0.2) (h1.2.2.2 x)⟩
theorem runR_I {F : Nat} (hF : 2097152 ≤ F) {al : List impl_RingAct} (hl : al.length ≤ 300) {q : impl_Ring × Int} : ∀ (r d : List impl_RingAct) (p : impl_Ring) (os : List impl_RingReply) (s : List impl_RingReply) (k : Nat), al = d ++ r → InR p → p.Size = q.1.Size → p.Every = q.1.Every → r.length < k → os.length = d.length → s.length = r.length →
    impl_RingRun_l1 F al q k p.Up p.Posted p.Done p.Lost p.Pending p.Signals (os ++ s) (d.length : Int) = some ((runR p r).1.Up, (runR p r).1.Posted, (runR p r).1.Done, (runR p r).1.Lost, (runR p r).1.Pending, (runR p r).1.Signals, os ++ (runR p r).2)
  | [], d, p, os, s, k, e, hp, q1, q2, hk, ho, hs => by
    obtain ⟨k, rfl⟩ : ∃ m, k = m + 1 := ⟨k - 1, by omega⟩
    have : s = [] := by simpa using hs
    subst this
    subst e
    simp [impl_RingRun_l1, runR]
  | a :: r, d, p, os, s, k, e, hp, q1, q2, hk, ho, hs => by
    obtain ⟨k, rfl⟩ : ∃ m, k = m + 1 := ⟨k - 1, by omega⟩
    have la : al.length = d.length + (r.length + 1) := by rw [e]; simp
    have e' : ix al (d.length : Int) = a := by rw [e]; exact ix_mid rfl
    simp only [List.length_cons] at hk hs
    cases s with
    | nil => simp at hs
    | cons y s =>
      have h2 := stepR_up hp a
      have ep : (⟨q.1.Size, p.Up, p.Posted, p.Done, p.Lost, p.Pending, q.1.Every, p.Signals⟩ : impl_Ring) = p := by rw [← q1, ← q2]
      simp only [impl_RingRun_l1]
      rw [decide_eq_true (by omega), cond_true, gd_pos (by omega), e', ep, actR_ok hF hp, Option.bind_some, gd_pos (by simp; omega), set_mid (by rw [ho]), wr (by omega)]
      have ih := runR_I hF hl (q := q) r (d ++ [a]) (stepR p a).1 (os ++ [(stepR p a).2]) s k (by rw [e]; simp) (stepR_in hp a).1 (h2.1.trans q1) (h2.2.trans q2) (by omega) (by simp [ho]) (by simp at hs; omega)
      simpa [runR] using ih
theorem runR_S {F : Nat} (hF : 2097152 ≤ F) {al : List impl_RingAct} (hl : al.length ≤ 300) : ∀ (r d : List impl_RingAct) (p : impl_Ring) (os : List impl_RingReply) (k : Nat), al = d ++ r → InR p → r.length < k → os.length = d.length →
    spec_RingRun_l1 F al k p.Size p.Up p.Posted p.Done p.Lost p.Pending p.Every p.Signals os (d.length : Int) = some ((runR p r).1.Size, (runR p r).1.Up, (runR p r).1.Posted, (runR p r).1.Done, (runR p r).1.Lost, (runR p r).1.Pending, (runR p r).1.Every, (runR p r).1.Signals, os ++ (runR p r).2)
  | [], d, p, os, k, e, hp, hk, ho => by
    obtain ⟨k, rfl⟩ : ∃ m, k = m + 1 := ⟨k - 1, by omega⟩
    subst e
    simp [spec_RingRun_l1, runR]
  | a :: r, d, p, os, k, e, hp, hk, ho => by
    obtain ⟨k, rfl⟩ : ∃ m, k = m + 1 := ⟨k - 1, by omega⟩
    have la : al.length = d.length + (r.length + 1) := by rw [e]; simp
    have e' : ix al (d.length : Int) = a := by rw [e]; exact ix_mid rfl
    simp only [List.length_cons] at hk
    simp only [spec_RingRun_l1]
    rw [decide_eq_true (by omega), cond_true, gd_pos (by omega), e', stepR_ok hF hp, Option.bind_some, gd_pos (by simp; omega), wr (by omega)]
    have ih := runR_S hF hl r (d ++ [a]) (stepR p a).1 (os ++ [(stepR p a).2]) k (by rw [e]; simp) (stepR_in hp a).1 (by omega) (by simp [ho])
    simpa [runR] using ih
def wholeR (n e : Int) (al : List impl_RingAct) : impl_Ring × List impl_RingReply × Int :=
  if 4096 < al.length then (⟨0, false, [], [], 0, 0, 0, 0⟩, [], 2) else if (newR n e).2 ≠ 0 then (⟨0, false, [], [], 0, 0, 0, 0⟩, [], (newR n e).2) else if 300 < al.length then (⟨0, false, [], [], 0, 0, 0, 0⟩, [], 6) else ((runR (newR n e).1 al).1, (runR (newR n e).1 al).2, 0)
theorem wholeR_I {F : Nat} (hF : 2097152 ≤ F) (n e : Int) (al : List impl_RingAct) : impl_RingRun F n e al = some (wholeR n e al) := by
  unfold impl_RingRun wholeR
  by_cases h1 : 4096 < al.length
  · rw [decide_eq_true (by omega), if_pos h1]; rfl
  rw [decide_eq_false (by omega), if_neg h1, cond_false, newR_I, Option.bind_some]
  by_cases h2 : (newR n e).2 = 0
  · have hi := newR_in h2
    rw [if_neg (by simp [h2]), decide_eq_true h2]
    simp only [Bool.not_true, cond_false]
    by_cases h3 : 300 < al.length
    · rw [decide_eq_true (by omega), if_pos h3]; rfl
    rw [decide_eq_false (by omega), if_neg h3, cond_false, gd_pos (by omega)]
    have := runR_I (F := F) (al := al) (q := newR n e) hF (by omega) al [] (newR n e).1 [] (List.replicate (Int.toNat (al.length : Int)) (impl_RingReply.mk 0 [])) F rfl hi.1 rfl rfl (by omega) rfl (by simp)
    simp only [List.length_nil, List.nil_append, Int.natCast_zero] at this
    have hr := runR_in al (newR n e).1 hi.1
    rw [this, Option.bind_some, ← hr.2.1, ← hr.2.2.1]
  · rw [if_pos h2, decide_eq_false h2]; rfl
theorem wholeR_S {F : Nat} (hF : 2097152 ≤ F) (n e : Int) (al : List impl_RingAct) : spec_RingRun F n e al = some (wholeR n e al) := by
  unfold spec_RingRun wholeR
  by_cases h1 : 4096 < al.length
  · rw [decide_eq_true (by omega), if_pos h1]; rfl
  rw [decide_eq_false (by omega), if_neg h1, cond_false, newR_S, Option.bind_some]
  by_cases h2 : (newR n e).2 = 0
  · have hi := newR_in h2
    rw [if_neg (by simp [h2]), decide_eq_true h2]
    simp only [Bool.not_true, cond_false]
    by_cases h3 : 300 < al.length
    · rw [decide_eq_true (by omega), if_pos h3]; rfl
    rw [decide_eq_false (by omega), if_neg h3, cond_false]
    have := runR_S (F := F) (al := al) hF (by omega) al [] (newR n e).1 [] F rfl hi.1 (by omega) rfl
    simp only [List.length_nil, List.nil_append, Int.natCast_zero] at this
    have hr := runR_in al (newR n e).1 hi.1
    have hb := hr.1.2.2.1
    have hb1 := hr.1.1
    rw [this, Option.bind_some]
    simp only
    rw [ownR_ok (r := (runR (newR n e).1 al).1) (by omega) (by omega)]; rfl
  · rw [if_pos h2, decide_eq_false h2]; rfl
theorem wholeR_sz (n e : Int) (al : List impl_RingAct) : (wholeR n e al).1.Posted.length ≤ 1000 ∧ (wholeR n e al).1.Done.length ≤ 1000 ∧ (wholeR n e al).2.1.length ≤ 300 ∧ ∀ x ∈ (wholeR n e al).2.1, x.List.length ≤ 1000 := by
  unfold wholeR
  repeat' split
  · simp
  · simp
  · simp
  · rename_i h1 h2 h3
    have hi := newR_in (n := n) (e := e) (by omega)
    have hr := runR_in al (newR n e).1 hi.1
    have hl := runR_len al (newR n e).1
    have hb := hr.1.2.2.1
    have hb1 := hr.1.1
    exact ⟨by simp only; omega, by simp only; omega, by simp only; omega, hr.2.2.2⟩
/-! ### A ring looked over -/
def OkR (r : impl_Ring) : Prop := InR r ∧ r.Pending ≤ (r.Done.length : Int) ∧ (∀ x ∈ r.Done ++ r.Posted, 0 ≤ x ∧ x ≤ 999) ∧ (r.Done ++ r.Posted).Nodup
theorem okI_l1 {F : Nat} (hF : 2097152 ≤ F) {a0 : impl_Ring} (hl : (a0.Done ++ a0.Posted).length ≤ 1000) : ∀ (r d : List Int) (k : Nat), a0.Done ++ a0.Posted = d ++ r → r.length < k → d.Nodup → T (impl_RingOK_l1 F a0 k (d.length : Int)) fun q => (q = .out false ∧ ¬ ((∀ x ∈ r, 0 ≤ x ∧ x ≤ 999) ∧ (d ++ r).Nodup)) ∨ (q = .go () ∧ (∀ x ∈ r, 0 ≤ x ∧ x ≤ 999) ∧ (d ++ r).Nodup)
  | [], d, k, e, hk, hd => by
    obtain ⟨k, rfl⟩ : ∃ m, k = m + 1 := ⟨k - 1, by omega⟩
    have : (a0.Done ++ a0.Posted).length = d.length := by rw [e]; simp
    simp only [impl_RingOK_l1, List.nil_append]
    rw [decide_eq_false (by omega), cond_false]
    exact T_some (.inr ⟨rfl, by simp, by simpa using hd⟩)
  | y :: r, d, k, e, hk, hd => by
    obtain ⟨k, rfl⟩ : ∃ m, k = m + 1 := ⟨k - 1, by omega⟩
    have ll : (a0.Done ++ a0.Posted).length = d.length + (r.length + 1) := by rw [e]; simp
    have e' : ix (a0.Done ++ a0.Posted) (d.length : Int) = y := by rw [e]; exact ix_mid rfl
    have es : slc (a0.Done ++ a0.Posted) 0 (Int.toNat (d.length : Int)) = d := by rw [e]; simp [slc]
    simp only [List.length_cons] at hk
    simp only [impl_RingOK_l1, List.nil_append, e', es, impl_inRange, Option.bind_some]
    rw [decide_eq_true (by omega), cond_true, gd_pos (by omega), gd_pos (by intro; omega), wr (by omega)]
    by_cases q : 0 ≤ y ∧ y ≤ 999
    · have hd1 : (decide (0 ≤ y) && decide (y ≤ 999)) = true := by simp [q]
      simp only [hd1, Bool.not_true, Bool.not_false, cond_true, contains_ok hF y (l := d) (by omega), Option.bind_some, Bool.false_or]
      by_cases hm : y ∈ d
      · rw [decide_eq_true hm, cond_true]
        refine T_some (.inl ⟨rfl, fun h => ?_⟩)
        exact (List.nodup_append.1 h.2).2.2 y hm y (by simp) rfl
      · rw [decide_eq_false hm, cond_false]
        have ih := okI_l1 hF hl r (d ++ [y]) k (by rw [e]; simp) (by omega) (List.nodup_append.2 ⟨hd, by simp, fun x hx z hz ee => hm (by rw [List.mem_singleton.1 hz] at ee; rw [← ee]; exact hx)⟩)
        simp only [List.length_append, List.length_cons, List.length_nil, Int.natCast_add] at ih
        refine T_mono ih fun w hw => ?_
        rw [List.append_assoc, List.singleton_append] at hw
        rcases hw with ⟨h1, h2⟩ | ⟨h1, h2, h3⟩
        · exact .inl ⟨h1, fun h => h2 ⟨fun x hx => h.1 x (List.mem_cons_of_mem _ hx), h.2⟩⟩
        · exact .inr ⟨h1, fun x hx => (List.mem_cons.1 hx).elim (fun e => e ▸ q) (h2 x), h3⟩
    · have hd1 : (decide (0 ≤ y) && decide (y ≤ 999)) = false := by simp; omega
      simp only [hd1, Bool.not_true, Bool.not_false, cond_false, Option.bind_some, Bool.true_or, cond_true]
      exact T_some (.inl ⟨rfl, fun h => q (h.1 y (by simp))⟩)
theorem andB {a b x : Int} : (decide (a ≤ x) && decide (x ≤ b)) = decide (a ≤ x ∧ x ≤ b) := by simp
theorem ringOK_I {F : Nat} (hF : 2097152 ≤ F) {r : impl_Ring} (h1 : r.Posted.length ≤ 1500000) (h2 : r.Done.length ≤ 1500000) : T (impl_RingOK F r) fun q => q = true ↔ OkR r := by
  unfold impl_RingOK
  simp only [impl_inRange, Option.bind_some, andB]
  have w1 : IntKind.wrap .i64 ((r.Posted.length : Int) + (r.Done.length : Int)) = ((r.Posted.length + r.Done.length : Nat) : Int) := by rw [wr (by omega)]; omega
  rw [w1]
  by_cases q : (1 ≤ r.Size ∧ r.Size ≤ 16) ∧ (1 ≤ r.Every ∧ r.Every ≤ 16) ∧ ((r.Posted.length + r.Done.length : Nat) : Int) ≤ r.Size
  · have w2 : IntKind.wrap .i64 (r.Every - 1) = r.Every - 1 := wr (by omega)
    rw [w2, decide_eq_true q.1, decide_eq_true q.2.1, decide_eq_false (show ¬ r.Size < ((r.Posted.length + r.Done.length : Nat) : Int) by omega)]
    simp only [Bool.not_true, Bool.not_false, cond_true, cond_false, Option.bind_some, Bool.or_self]
    rw [gd_pos (by simp; omega), gd_pos (by simp; omega)]
    have hloop := okI_l1 (F := F) hF (a0 := r) (by simp; omega) (r.Done ++ r.Posted) [] F rfl (by simp; omega) (by simp)
    simp only [List.length_nil, Int.natCast_zero, List.nil_append] at hloop
    refine T_use hloop fun l hl => ?_
    rcases hl with ⟨rfl, hn⟩ | ⟨rfl, hy1, hy2⟩
    · exact T_out ⟨fun h => (by cases h), fun h => absurd ⟨h.2.2.1, h.2.2.2⟩ hn⟩
    · refine T_go ?_
      have i1 := iMin_le (r.Done.length : Int) (r.Every - 1)
      by_cases q4 : (0 ≤ r.Lost ∧ r.Lost ≤ 1000000000)
      · rw [decide_eq_true q4]
        simp only [Bool.not_true, Bool.not_false, cond_true, Option.bind_some, Bool.false_or]
        by_cases q5 : (0 ≤ r.Signals ∧ r.Signals ≤ 1000000000)
        · rw [decide_eq_true q5]
          simp only [Bool.not_true, cond_false]
          refine T_some ⟨fun h => ?_, fun h => ?_⟩
          · have h := of_decide_eq_true h
            exact ⟨⟨q.1, q.2.1, q.2.2, q4, q5, by omega⟩, by omega, hy1, hy2⟩
          · obtain ⟨⟨g1, g2, g3, g4, g5, g6⟩, g7, g8⟩ := h
            refine decide_eq_true ⟨g6.1, ?_⟩
            omega
        · rw [decide_eq_false q5]
          exact T_some ⟨fun h => (by cases h), fun h => absurd h.1.2.2.2.2.1 q5⟩
      · rw [decide_eq_false q4]
        exact T_some ⟨fun h => (by cases h), fun h => absurd h.1.2.2.2.1 q4⟩
  · have hno : ¬ OkR r := fun h => q ⟨h.1.1, h.1.2.1, h.1.2.2.1⟩
    by_cases q1 : 1 ≤ r.Size ∧ r.Size ≤ 16
    · by_cases q2 : 1 ≤ r.Every ∧ r.Every ≤ 16
      · rw [decide_eq_true q1, decide_eq_true q2, decide_eq_true (show r.Size < ((r.Posted.length + r.Done.length : Nat) : Int) by omega)]
        exact T_some ⟨fun h => (by cases h), fun h => absurd h hno⟩
      · rw [decide_eq_true q1, decide_eq_false q2]
        exact T_some ⟨fun h => (by cases h), fun h => absurd h hno⟩
    · rw [decide_eq_false q1]
      exact T_some ⟨fun h => (by cases h), fun h => absurd h hno⟩
/-! ### What a run keeps -/
theorem OkR.new {n e : Int} (h : (newR n e).2 = 0) : OkR (newR n e).1 := by
  have hi := newR_in h
  have e' : newR n e = (⟨n, true, [], [], 0, 0, e, 0⟩, 0) := if_pos hi.2
  rw [e'] at hi ⊢
  exact ⟨hi.1, by simp, by simp, by simp⟩
/-- What arrives keeps: all that is there, in order; what is lost and what is signalled. -/
theorem arriveR_keep {r : impl_Ring} (h : InR r) (hp : r.Pending ≤ (r.Done.length : Int)) (hL : r.Lost < 1000000) (o : List Int) : (arriveR r o).1.Done ++ (arriveR r o).1.Posted = r.Done ++ r.Posted ∧ (arriveR r o).1.Pending ≤ ((arriveR r o).1.Done.length : Int) ∧ ((arriveR r o).2.length : Int) + (arriveR r o).1.Lost = o.length + r.Lost + 1 ∧
    (arriveR r o).1.Signals * r.Every + (arriveR r o).1.Pending - (arriveR r o).2.length ≤ r.Signals * r.Every + r.Pending - o.length ∧ r.Lost ≤ (arriveR r o).1.Lost := by
  obtain ⟨h1, h2, h3, h4, h5, h6⟩ := h
  have hm : iMin (r.Lost + 1) 1000000000 = r.Lost + 1 := by unfold iMin; split <;> omega
  have i2 := iMin_le (r.Signals + 1) 1000000000
  have hmul : iMin (r.Signals + 1) 1000000000 * r.Every ≤ r.Signals * r.Every + r.Every := by
    have := Int.mul_le_mul_of_nonneg_right i2.1 (show 0 ≤ r.Every by omega)
    rw [Int.add_mul, Int.one_mul] at this
    exact this
  unfold arriveR
  cases hq : r.Posted with
  | nil =>
    rw [hm]
    exact ⟨by simp, hp, by simp only; omega, by simp only; omega, by simp only; omega⟩
  | cons x t =>
    simp only
    split
    · split
      · refine ⟨by simp, by simp only [List.length_append]; omega, by simp; omega, ?_, by simp⟩
        simp only [List.length_append, List.length_cons, List.length_nil, Int.natCast_add]; omega
      · refine ⟨by simp, by simp only [List.length_append, List.length_cons, List.length_nil]; omega, by simp; omega, ?_, by simp⟩
        simp only [List.length_append, List.length_cons, List.length_nil, Int.natCast_add]; omega
    · rw [hm]
      exact ⟨rfl, hp, by simp only; omega, by simp only; omega, by simp only; omega⟩
theorem arrivesR_keep : ∀ (n : Nat) {r : impl_Ring} (h : InR r) (hp : r.Pending ≤ (r.Done.length : Int)) (hL : r.Lost + n < 1000000) (o : List Int), (arrivesR n r o).1.Done ++ (arrivesR n r o).1.Posted = r.Done ++ r.Posted ∧ (arrivesR n r o).1.Pending ≤ ((arrivesR n r o).1.Done.length : Int) ∧ ((arrivesR n r o).2.length : Int) + (arrivesR n r o).1.Lost = o.length + r.Lost + n ∧
    (arrivesR n r o).1.Signals * r.Every + (arrivesR n r o).1.Pending - (arrivesR n r o).2.length ≤ r.Signals * r.Every + r.Pending - o.length ∧ r.Lost ≤ (arrivesR n r o).1.Lost
  | 0, r, h, hp, hL, o => ⟨rfl, hp, by simp [arrivesR], by simp [arrivesR], by simp [arrivesR]⟩
  | n + 1, r, h, hp, hL, o => by
    have k := arriveR_keep h hp (by omega) o
    have hi := arriveR_in h o
    have hb : (arriveR r o).1.Lost ≤ r.Lost + 1 := by
      have := hi.2.2.2.2
      have h3 := k.2.2.1
      have hge : o.length ≤ (arriveR r o).2.length := by
        unfold arriveR
        cases r.Posted with
        | nil => simp
        | cons x t => simp only; split <;> (try split) <;> simp
      omega
    have ih := arrivesR_keep n hi.1 k.2.1 (by omega) (arriveR r o).2
    rw [hi.2.2.2.1] at ih
    simp only [arrivesR]
    exact ⟨ih.1.trans k.1, ih.2.1, by omega, by omega, by omega⟩
theorem OkR.step {r : impl_Ring} (h : OkR r) (hL : r.Lost < 900000) (a : impl_RingAct) : OkR (stepR r a).1 := by
  have hin := (stepR_in h.1 a).1
  obtain ⟨h0, h1, h2, h3⟩ := h
  have i2 := fun k : Int => iMin_le r.Pending k
  revert hin
  unfold stepR
  repeat' split
  all_goals intro hin
  all_goals try exact ⟨h0, h1, h2, h3⟩
  · rename_i g1 g2 g3 g4
    refine ⟨hin, h1, fun x hx => ?_, ?_⟩
    · rw [← List.append_assoc] at hx
      rcases List.mem_append.1 hx with hx | hx
      · exact h2 x hx
      · rw [List.mem_singleton.1 hx]; omega
    · rw [← List.append_assoc]
      refine List.nodup_append.2 ⟨h3, by simp, fun x hx y hy e => ?_⟩
      rw [List.mem_singleton.1 hy] at e
      subst e
      exact g3 ((List.mem_append.1 hx).elim .inr .inl)
  · rename_i g1 g2 g3
    have k := arrivesR_keep a.N.toNat h0 h1 (by omega) []
    exact ⟨hin, k.2.1, by rw [k.1]; exact h2, by rw [k.1]; exact h3⟩
  · refine ⟨hin, (i2 _).2.1, fun x hx => h2 x ?_, List.Nodup.sublist (List.Sublist.append (List.drop_sublist _ _) (List.Sublist.refl _)) h3⟩
    rcases List.mem_append.1 hx with hx | hx
    · exact List.mem_append.2 (.inl (List.mem_of_mem_drop hx))
    · exact List.mem_append.2 (.inr hx)
  · exact ⟨hin, by simp, by simp, by simp⟩
theorem sameInts_ok {F : Nat} (hF : 2097152 ≤ F) {a : List Int} (h : a.length ≤ 1500000) : laws_sameInts F a a = some true := by
  unfold laws_sameInts
  have := same_loop (n := a.length) (v := Fl.go ()) (f := laws_sameInts_l1 F a a) (fun k => by simp [laws_sameInts_l1]) (fun k i h0 h1 => by
    simp only [laws_sameInts_l1, decide_eq_true h1, cond_true]
    simp (disch := omega) only [gd_pos, wr]
    simp) a.length 0 F (by omega) (by omega)
  simp at this
  simp [this, Fl.on]
/-- What is posted, what is handed over, what came and what was asked for, behind n acts. -/
structure Keep (r : impl_Ring) (A B : List Int) (m q : Int) (n : Nat) : Prop where
  all : A = B ++ (r.Done ++ r.Posted)
  len : A.length ≤ n
  lost : q = m + r.Lost
  sig : r.Signals * r.Every + r.Pending ≤ m
  pos : 0 ≤ m
  top : q ≤ 100 * n
theorem code_same {r : impl_Ring} {a : impl_RingAct} (h : (stepR r a).2.Code ≠ 0) : (stepR r a).1 = r := by
  revert h
  unfold stepR
  repeat' split
  all_goals intro h
  all_goals first
    | rfl
    | exact absurd rfl h
theorem ring_all {F : Nat} (hF : 2097152 ≤ F) {al : List impl_RingAct} (hl : al.length ≤ 300) {w w' : impl_Ring × List impl_RingReply × Int} (p0 : impl_Ring) (hw : w.2.1 = (runR p0 al).2) (hw' : w'.2.1 = (runR p0 al).2) :
    ∀ (r d : List impl_RingAct) (p : impl_Ring) (os : List impl_RingReply) (A B : List Int) (m q : Int) (k : Nat), al = d ++ r → (runR p0 al).2 = os ++ (runR p r).2 → os.length = d.length → OkR p → Keep p A B m q d.length → r.length < k →
      T (laws_FnRing_l1 F al w w' k A B m q (d.length : Int)) fun s => ∃ A B m q, s = .go (A, B, m, q) ∧ OkR (runR p r).1 ∧ Keep (runR p r).1 A B m q (d.length + r.length)
  | [], d, p, os, A, B, m, q, k, e, eo, ho, hp, hk, hkk => by
    obtain ⟨k, rfl⟩ : ∃ m, k = m + 1 := ⟨k - 1, by omega⟩
    have : al.length = d.length := by rw [e]; simp
    simp only [laws_FnRing_l1]
    rw [decide_eq_false (by omega), cond_false]
    exact T_some ⟨A, B, m, q, rfl, hp, hk⟩
  | a :: r, d, p, os, A, B, m, q, k, e, eo, ho, hp, hk, hkk => by
    obtain ⟨k, rfl⟩ : ∃ m, k = m + 1 := ⟨k - 1, by omega⟩
    have ll : al.length = d.length + (r.length + 1) := by rw [e]; simp
    have lr := runR_len al p0
    have e' : ix al (d.length : Int) = a := by rw [e]; exact ix_mid rfl
    have eo' : ix (runR p0 al).2 (d.length : Int) = (stepR p a).2 := by rw [eo]; exact ix_mid (by rw [ho])
    have hlo := hp.1.2.2.2.1
    simp only [List.length_cons] at hkk
    obtain ⟨k1, k2, k3, k4, k5, k6⟩ := hk
    have hL : p.Lost < 900000 := by omega
    have hs := hp.step hL a
    have hz := (stepR_in hp.1 a).2
    have hb := hp.1.2.2.1
    have hb1 := hp.1.1
    have hlen : A.length = B.length + (p.Done.length + p.Posted.length) := by rw [k1]; simp
    -- the rest, from what is kept
    have next : ∀ A' B' m' q', Keep (stepR p a).1 A' B' m' q' (d.length + 1) → T (laws_FnRing_l1 F al w w' k A' B' m' q' ((d.length : Int) + 1)) fun s => ∃ A B m q, s = .go (A, B, m, q) ∧ OkR (runR p (a :: r)).1 ∧ Keep (runR p (a :: r)).1 A B m q (d.length + (r.length + 1)) := fun A' B' m' q' hk' => by
      have ih := ring_all hF hl p0 hw hw' r (d ++ [a]) (stepR p a).1 (os ++ [(stepR p a).2]) A' B' m' q' k (by rw [e]; simp) (by rw [eo]; simp [runR]) (by simp [ho]) hs (by simpa using hk') (by omega)
      simp only [List.length_append, List.length_cons, List.length_nil, Int.natCast_add] at ih
      rw [show d.length + (0 + 1) + r.length = d.length + (r.length + 1) by omega] at ih
      exact ih
    simp only [laws_FnRing_l1, hw, hw', e', eo', List.length_cons]
    rw [decide_eq_true (by omega), cond_true, gd_pos (by omega), gd_pos (by omega), gd_pos (by intro; omega)]
    have w1 : IntKind.wrap .i64 ((d.length : Int) + 1) = (d.length : Int) + 1 := wr (by omega)
    simp only [decide_true, Bool.not_true, Bool.not_false, cond_true, cond_false, sameInts_ok hF (a := (stepR p a).2.List) (by omega), Option.bind_some, Bool.or_self, Bool.false_or, w1]
    by_cases hc : (stepR p a).2.Code = 0
    · rw [decide_eq_true hc]
      simp only [Bool.not_true, cond_false]
      rw [gd_pos (by omega)]
      by_cases g1 : a.Kind = 1
      · rw [decide_eq_true g1, cond_true, gd_pos (by omega), gd_pos (by simp; omega)]
        refine next _ _ _ _ ?_
        revert hc
        unfold stepR
        rw [if_pos g1]
        repeat' split
        all_goals intro hc
        all_goals try (simp only at hc; omega)
        exact ⟨by rw [k1]; simp, by simp; omega, k3, k4, k5, by simp only; omega⟩
      rw [decide_eq_false g1, cond_false]
      by_cases g2 : a.Kind = 2
      · rw [decide_eq_true g2, cond_true, gd_pos (by omega)]
        by_cases g3 : 0 ≤ a.N ∧ a.N ≤ 100
        · have es : stepR p a = ((arrivesR a.N.toNat p []).1, ⟨0, (arrivesR a.N.toNat p []).2⟩) := by
            unfold stepR; rw [if_neg g1, if_pos g2, if_neg (by simp [g3])]
          have kk := arrivesR_keep a.N.toNat hp.1 hp.2.1 (by omega) []
          have ki := arrivesR_in a.N.toNat hp.1 []
          rw [es] at next ⊢
          simp only [List.length_nil] at kk ki
          simp only
          rw [wr (by omega), wr (by omega)]
          refine next _ _ _ _ ⟨by simp only; rw [kk.1]; exact k1, by simp only; omega, by simp only; omega, ?_, by simp only; omega, by simp only; omega⟩
          simp only
          rw [ki.2.2.2.1]
          omega
        · exfalso
          revert hc
          unfold stepR
          rw [if_neg g1, if_pos g2, if_pos g3]
          intro hc; simp only at hc; omega
      rw [decide_eq_false g2, cond_false]
      have hmid : ∀ (z : Bool), z = (decide (a.Kind = 3) || decide (a.Kind = 4)) → (bif decide (a.Kind = 3) then some (decide (a.Kind = 3)) else some (decide (a.Kind = 4)) : Option Bool) = some z := fun z hz => by
        subst hz; by_cases g : a.Kind = 3 <;> simp [g]
      rw [hmid _ rfl, Option.bind_some]
      by_cases g3 : a.Kind = 3
      · rw [decide_eq_true g3, Bool.true_or, cond_true, gd_pos (by omega)]
        refine next _ _ _ _ ?_
        revert hc
        unfold stepR
        rw [if_neg g1, if_neg g2, if_pos g3]
        split
        · intro hc; simp only at hc; omega
        · intro hc
          have i2 := iMin_le p.Pending ((p.Done.drop (iMin a.N p.Done.length).toNat).length : Int)
          refine ⟨?_, by simp only; omega, k3, by simp only; omega, k5, by simp only; omega⟩
          rw [k1]
          simp only [List.append_assoc]
          rw [← List.append_assoc (List.take _ _), List.take_append_drop]
      rw [decide_eq_false g3, Bool.false_or]
      by_cases g4 : a.Kind = 4
      · rw [decide_eq_true g4, cond_true, gd_pos (by omega)]
        refine next _ _ _ _ ?_
        have hpe := hp.1.2.2.2.2.2.1
        unfold stepR
        rw [if_neg g1, if_neg g2, if_neg g3, if_pos g4]
        exact ⟨by rw [k1]; simp, by simp only; omega, k3, by simp only; omega, k5, by simp only; omega⟩
      rw [decide_eq_false g4, cond_false]
      refine next _ _ _ _ ?_
      unfold stepR
      rw [if_neg g1, if_neg g2, if_neg g3, if_neg g4]
      split
      · exact ⟨k1, by simp only; omega, k3, k4, k5, by simp only; omega⟩
      · exact ⟨k1, by simp only; omega, k3, k4, k5, by simp only; omega⟩
    · rw [decide_eq_false hc]
      simp only [Bool.not_false, cond_true, Option.bind_some, Fl.on]
      refine next _ _ _ _ ?_
      rw [code_same hc]
      exact ⟨k1, by omega, k3, k4, k5, by omega⟩
theorem main {F : Nat} (hF : 2097152 ≤ F) {a b : List Int} (ha : okT (inK .u8) a) (hb : okT (inK .u8) b) : laws_FnRing F a b = some true := by
  unfold laws_FnRing
  by_cases h : 1048576 < a.length ∨ 1048576 < b.length
  · have : (decide ((1048576 : Int) < (a.length : Int)) || decide ((1048576 : Int) < (b.length : Int))) = true := by simp; omega
    rw [this]; rfl
  have hd : (decide ((1048576 : Int) < (a.length : Int)) || decide ((1048576 : Int) < (b.length : Int))) = false := by simp; omega
  rw [hd, cond_false]
  obtain ⟨z, e1, hz⟩ := at_ok (byt_of hb (by omega)) (i := 0) (n := 16) (by omega)
  have hz := (⟨hz.1, hz.2 (by omega)⟩ : 0 ≤ z ∧ z < 16)
  obtain ⟨y, e3, hy⟩ := at_ok (byt_of hb (by omega)) (i := 1) (n := 4) (by omega)
  have hy := (⟨hy.1, hy.2 (by omega)⟩ : 0 ≤ y ∧ y < 4)
  obtain ⟨al, e2, hl⟩ := ringActs_ok hF (byt_of ha (by omega))
  have wz : IntKind.wrap .i64 (1 + z) = 1 + z := wr (by omega)
  have wy : IntKind.wrap .i64 (1 + y) = 1 + y := wr (by omega)
  have hn : (newR (1 + z) (1 + y)).2 = 0 := by unfold newR; rw [if_pos (by omega)]
  have hg := OkR.new hn
  have e0 : (newR (1 + z) (1 + y)).1 = ⟨1 + z, true, [], [], 0, 0, 1 + y, 0⟩ := by unfold newR; rw [if_pos (by omega)]
  have hw : wholeR (1 + z) (1 + y) al = ((runR (newR (1 + z) (1 + y)).1 al).1, (runR (newR (1 + z) (1 + y)).1 al).2, 0) := by
    unfold wholeR
    rw [if_neg (by omega), if_neg (by omega), if_neg (by omega)]
  have hr := runR_len al (newR (1 + z) (1 + y)).1
  have hi := runR_in al (newR (1 + z) (1 + y)).1 hg.1
  obtain ⟨s, es, A, B, m, q, rfl, hok, hkeep⟩ := ring_all (F := F) hF hl (w := wholeR (1 + z) (1 + y) al) (w' := wholeR (1 + z) (1 + y) al) (newR (1 + z) (1 + y)).1 (by rw [hw]) (by rw [hw]) al [] (newR (1 + z) (1 + y)).1 [] [] [] 0 0 F rfl rfl rfl hg (by rw [e0]; exact ⟨rfl, by simp, by simp, by simp, by simp, by simp⟩) (by omega)
  simp only [List.length_nil, Int.natCast_zero, Nat.zero_add] at es hkeep
  have hb := hok.1.2.2.1
  have hb1 := hok.1.1
  obtain ⟨o, eo, ho⟩ := ringOK_I hF (r := (runR (newR (1 + z) (1 + y)).1 al).1) (by omega) (by omega)
  have ho := ho.2 hok
  subst ho
  have he : (runR (newR (1 + z) (1 + y)).1 al).1.Every = 1 + y := by rw [hi.2.2.1, e0]
  obtain ⟨k1, k2, k3, k4, k5, k6⟩ := hkeep
  rw [he] at k4
  have hsg := hok.1.2.2.2.2.1
  have hpe := hok.1.2.2.2.2.2.1
  have hlo := hok.1.2.2.2.1
  have hmul : (runR (newR (1 + z) (1 + y)).1 al).1.Signals * (1 + y) ≤ m := by omega
  have hmul0 : 0 ≤ (runR (newR (1 + z) (1 + y)).1 al).1.Signals * (1 + y) := Int.mul_nonneg hsg.1 (by omega)
  rw [e1, Option.bind_some, e3, Option.bind_some, e2, Option.bind_some, wz, wy, wholeR_I hF, Option.bind_some, wholeR_S hF, Option.bind_some, es]
  simp only [hw, hr, decide_true, Bool.not_true, Bool.or_self, Bool.not_false, cond_true, eo, Option.bind_some, cond_false, Fl.on]
  have hAl : A.length = B.length + ((runR (newR (1 + z) (1 + y)).1 al).1.Done.length + (runR (newR (1 + z) (1 + y)).1 al).1.Posted.length) := by rw [k1]; simp
  rw [gd_pos (by omega), gd_pos (by simp; omega), List.append_assoc, ← k1, sameInts_ok hF (by omega), Option.bind_some, wr (by omega), wr (by omega), decide_eq_true k3, decide_eq_true hmul]
  rfl
theorem pure : Pure := fun a b ha hb => ⟨2097152, main (Nat.le_refl _) ha hb⟩
end Go.Proofs.Ytpkdolmbhfmjcaa.FnRing
