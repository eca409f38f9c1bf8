/- A pool's acts keep every buffer in one place: the law's plain statement. -/
import Derived.Test.YtpkdolmbhfmjcaaFnPoolS
import Derived.Test.YtpkdolmbhfmjcaaGwP
set_option linter.unusedVariables false
set_option linter.unusedSimpArgs false
set_option linter.unusedSectionVars false
namespace Go.Proofs.Ytpkdolmbhfmjcaa.FnPool
open Go.RowKit Go.Proofs.Gw
/-! ### What is drawn from bytes -/
def Byt (c : List Int) : Prop := c.length ≤ 1048576 ∧ ∀ x ∈ c, 0 ≤ x ∧ x ≤ 255
def SrcOK (c : List Int) (b : Int) (s : spec_l00Src) : Prop := s.code = c ∧ (0 ≤ s.at_ ∧ s.at_ ≤ b) ∧ 0 ≤ s.seed ∧ s.seed < 2147483648
theorem SrcOK.mk {c : List Int} {b b' : Int} {s : spec_l00Src} (h : SrcOK c b s) (hb : b ≤ b') : SrcOK c b' s := ⟨h.1, ⟨h.2.1.1, by have := h.2.1.2; omega⟩, h.2.2⟩
theorem ix_byt {c : List Int} (hc : Byt c) {i : Int} (h0 : 0 ≤ i) (h1 : i < (c.length : Int)) : 0 ≤ ix c i ∧ ix c i ≤ 255 := by
  apply hc.2
  have : i.toNat < c.length := by omega
  simp [ix, List.getD_eq_getElem?_getD, List.getElem?_eq_getElem this]
theorem tmod_in {a n : Int} (h0 : 0 ≤ a) (hn : 1 ≤ n) : 0 ≤ Int.tmod a n ∧ Int.tmod a n < n := by
  rw [Int.tmod_eq_emod_of_nonneg h0]
  exact ⟨Int.emod_nonneg _ (by omega), Int.emod_lt_of_pos _ (by omega)⟩
theorem tdiv_in {a n : Int} (h0 : 0 ≤ a) (hn : 1 ≤ n) : 0 ≤ Int.tdiv a n ∧ Int.tdiv a n ≤ a := by
  rw [Int.tdiv_eq_ediv_of_nonneg h0]
  exact ⟨Int.ediv_nonneg h0 (by omega), Int.ediv_le_self n h0⟩
theorem byte_ok {c : List Int} {b : Int} {s : spec_l00Src} (hc : Byt c) (hs : SrcOK c b s) (hb : b ≤ 1099511627776) : T (spec_l00Src_byte s) fun r => (0 ≤ r.1 ∧ r.1 ≤ 255) ∧ SrcOK c (b + 1) r.2 := by
  obtain ⟨rfl, ⟨h1, h2⟩, h3, h4⟩ := hs
  unfold spec_l00Src_byte
  have hl := hc.1
  have w1 : IntKind.wrap .i64 (s.at_ + 1) = s.at_ + 1 := wr (by omega)
  have w2 : IntKind.wrap .i64 (s.at_ + 1 - 1) = s.at_ + 1 - 1 := wr (by omega)
  rw [w1, w2]
  refine T_bif (fun e => ?_) (fun e => T_bif (fun e' => ?_) (fun e' => ?_))
  · have e := of_decide_eq_true e
    have hx := ix_byt hc (i := s.at_ + 1 - 1) (by omega) (by omega)
    have hq := tmod_in (a := s.seed * 31 + ix s.code (s.at_ + 1 - 1) + 7) (n := 2147483648) (by omega) (by omega)
    repeat rw [gd_pos (by first | assumption | omega | (intro; first | assumption | omega) | (intro h; cases h; done) | (simp; done) | (simp; omega) | (intros; simp at *; omega))]
    simp (disch := omega) only [wr]
    exact T_some ⟨hx, rfl, ⟨by simp only; omega, by simp only; omega⟩, hq⟩
  · exact T_some ⟨by simp, rfl, ⟨by simp only; omega, by simp only; omega⟩, h3, h4⟩
  · have hq := tmod_in (a := s.seed * 1103515245 + 12345) (n := 2147483648) (by omega) (by omega)
    have hd := tdiv_in (a := Int.tmod (s.seed * 1103515245 + 12345) 2147483648) (n := 65536) hq.1 (by omega)
    simp (disch := omega) only [wr]
    have hr := tmod_in (a := Int.tdiv (Int.tmod (s.seed * 1103515245 + 12345) 2147483648) 65536) (n := 256) hd.1 (by omega)
    exact T_some ⟨by simp only; omega, rfl, ⟨by simp only; omega, by simp only; omega⟩, hq⟩
theorem next_ok {c : List Int} {b : Int} {s : spec_l00Src} (hc : Byt c) (hs : SrcOK c b s) (hb : b ≤ 1099511627700) (n : Int) : T (spec_l00Src_next s n) fun r => (0 ≤ r.1 ∧ (1 ≤ n → r.1 < n)) ∧ SrcOK c (b + 3) r.2 := by
  unfold spec_l00Src_next
  refine T_bif (fun e => ?_) (fun e => T_bif (fun e' => ?_) (fun e' => ?_))
  · have e := of_decide_eq_true e
    exact T_some ⟨⟨by simp, fun h => by simp only; omega⟩, hs.mk (by omega)⟩
  · have e := of_decide_eq_false e
    refine T_use (byte_ok hc hs (by omega)) fun r h => ?_
    obtain ⟨h1, h2⟩ := h
    repeat rw [gd_pos (by first | assumption | omega | (intro; first | assumption | omega) | (intro h; cases h; done) | (simp; done) | (simp; omega) | (intros; simp at *; omega))]
    have := tmod_in (a := r.1) (n := n) (by omega) (by omega)
    refine T_some ⟨⟨this.1, fun _ => this.2⟩, ?_⟩
    exact ⟨hs.1, ⟨h2.2.1.1, by have := h2.2.1.2; simp only; omega⟩, h2.2.2⟩
  · have e := of_decide_eq_false e
    have k : ∀ {b : Int} {t : spec_l00Src}, SrcOK c b t → SrcOK c b (spec_l00Src.mk s.code t.at_ t.seed) := fun h => ⟨hs.1, h.2⟩
    refine T_use (byte_ok hc hs (by omega)) fun r h => ?_
    refine T_use (byte_ok hc (k h.2) (by omega)) fun r' h' => ?_
    refine T_use (byte_ok hc (k h'.2) (by omega)) fun r'' h'' => ?_
    have := h.1; have := h'.1; have := h''.1
    repeat rw [gd_pos (by first | assumption | omega | (intro; first | assumption | omega) | (intro h; cases h; done) | (simp; done) | (simp; omega) | (intros; simp at *; omega))]
    simp (disch := omega) only [wr]
    have := tmod_in (a := r.1 * 65536 + r'.1 * 256 + r''.1) (n := n) (by omega) (by omega)
    refine T_some ⟨⟨this.1, fun _ => this.2⟩, ?_⟩
    have h2 := h''.2
    exact ⟨hs.1, ⟨h2.2.1.1, by have := h2.2.1.2; simp only; omega⟩, h2.2.2⟩
theorem source_ok {c : List Int} (hc : Byt c) : T (spec_l00Source c) fun s => SrcOK c 0 s := by
  unfold spec_l00Source
  have := tmod_in (a := (c.length : Int)) (n := 1000) (by omega) (by omega)
  exact T_some ⟨rfl, ⟨by simp, by simp⟩, by simp only; omega, by simp only; omega⟩
theorem size_ok {c : List Int} {b : Int} {s : spec_l00Src} (hc : Byt c) (hs : SrcOK c b s) (n : Int) (hn : 1 ≤ n) : T (spec_l00Src_size s n) fun r => 1 ≤ r ∧ r ≤ n := by
  obtain ⟨rfl, h1, h2⟩ := hs
  have hl := hc.1
  unfold spec_l00Src_size
  have hd := tdiv_in (a := (s.code.length : Int)) (n := 12) (by omega) (by omega)
  simp (disch := omega) only [wr]
  refine T_some ?_
  unfold iMin
  split <;> omega
theorem byt_of {c : List Int} (h : okT (inK .u8) c) (hl : c.length ≤ 1048576) : Byt c := ⟨hl, fun x hx => by
  have := h.2 x hx
  have h1 : (IntKind.u8).min = 0 := by decide
  have h2 : (IntKind.u8).max = 255 := by decide
  unfold inK at this
  omega⟩
theorem at_ok {c : List Int} (hc : Byt c) {i n : Int} (hi : 0 ≤ i ∧ i ≤ 1000000) : T (laws_at c i n) fun r => 0 ≤ r ∧ (1 ≤ n → r < n) := by
  have hl := hc.1
  unfold laws_at
  refine T_bif (fun e => ?_) (fun e => T_bif (fun e' => ?_) (fun e' => ?_))
  · have e := of_decide_eq_true e
    exact T_some ⟨by omega, by omega⟩
  · have e := of_decide_eq_false e
    rw [gd_pos (by omega), wr (by omega)]
    have := tmod_in (a := i * 7) (n := n) (by omega) (by omega)
    exact T_some ⟨this.1, fun _ => this.2⟩
  · have e := of_decide_eq_false e
    have e' := of_decide_eq_false e'
    have w1 : IntKind.wrap .i64 (i + 1) = i + 1 := wr (by omega)
    rw [w1]
    have q1 := tmod_in (a := i) (n := (c.length : Int)) (by omega) (by omega)
    have q2 := tmod_in (a := i + 1) (n := (c.length : Int)) (by omega) (by omega)
    have x1 := ix_byt hc q1.1 q1.2
    have x2 := ix_byt hc q2.1 q2.2
    have q3 := tdiv_in (a := i) (n := (c.length : Int)) (by omega) (by omega)
    rw [gd_pos (by omega), gd_pos (by omega), gd_pos (by omega), gd_pos (by omega), gd_pos (by omega), gd_pos (by omega)]
    simp (disch := omega) only [wr]
    have q4 := tmod_in (a := ix c (Int.tmod i (c.length : Int)) * 31 + ix c (Int.tmod (i + 1) (c.length : Int)) + Int.tdiv i (c.length : Int)) (n := n) (by omega) (by omega)
    exact T_some ⟨q4.1, fun _ => q4.2⟩
theorem poolActs_l1 {F : Nat} {c : List Int} (hc : Byt c) {a0 : spec_l00Src} (ha : a0.code = c) : ∀ (m : Nat) (k : Nat) (p q : Int) (al : List impl_PoolAct) (n : Int), n.toNat ≤ m → m < k → n ≤ 1000000 → SrcOK c (1000000000 - 12 * n) ⟨c, p, q⟩ → al.length ≤ 300 → T (spec_l00Src_poolActs_l1 F a0 k p q al n) fun r => r.2.2.length ≤ 300
  | m, 0, _, _, _, _, _, hk, _, _, _ => absurd hk (Nat.not_lt_zero _)
  | m, k + 1, p, q, al, n, hm, hk, hn, hs, hl => by
    simp only [spec_l00Src_poolActs_l1, ha]
    refine T_bif (fun e => ?_) (fun e => T_some hl)
    simp only [Bool.and_eq_true, decide_eq_true_eq] at e
    refine T_use (next_ok hc hs (by omega) 8) fun r h => ?_
    have h8 := h.1.2 (by omega)
    have h0 := h.1.1
    repeat rw [gd_pos (by first | assumption | omega | (intro; first | assumption | omega) | (intro h; cases h; done) | (simp; done) | (simp; omega) | (intros; simp at *; omega))]
    have kk : ∀ {b : Int} {t : spec_l00Src}, SrcOK c b t → SrcOK c b (spec_l00Src.mk c t.at_ t.seed) := fun h => ⟨rfl, h.2⟩
    refine T_use (next_ok hc (kk h.2) (by omega) 3) fun r1 h1 => ?_
    refine T_use (next_ok hc (kk h1.2) (by omega) 3) fun r2 h2 => ?_
    refine T_use (next_ok hc (kk h2.2) (by omega) 6) fun r3 h3 => ?_
    rw [gd_pos (by simp; omega)]
    try simp (disch := omega) only [wr]
    exact poolActs_l1 hc ha (m - 1) k _ _ _ _ (by omega) (by omega) (by omega) ((kk h3.2).mk (by omega)) (by simp; omega)
theorem poolActs_ok {F : Nat} (hF : 2097152 ≤ F) {c : List Int} (hc : Byt c) : T (spec_PoolActsOf F c) fun r => r.length ≤ 300 := by
  unfold spec_PoolActsOf
  refine T_use (source_ok hc) fun s hs => ?_
  unfold spec_l00Src_poolActs
  refine T_use (R := fun r => r.1.length ≤ 300) ?_ fun r h => T_some h
  refine T_bind (T_bind ?_)
  refine T_mono (size_ok hc hs 40 (by omega)) fun z hz => ?_
  have wz : IntKind.wrap .i64 (z + 4) = z + 4 := wr (by omega)
  rw [wz]
  refine T_bind (T_mono (next_ok hc hs (by omega) (z + 4)) fun r h => ?_)
  have h1 := h.1.2 (by omega)
  refine T_mono (poolActs_l1 hc hs.1 50 F _ _ [] r.1 (by omega) (by omega) (by omega) ⟨rfl, ⟨h.2.2.1.1, by have := h.2.2.1.2; simp only; omega⟩, h.2.2.2⟩ (by simp)) fun r h => T_some h
/-- A pool that can be acted upon. -/
def In0 (p : impl_Pool) : Prop := (1 ≤ p.Owner.length ∧ p.Owner.length ≤ 32) ∧ ∀ x ∈ p.Free, 0 ≤ x ∧ x < (p.Owner.length : Int)
/-- A pool of bounded size. -/
def PoolSz (p : impl_Pool) : Prop := p.Free.length ≤ 1500000 ∧ p.Owner.length ≤ 1500000
/-! ### One act upon a pool -/
/-- The places that hold o, from place i on. -/
def heldR (o : Int) : List Int → Int → List Int
  | [], _ => []
  | x :: r, i => if x = o then i :: heldR o r (i + 1) else heldR o r (i + 1)
def freeR (o : Int) (w : List Int) : List Int := w.map fun x => if x = o then -1 else x
theorem heldR_len (o : Int) : ∀ (w : List Int) (i : Int), (heldR o w i).length ≤ w.length
  | [], _ => Nat.le_refl _
  | x :: r, i => by
    have := heldR_len o r (i + 1)
    simp only [heldR]; split <;> simp <;> omega
theorem heldR_in (o : Int) : ∀ (w : List Int) (i : Int), ∀ x ∈ heldR o w i, i ≤ x ∧ x < i + w.length
  | [], _ => by simp [heldR]
  | y :: r, i => by
    intro x hx
    have ih := heldR_in o r (i + 1) x
    simp only [heldR] at hx
    simp only [List.length_cons]
    split at hx
    · rcases List.mem_cons.1 hx with rfl | hx
      · omega
      · have := ih hx; omega
    · have := ih hx; omega
theorem held_set (o : Int) : ∀ (r d : List Int), (heldR o r d.length).foldl (fun w x => w.set x.toNat (-1)) (d ++ r) = d ++ freeR o r
  | [], d => by simp [heldR, freeR]
  | x :: r, d => by
    simp only [heldR, freeR, List.map_cons]
    by_cases h : x = o
    · have ih := held_set o r (d ++ [-1])
      simp only [if_pos h, List.foldl_cons, set_mid rfl]
      simpa [freeR] using ih
    · have ih := held_set o r (d ++ [x])
      simp only [if_neg h]
      simpa [freeR] using ih
theorem held_l1 {F : Nat} {f w : List Int} {o : Int} : ∀ (r d acc : List Int) (k : Nat), w = d ++ r → w.length ≤ 32 → acc.length ≤ d.length → r.length < k → impl_Pool_held_l1 F ⟨f, w⟩ o k acc d.length = some (acc ++ heldR o r d.length)
  | [], d, acc, k, e, hw, ha, hk => by
    obtain ⟨k, rfl⟩ : ∃ m, k = m + 1 := ⟨k - 1, by omega⟩
    subst e
    simp [impl_Pool_held_l1, heldR]
  | x :: r, d, acc, k, e, hw, ha, hk => by
    obtain ⟨k, rfl⟩ : ∃ m, k = m + 1 := ⟨k - 1, by omega⟩
    have hl : w.length = d.length + (r.length + 1) := by rw [e]; simp
    have e' : ix w (d.length : Int) = x := by rw [e]; exact ix_mid rfl
    simp only [List.length_cons] at hk
    simp only [impl_Pool_held_l1, e', heldR]
    rw [decide_eq_true (by omega)]
    simp only [cond_true]
    repeat rw [gd_pos (by first | assumption | omega | (intro; first | assumption | omega) | (intro h; cases h; done) | (simp; done) | (simp; omega) | (intros; simp at *; omega))]; try simp (disch := omega) only [wr]
    have ih := fun acc ha => held_l1 (F := F) (f := f) (w := w) (o := o) r (d ++ [x]) acc k (by rw [e]; simp) hw ha (by omega)
    simp only [List.length_append, List.length_cons, List.length_nil, Int.natCast_add] at ih
    by_cases h : x = o
    · simp only [decide_eq_true h, if_pos h, cond_true]
      have := ih (acc ++ [(d.length : Int)]) (by simp; omega)
      simpa using this
    · simp only [decide_eq_false h, if_neg h, cond_false]
      have := ih acc (by omega)
      simpa using this
theorem held_ok {F : Nat} (hF : 2097152 ≤ F) {p : impl_Pool} (hw : p.Owner.length ≤ 32) (o : Int) : impl_Pool_held F p o = some (heldR o p.Owner 0) := by
  have := held_l1 (F := F) (f := p.Free) (w := p.Owner) (o := o) p.Owner [] [] F rfl hw (by simp) (by omega)
  unfold impl_Pool_held
  simp only [List.length_nil, List.nil_append, Int.natCast_zero] at this
  rw [this]
  rfl
theorem act_l1 {F : Nat} {h : List Int} (hh : h.length ≤ 32) : ∀ (r d : List Int) (f w : List Int) (k : Nat), h = d ++ r → f.length ≤ 1073741824 + d.length → (∀ x ∈ h, 0 ≤ x ∧ x < (w.length : Int)) → r.length < k → impl_Pool_act_l1 F h k f w d.length = some (f ++ r, r.foldl (fun w x => w.set x.toNat (-1)) w)
  | [], d, f, w, k, e, hf, hw, hk => by
    obtain ⟨k, rfl⟩ : ∃ m, k = m + 1 := ⟨k - 1, by omega⟩
    subst e
    simp [impl_Pool_act_l1]
  | x :: r, d, f, w, k, e, hf, hw, hk => by
    obtain ⟨k, rfl⟩ : ∃ m, k = m + 1 := ⟨k - 1, by omega⟩
    have hl : h.length = d.length + (r.length + 1) := by rw [e]; simp
    have e' : ix h (d.length : Int) = x := by rw [e]; exact ix_mid rfl
    have hx := hw x (by rw [e]; simp)
    simp only [List.length_cons] at hk
    simp only [impl_Pool_act_l1, e', impl_Pool_release]
    rw [decide_eq_true (by omega)]
    simp only [cond_true]
    repeat rw [gd_pos (by first | assumption | omega | (intro; first | assumption | omega) | (intro h; cases h; done) | (simp; done) | (simp; omega) | (intros; simp at *; omega))]; try simp (disch := omega) only [wr]
    simp only [Option.bind_some]
    have ih := act_l1 (F := F) hh r (d ++ [x]) (f ++ [x]) (w.set x.toNat (-1)) k (by rw [e]; simp) (by simp; omega) (by simpa using hw) (by omega)
    simpa using ih
theorem step_l1 {F : Nat} {a : impl_PoolAct} (ho : a.Owner ≠ -1) : ∀ (r d f : List Int) (c : Int) (k : Nat), d.length + r.length ≤ 32 → f.length ≤ 1073741824 + d.length → 0 ≤ c → c ≤ d.length → r.length < k →
    spec_l12Step_l1 F a k c f (d ++ r) d.length = some (c + (heldR a.Owner r d.length).length, f ++ heldR a.Owner r d.length, d ++ freeR a.Owner r)
  | [], d, f, c, k, hw, hf, h0, hc, hk => by
    obtain ⟨k, rfl⟩ : ∃ m, k = m + 1 := ⟨k - 1, by omega⟩
    simp [spec_l12Step_l1, heldR, freeR]
  | x :: r, d, f, c, k, hw, hf, h0, hc, hk => by
    obtain ⟨k, rfl⟩ : ∃ m, k = m + 1 := ⟨k - 1, by omega⟩
    have hl : (d ++ x :: r).length = d.length + (r.length + 1) := by simp
    have e' : ix (d ++ x :: r) (d.length : Int) = x := ix_mid rfl
    simp only [List.length_cons] at hk hw
    simp only [spec_l12Step_l1, e', heldR, freeR, List.map_cons]
    rw [decide_eq_true (by omega)]
    simp only [cond_true]
    repeat rw [gd_pos (by first | assumption | omega | (intro; first | assumption | omega) | (intro h; cases h; done) | (simp; done) | (simp; omega) | (intros; simp at *; omega))]; try simp (disch := omega) only [wr]
    by_cases h : x = a.Owner
    · have ih := step_l1 (F := F) ho r (d ++ [-1]) (f ++ [(d.length : Int)]) (c + 1) k (by simp; omega) (by simp; omega) (by omega) (by simp; omega) (by omega)
      simp only [decide_eq_true h, if_pos h, cond_true]
      repeat rw [gd_pos (by first | assumption | omega | (intro; first | assumption | omega) | (intro h; cases h; done) | (simp; done) | (simp; omega) | (intros; simp at *; omega))]
      simp only [Option.bind_some, set_mid rfl]
      simp only [freeR, List.append_assoc, List.length_append, List.length_cons, List.length_nil, Int.natCast_add, List.singleton_append, Int.natCast_one, Nat.zero_add] at ih ⊢
      rw [ih]
      simp; omega
    · have ih := step_l1 (F := F) ho r (d ++ [x]) f c k (by simp; omega) (by simp; omega) (by omega) (by simp; omega) (by omega)
      simp only [decide_eq_false h, if_neg h, cond_false]
      simp only [Option.bind_some]
      simp only [freeR, List.append_assoc, List.length_append, List.length_cons, List.length_nil, Int.natCast_add, List.singleton_append, Int.natCast_one, Nat.zero_add] at ih ⊢
      rw [ih]
def stepP (p : impl_Pool) (a : impl_PoolAct) : impl_Pool × impl_PoolReply :=
  if ¬ (1 ≤ a.Kind ∧ a.Kind ≤ 4) then (p, ⟨3, 0⟩)
  else if ¬ (0 ≤ a.Owner ∧ a.Owner ≤ 5) ∨ (a.Kind = 2 ∧ ¬ (0 ≤ a.To ∧ a.To ≤ 5)) then (p, ⟨4, if a.Kind = 2 ∨ a.Kind = 3 then a.Buffer else 0⟩)
  else if a.Kind = 1 then (if p.Free = [] then (p, ⟨7, 0⟩) else (⟨p.Free.drop 1, p.Owner.set (ix p.Free 0).toNat a.Owner⟩, ⟨0, ix p.Free 0⟩))
  else if a.Kind = 4 then (⟨p.Free ++ heldR a.Owner p.Owner 0, freeR a.Owner p.Owner⟩, ⟨0, (heldR a.Owner p.Owner 0).length⟩)
  else if ¬ ((0 ≤ a.Buffer ∧ a.Buffer < p.Owner.length) ∧ ix p.Owner a.Buffer = a.Owner) then (p, ⟨5, a.Buffer⟩)
  else if a.Kind = 2 then (⟨p.Free, p.Owner.set a.Buffer.toNat a.To⟩, ⟨0, a.Buffer⟩)
  else (⟨p.Free ++ [a.Buffer], p.Owner.set a.Buffer.toNat (-1)⟩, ⟨0, a.Buffer⟩)
theorem ix0_mem {l : List Int} (h : l ≠ []) : ix l 0 ∈ l := by
  cases l with
  | nil => exact absurd rfl h
  | cons x r => simp [ix]
theorem act_ok {F : Nat} (hF : 2097152 ≤ F) {p : impl_Pool} (hp : In0 p) (hl : p.Free.length ≤ 1073741824) (a : impl_PoolAct) : impl_Pool_act F p a = some ((stepP p a).2, (stepP p a).1) := by
  obtain ⟨⟨hn1, hn2⟩, hfr⟩ := hp
  unfold impl_Pool_act stepP
  simp only [impl_inRange, impl_isOwner, Option.bind_some]
  by_cases h1 : ¬ (1 ≤ a.Kind ∧ a.Kind ≤ 4)
  · have hd : (decide (1 ≤ a.Kind) && decide (a.Kind ≤ 4)) = false := by simp; omega
    simp [hd, h1]
  rw [if_neg h1]
  have h1 := Classical.not_not.1 h1
  have hd1 : (decide (1 ≤ a.Kind) && decide (a.Kind ≤ 4)) = true := by simp [h1]
  simp only [hd1, Bool.not_true, cond_false]
  by_cases h2 : ¬ (0 ≤ a.Owner ∧ a.Owner ≤ 5) ∨ (a.Kind = 2 ∧ ¬ (0 ≤ a.To ∧ a.To ≤ 5))
  · rw [if_pos h2]
    rcases (show a.Kind = 1 ∨ a.Kind = 2 ∨ a.Kind = 3 ∨ a.Kind = 4 by omega) with e | e | e | e
    all_goals
      by_cases h3 : 0 ≤ a.Owner ∧ a.Owner ≤ 5
      · have hd3 : (decide (0 ≤ a.Owner) && decide (a.Owner ≤ 5)) = true := by simp [h3]
        first
          | (exfalso; omega)
          | (have hd4 : (decide (0 ≤ a.To) && decide (a.To ≤ 5)) = false := by simp; omega
             simp [hd3, hd4, e])
      · have hd3 : (decide (0 ≤ a.Owner) && decide (a.Owner ≤ 5)) = false := by simp; omega
        simp [hd3, e]
  rw [if_neg h2]
  have ho : 0 ≤ a.Owner ∧ a.Owner ≤ 5 := by omega
  have hd3 : (decide (0 ≤ a.Owner) && decide (a.Owner ≤ 5)) = true := by simp [ho]
  rcases (show a.Kind = 1 ∨ a.Kind = 2 ∨ a.Kind = 3 ∨ a.Kind = 4 by omega) with e | e | e | e
  · simp only [hd3, e]
    by_cases hf : p.Free = []
    · simp [impl_Pool_take, hf, Fl.on]
    · have hf' : 1 ≤ p.Free.length := by have := List.length_pos_iff.2 hf; omega
      have hx := hfr _ (ix0_mem hf)
      have hdel : slices_Delete___int_int_ p.Free 0 1 = some (p.Free.drop 1) := by
        unfold slices_Delete___int_int_
        rw [gd_pos (by omega)]
        rw [show decide ((0 : Int) = 1) = false from rfl, cond_false]
        have hs : slc p.Free 0 (Int.toNat 0) ++ slc p.Free (Int.toNat 1) p.Free.length = p.Free.drop 1 := by simp [slc, List.take_of_length_le]
        have hs2 : (slc p.Free 0 (Int.toNat 0)).length + (slc p.Free (Int.toNat 1) p.Free.length).length = p.Free.length - 1 := by simp [slc]
        rw [gd_pos (by omega), gd_pos (by omega), gd_pos (by omega), hs, gd_pos (by simp)]
      simp only [impl_Pool_take]
      rw [decide_eq_false (by omega)]
      rw [cond_false, gd_pos (by omega), hdel, Option.bind_some, gd_pos (by omega)]
      simp [Fl.on, hf]
  · have hto : 0 ≤ a.To ∧ a.To ≤ 5 := by omega
    have hd4 : (decide (0 ≤ a.To) && decide (a.To ≤ 5)) = true := by simp [hto]
    simp only [hd3, hd4, e]
    by_cases h5 : 0 ≤ a.Buffer ∧ a.Buffer < (p.Owner.length : Int)
    · have hd5 : (decide (0 ≤ a.Buffer) && decide (a.Buffer ≤ (p.Owner.length : Int) - 1)) = true := by simp; omega
      try simp (disch := omega) only [wr]
      have h11 : a.Buffer ≤ (p.Owner.length : Int) - 1 := by omega
      by_cases h6 : ix p.Owner a.Buffer = a.Owner <;> simp [hd5, h5, h6, h11, gd, Fl.on]
    · have hd5 : (decide (0 ≤ a.Buffer) && decide (a.Buffer ≤ (p.Owner.length : Int) - 1)) = false := by simp; omega
      try simp (disch := omega) only [wr]
      simp [hd5, h5, gd, Fl.on]
  · simp only [hd3, e]
    by_cases h5 : 0 ≤ a.Buffer ∧ a.Buffer < (p.Owner.length : Int)
    · have hd5 : (decide (0 ≤ a.Buffer) && decide (a.Buffer ≤ (p.Owner.length : Int) - 1)) = true := by simp; omega
      try simp (disch := omega) only [wr]
      have h7 : (p.Free.length + 1) * 8 ≤ 140737488355328 := by omega
      have h11 : a.Buffer ≤ (p.Owner.length : Int) - 1 := by omega
      by_cases h6 : ix p.Owner a.Buffer = a.Owner <;> simp [hd5, h5, h6, h11, h7, gd, Fl.on, impl_Pool_release]
    · have hd5 : (decide (0 ≤ a.Buffer) && decide (a.Buffer ≤ (p.Owner.length : Int) - 1)) = false := by simp; omega
      try simp (disch := omega) only [wr]
      simp [hd5, h5, gd, Fl.on]
  · simp only [hd3, e]
    rw [held_ok hF hn2]
    have := act_l1 (F := F) (h := heldR a.Owner p.Owner 0) (by have := heldR_len a.Owner p.Owner 0; omega) (heldR a.Owner p.Owner 0) [] p.Free p.Owner F rfl (by simp; omega) (fun x hx => by have := heldR_in _ _ _ x hx; omega) (by have := heldR_len a.Owner p.Owner 0; omega)
    have hs := held_set a.Owner p.Owner []
    simp only [List.length_nil, List.nil_append, Int.natCast_zero] at this hs
    simp [this, Fl.on, hs]
theorem own_ok {p : impl_Pool} (hn : p.Owner.length ≤ 1073741824) (hl : p.Free.length ≤ 1073741824) : spec_l12Own p = some p := by
  unfold spec_l12Own
  rw [gd_pos (by simp; omega), gd_pos (by simp; omega)]
  simp
theorem step_ok {F : Nat} (hF : 2097152 ≤ F) {p : impl_Pool} (hp : In0 p) (hl : p.Free.length ≤ 1073741824) (a : impl_PoolAct) : spec_l12Step F p a = some (stepP p a) := by
  obtain ⟨⟨hn1, hn2⟩, hfr⟩ := hp
  unfold spec_l12Step stepP
  have hown := own_ok (p := p) (by omega) hl
  simp only [spec_l01In, Option.bind_some]
  by_cases h1 : ¬ (1 ≤ a.Kind ∧ a.Kind ≤ 4)
  · have hd : (decide (1 ≤ a.Kind) && decide (a.Kind ≤ 4)) = false := by simp; omega
    simp [hd, h1]
  rw [if_neg h1]
  have h1 := Classical.not_not.1 h1
  have hd1 : (decide (1 ≤ a.Kind) && decide (a.Kind ≤ 4)) = true := by simp [h1]
  simp only [hd1, Bool.not_true, cond_false]
  by_cases h2 : ¬ (0 ≤ a.Owner ∧ a.Owner ≤ 5) ∨ (a.Kind = 2 ∧ ¬ (0 ≤ a.To ∧ a.To ≤ 5))
  · rw [if_pos h2]
    rcases (show a.Kind = 1 ∨ a.Kind = 2 ∨ a.Kind = 3 ∨ a.Kind = 4 by omega) with e | e | e | e
    all_goals
      by_cases h3 : 0 ≤ a.Owner ∧ a.Owner ≤ 5
      · have hd3 : (decide (0 ≤ a.Owner) && decide (a.Owner ≤ 5)) = true := by simp [h3]
        first
          | (exfalso; omega)
          | (have hd4 : (decide (0 ≤ a.To) && decide (a.To ≤ 5)) = false := by simp; omega
             simp [hd3, hd4, e])
      · have hd3 : (decide (0 ≤ a.Owner) && decide (a.Owner ≤ 5)) = false := by simp; omega
        simp [hd3, e]
  rw [if_neg h2, hown]
  have ho : 0 ≤ a.Owner ∧ a.Owner ≤ 5 := by omega
  have hd3 : (decide (0 ≤ a.Owner) && decide (a.Owner ≤ 5)) = true := by simp [ho]
  rcases (show a.Kind = 1 ∨ a.Kind = 2 ∨ a.Kind = 3 ∨ a.Kind = 4 by omega) with e | e | e | e
  · simp only [hd3, e]
    by_cases hf : p.Free = []
    · simp [hf, Fl.on]
    · have hf' : 1 ≤ p.Free.length := by have := List.length_pos_iff.2 hf; omega
      have hx := hfr _ (ix0_mem hf)
      have h8 : slc p.Free 1 p.Free.length = p.Free.drop 1 := by simp [slc, List.take_of_length_le]
      have h9 : (p.Free.length - 1) * 8 ≤ 140737488355328 := by omega
      have h10 : (1 : Int) ≤ p.Free.length := by omega
      simp [hf, gd, Fl.on, h8, hx, h9, hf', h10, show 0 < p.Free.length by omega]
  · have hto : 0 ≤ a.To ∧ a.To ≤ 5 := by omega
    have hd4 : (decide (0 ≤ a.To) && decide (a.To ≤ 5)) = true := by simp [hto]
    simp only [hd3, hd4, e]
    by_cases h5 : 0 ≤ a.Buffer ∧ a.Buffer < (p.Owner.length : Int)
    · have hd5 : (decide (0 ≤ a.Buffer) && decide (a.Buffer ≤ (p.Owner.length : Int) - 1)) = true := by simp; omega
      have wr5 : IntKind.wrap .i64 ((p.Owner.length : Int) - 1) = (p.Owner.length : Int) - 1 := wr (by omega)
      have h11 : a.Buffer ≤ (p.Owner.length : Int) - 1 := by omega
      by_cases h6 : ix p.Owner a.Buffer = a.Owner <;> simp [hd5, h5, h6, h11, gd, Fl.on, spec_l12Mine, spec_l01In, wr5]
    · have hd5 : (decide (0 ≤ a.Buffer) && decide (a.Buffer ≤ (p.Owner.length : Int) - 1)) = false := by simp; omega
      have wr5 : IntKind.wrap .i64 ((p.Owner.length : Int) - 1) = (p.Owner.length : Int) - 1 := wr (by omega)
      simp [hd5, h5, gd, Fl.on, spec_l12Mine, spec_l01In, wr5]
  · simp only [hd3, e]
    by_cases h5 : 0 ≤ a.Buffer ∧ a.Buffer < (p.Owner.length : Int)
    · have hd5 : (decide (0 ≤ a.Buffer) && decide (a.Buffer ≤ (p.Owner.length : Int) - 1)) = true := by simp; omega
      have wr5 : IntKind.wrap .i64 ((p.Owner.length : Int) - 1) = (p.Owner.length : Int) - 1 := wr (by omega)
      have h7 : (p.Free.length + 1) * 8 ≤ 140737488355328 := by omega
      have h11 : a.Buffer ≤ (p.Owner.length : Int) - 1 := by omega
      by_cases h6 : ix p.Owner a.Buffer = a.Owner <;> simp [hd5, h5, h6, h11, h7, gd, Fl.on, spec_l12Mine, spec_l01In, wr5]
    · have hd5 : (decide (0 ≤ a.Buffer) && decide (a.Buffer ≤ (p.Owner.length : Int) - 1)) = false := by simp; omega
      have wr5 : IntKind.wrap .i64 ((p.Owner.length : Int) - 1) = (p.Owner.length : Int) - 1 := wr (by omega)
      simp [hd5, h5, gd, Fl.on, spec_l12Mine, spec_l01In, wr5]
  · simp only [hd3, e]
    have := step_l1 (F := F) (a := a) (by omega) p.Owner [] p.Free 0 F (by simp; omega) (by simp; omega) (by omega) (by simp) (by omega)
    simp only [List.length_nil, List.nil_append, Int.natCast_zero] at this
    simp [this, Fl.on]
/-! ### A pool from new, and a run of acts -/
theorem stepP_sz {p : impl_Pool} (hp : In0 p) (a : impl_PoolAct) : (stepP p a).1.Free.length ≤ p.Free.length + 32 ∧ (stepP p a).1.Owner.length = p.Owner.length := by
  have h1 := heldR_len a.Owner p.Owner 0
  have h2 := hp.1.2
  unfold stepP
  repeat' split
  all_goals simp [freeR]
  all_goals omega
theorem stepP_in {p : impl_Pool} (hp : In0 p) (a : impl_PoolAct) : In0 (stepP p a).1 := by
  have h1 := stepP_sz hp a
  obtain ⟨h3, h4⟩ := hp
  refine ⟨by omega, ?_⟩
  rw [h1.2]
  clear h1
  unfold stepP
  repeat' split
  all_goals simp only
  all_goals try exact h4
  · intro x hx; exact h4 x (List.mem_of_mem_drop hx)
  · intro x hx
    rcases List.mem_append.1 hx with hx | hx
    · exact h4 x hx
    · have := heldR_in _ _ _ x hx; omega
  · intro x hx
    rcases List.mem_append.1 hx with hx | hx
    · exact h4 x hx
    · rw [List.mem_singleton.1 hx]; omega
def upto (n : Nat) : List Int := (List.range n).map fun (i : Nat) => (i : Int)
theorem upto_succ (n : Nat) : upto (n + 1) = upto n ++ [(n : Int)] := by simp [upto, List.range_succ]
theorem upto_len (n : Nat) : (upto n).length = n := by simp [upto]
theorem upto_in {n : Nat} {x : Int} (h : x ∈ upto n) : 0 ≤ x ∧ x < n := by
  simp only [upto, List.mem_map, List.mem_range] at h
  obtain ⟨i, h1, rfl⟩ := h
  omega
theorem newI {F n : Nat} (hn : n ≤ 32) : ∀ (m i k : Nat) (s w : List Int), i + m = n → m < k → s = upto i ++ List.replicate m 0 → w = List.replicate i (-1) ++ List.replicate m 0 → impl_NewPool_l1 F (n : Int) k s w (i : Int) = some (upto n, List.replicate n (-1))
  | 0, i, k, s, w, hi, hk, hs, hw => by
    obtain ⟨k, rfl⟩ : ∃ m, k = m + 1 := ⟨k - 1, by omega⟩
    have : i = n := by omega
    subst this
    simp [impl_NewPool_l1, hs, hw]
  | m + 1, i, k, s, w, hi, hk, hs, hw => by
    obtain ⟨k, rfl⟩ : ∃ m, k = m + 1 := ⟨k - 1, by omega⟩
    have ls : s.length = n := by rw [hs]; simp [upto_len]; omega
    have lw : w.length = n := by rw [hw]; simp; omega
    simp only [impl_NewPool_l1]
    rw [decide_eq_true (by omega), cond_true]
    repeat rw [gd_pos (by first | assumption | omega | (intro; first | assumption | omega) | (intro h; cases h; done) | (simp; done) | (simp; omega) | (intros; simp at *; omega))]; try simp (disch := omega) only [wr]
    have ih := newI (F := F) hn m (i + 1) k (s.set (Int.toNat (i : Int)) i) (w.set (Int.toNat (i : Int)) (-1)) (by omega) (by omega) (by
      rw [hs, List.replicate_succ, set_mid (by rw [upto_len]), upto_succ]; simp) (by
      rw [hw, List.replicate_succ, set_mid (by simp), List.replicate_succ']; simp)
    simpa using ih
theorem newS {F n : Nat} (hn : n ≤ 32) : ∀ (m i k : Nat), i + m = n → m < k → spec_NewPool_l1 F (n : Int) k (upto i) (List.replicate i (-1)) (i : Int) = some (upto n, List.replicate n (-1))
  | 0, i, k, hi, hk => by
    obtain ⟨k, rfl⟩ : ∃ m, k = m + 1 := ⟨k - 1, by omega⟩
    have : i = n := by omega
    subst this
    simp [spec_NewPool_l1]
  | m + 1, i, k, hi, hk => by
    obtain ⟨k, rfl⟩ : ∃ m, k = m + 1 := ⟨k - 1, by omega⟩
    have ls := upto_len i
    simp only [spec_NewPool_l1]
    rw [decide_eq_true (by omega), cond_true, gd_pos (by simp; omega), gd_pos (by simp; omega)]
    try simp (disch := omega) only [wr]
    have ih := newS (F := F) hn m (i + 1) k (by omega) (by omega)
    rw [upto_succ, List.replicate_succ'] at ih
    simpa using ih
/-- A pool of n buffers, or that there is none. -/
def newP (n : Int) : impl_Pool × Int := if 1 ≤ n ∧ n ≤ 32 then (⟨upto n.toNat, List.replicate n.toNat (-1)⟩, 0) else (⟨[], []⟩, 4)
theorem newI_ok {F : Nat} (hF : 2097152 ≤ F) (n : Int) : impl_NewPool F n = some (newP n) := by
  unfold impl_NewPool newP
  simp only [impl_inRange, Option.bind_some]
  by_cases h : 1 ≤ n ∧ n ≤ 32
  · obtain ⟨m, rfl⟩ : ∃ m : Nat, n = m := ⟨n.toNat, by omega⟩
    have hd : (decide (1 ≤ (m : Int)) && decide ((m : Int) ≤ 32)) = true := by simp; omega
    rw [hd, if_pos h]
    simp only [Bool.not_true, cond_false]
    have := newI (F := F) (n := m) (by omega) m 0 F (List.replicate m 0) (List.replicate m 0) (by omega) (by omega) (by simp [upto]) (by simp)
    rw [gd_pos (by omega), gd_pos (by omega)]
    simp only [Int.toNat_natCast, Int.natCast_zero] at this ⊢
    rw [this]; rfl
  · have hd : (decide (1 ≤ n) && decide (n ≤ 32)) = false := by simp; omega
    rw [hd, if_neg h]; rfl
theorem newS_ok {F : Nat} (hF : 2097152 ≤ F) (n : Int) : spec_NewPool F n = some (newP n) := by
  unfold spec_NewPool newP
  simp only [spec_l01In, Option.bind_some]
  by_cases h : 1 ≤ n ∧ n ≤ 32
  · obtain ⟨m, rfl⟩ : ∃ m : Nat, n = m := ⟨n.toNat, by omega⟩
    have hd : (decide (1 ≤ (m : Int)) && decide ((m : Int) ≤ 32)) = true := by simp; omega
    rw [hd, if_pos h]
    simp only [Bool.not_true, cond_false]
    have := newS (F := F) (n := m) (by omega) m 0 F (by omega) (by omega)
    rw [show upto 0 = [] from rfl, List.replicate_zero] at this
    simp only [Int.toNat_natCast, Int.natCast_zero] at this ⊢
    rw [this]; rfl
  · have hd : (decide (1 ≤ n) && decide (n ≤ 32)) = false := by simp; omega
    rw [hd, if_neg h]; rfl
theorem newP_in {n : Int} (h : (newP n).2 = 0) : In0 (newP n).1 ∧ (newP n).1.Free.length ≤ 32 ∧ (1 ≤ n ∧ n ≤ 32) := by
  unfold newP at h ⊢
  split at h
  · rename_i h'
    rw [if_pos h']
    refine ⟨⟨by simp; omega, fun x hx => ?_⟩, by simp [upto_len]; omega, h'⟩
    have := upto_in (n := n.toNat) hx
    simp; omega
  · cases h
/-- A pool after a row of acts, and the replies. -/
def runP : impl_Pool → List impl_PoolAct → impl_Pool × List impl_PoolReply
  | p, [] => (p, [])
  | p, a :: r => ((runP (stepP p a).1 r).1, (stepP p a).2 :: (runP (stepP p a).1 r).2)
theorem runP_len : ∀ (r : List impl_PoolAct) (p : impl_Pool), (runP p r).2.length = r.length
  | [], _ => rfl
  | a :: r, p => by simp [runP, runP_len r]
theorem runP_in : ∀ (r : List impl_PoolAct) (p : impl_Pool), In0 p → In0 (runP p r).1 ∧ (runP p r).1.Free.length ≤ p.Free.length + 32 * r.length ∧ (runP p r).1.Owner.length = p.Owner.length
  | [], p, h => ⟨h, by simp [runP], rfl⟩
  | a :: r, p, h => by
    have h1 := runP_in r (stepP p a).1 (stepP_in h a)
    have h2 := stepP_sz h a
    exact ⟨h1.1, by simp only [runP, List.length_cons]; omega, by simp only [runP]; omega⟩
theorem runI {F : Nat} (hF : 2097152 ≤ F) {al : List impl_PoolAct} (hl : al.length ≤ 300) : ∀ (r d : List impl_PoolAct) (p : impl_Pool) (os : List impl_PoolReply) (s : List impl_PoolReply) (k : Nat), al = d ++ r → In0 p → p.Free.length ≤ 32 * d.length + 32 → r.length < k → os.length = d.length → s.length = r.length →
    impl_PoolRun_l1 F al k p.Free p.Owner (os ++ s) (d.length : Int) = some ((runP p r).1.Free, (runP p r).1.Owner, os ++ (runP p r).2)
  | [], d, p, os, s, k, e, hp, hb, hk, ho, hs => by
    obtain ⟨k, rfl⟩ : ∃ m, k = m + 1 := ⟨k - 1, by omega⟩
    have : s = [] := by simpa using hs
    subst this
    subst e
    simp [impl_PoolRun_l1, runP]
  | a :: r, d, p, os, s, k, e, hp, hb, hk, ho, hs => by
    obtain ⟨k, rfl⟩ : ∃ m, k = m + 1 := ⟨k - 1, by omega⟩
    have la : al.length = d.length + (r.length + 1) := by rw [e]; simp
    have e' : ix al (d.length : Int) = a := by rw [e]; exact ix_mid rfl
    simp only [List.length_cons] at hk hs
    cases s with
    | nil => simp at hs
    | cons y s =>
      have h2 := stepP_sz hp a
      simp only [impl_PoolRun_l1]
      rw [decide_eq_true (by omega), cond_true, gd_pos (by omega), e', act_ok hF hp (by omega), Option.bind_some, gd_pos (by simp; omega), set_mid (by rw [ho])]
      try simp (disch := omega) only [wr]
      have ih := runI hF hl r (d ++ [a]) (stepP p a).1 (os ++ [(stepP p a).2]) s k (by rw [e]; simp) (stepP_in hp a) (by simp; omega) (by omega) (by simp [ho]) (by simp at hs; omega)
      simpa [runP] using ih
theorem runS {F : Nat} (hF : 2097152 ≤ F) {al : List impl_PoolAct} (hl : al.length ≤ 300) : ∀ (r d : List impl_PoolAct) (p : impl_Pool) (os : List impl_PoolReply) (k : Nat), al = d ++ r → In0 p → p.Free.length ≤ 32 * d.length + 32 → r.length < k → os.length = d.length →
    spec_PoolRun_l1 F al k p.Free p.Owner os (d.length : Int) = some ((runP p r).1.Free, (runP p r).1.Owner, os ++ (runP p r).2)
  | [], d, p, os, k, e, hp, hb, hk, ho => by
    obtain ⟨k, rfl⟩ : ∃ m, k = m + 1 := ⟨k - 1, by omega⟩
    subst e
    simp [spec_PoolRun_l1, runP]
  | a :: r, d, p, os, k, e, hp, hb, hk, ho => by
    obtain ⟨k, rfl⟩ : ∃ m, k = m + 1 := ⟨k - 1, by omega⟩
    have la : al.length = d.length + (r.length + 1) := by rw [e]; simp
    have e' : ix al (d.length : Int) = a := by rw [e]; exact ix_mid rfl
    simp only [List.length_cons] at hk
    have h2 := stepP_sz hp a
    simp only [spec_PoolRun_l1]
    rw [decide_eq_true (by omega), cond_true, gd_pos (by omega), e', step_ok hF hp (by omega), Option.bind_some, gd_pos (by simp; omega)]
    try simp (disch := omega) only [wr]
    have ih := runS hF hl r (d ++ [a]) (stepP p a).1 (os ++ [(stepP p a).2]) k (by rw [e]; simp) (stepP_in hp a) (by simp; omega) (by omega) (by simp [ho])
    simpa [runP] using ih
/-- What a whole run answers. -/
def wholeP (n : Int) (al : List impl_PoolAct) : impl_Pool × List impl_PoolReply × Int :=
  if 4096 < al.length then (⟨[], []⟩, [], 2) else if (newP n).2 ≠ 0 then (⟨[], []⟩, [], (newP n).2) else if 300 < al.length then (⟨[], []⟩, [], 6) else ((runP (newP n).1 al).1, (runP (newP n).1 al).2, 0)
theorem wholeI {F : Nat} (hF : 2097152 ≤ F) (n : Int) (al : List impl_PoolAct) : impl_PoolRun F n al = some (wholeP n al) := by
  unfold impl_PoolRun wholeP
  by_cases h1 : 4096 < al.length
  · rw [decide_eq_true (by omega), if_pos h1]; rfl
  rw [decide_eq_false (by omega), if_neg h1, cond_false, newI_ok hF, Option.bind_some]
  by_cases h2 : (newP n).2 = 0
  · have hi := newP_in h2
    rw [if_neg (by simp [h2]), decide_eq_true h2]
    simp only [Bool.not_true, cond_false]
    by_cases h3 : 300 < al.length
    · rw [decide_eq_true (by omega), if_pos h3]; rfl
    rw [decide_eq_false (by omega), if_neg h3, cond_false, gd_pos (by omega)]
    have := runI (F := F) (al := al) hF (by omega) al [] (newP n).1 [] (List.replicate (Int.toNat (al.length : Int)) (impl_PoolReply.mk 0 0)) F rfl hi.1 (by simp; omega) (by omega) rfl (by simp)
    simp only [List.length_nil, List.nil_append, Int.natCast_zero] at this
    rw [this]; rfl
  · rw [if_pos h2, decide_eq_false h2]; rfl
theorem wholeS {F : Nat} (hF : 2097152 ≤ F) (n : Int) (al : List impl_PoolAct) : spec_PoolRun F n al = some (wholeP n al) := by
  unfold spec_PoolRun wholeP
  by_cases h1 : 4096 < al.length
  · rw [decide_eq_true (by omega), if_pos h1]; rfl
  rw [decide_eq_false (by omega), if_neg h1, cond_false, newS_ok hF, Option.bind_some]
  by_cases h2 : (newP n).2 = 0
  · have hi := newP_in h2
    rw [if_neg (by simp [h2]), decide_eq_true h2]
    simp only [Bool.not_true, cond_false]
    by_cases h3 : 300 < al.length
    · rw [decide_eq_true (by omega), if_pos h3]; rfl
    rw [decide_eq_false (by omega), if_neg h3, cond_false]
    have := runS (F := F) (al := al) hF (by omega) al [] (newP n).1 [] F rfl hi.1 (by simp; omega) (by omega) rfl
    simp only [List.length_nil, List.nil_append, Int.natCast_zero] at this
    have hr := runP_in al (newP n).1 hi.1
    rw [this, Option.bind_some]
    simp only
    rw [own_ok (p := (runP (newP n).1 al).1) (by have := hi.1.1.2; omega) (by omega)]; rfl
  · rw [if_pos h2, decide_eq_false h2]; rfl
theorem wholeP_sz (n : Int) (al : List impl_PoolAct) : (wholeP n al).1.Free.length ≤ 10000 ∧ (wholeP n al).1.Owner.length ≤ 32 ∧ (wholeP n al).2.1.length ≤ 300 := by
  unfold wholeP
  repeat' split
  · simp
  · simp
  · simp
  · rename_i h1 h2 h3
    have hi := newP_in (n := n) (by omega)
    have hr := runP_in al (newP n).1 hi.1
    have hl := runP_len al (newP n).1
    have := hi.1.1.2
    simp only; omega
/-! ### Every buffer lies in one place -/
structure Good (p : impl_Pool) : Prop where
  in0 : In0 p
  nd : p.Free.Nodup
  free : ∀ x : Int, 0 ≤ x → x < p.Owner.length → (x ∈ p.Free ↔ ix p.Owner x = -1)
  rng : ∀ x ∈ p.Owner, -1 ≤ x ∧ x ≤ 5
  cnt : p.Free.length = p.Owner.count (-1)
theorem ix_set {α : Type} [Inhabited α] {s : List α} {x j : Int} {v : α} (hx : 0 ≤ x ∧ x < (s.length : Int)) (hj : 0 ≤ j) : ix (s.set x.toNat v) j = if j = x then v else ix s j := by
  by_cases h : j = x
  · rw [if_pos h]; subst h; exact ix_set_self hx.1 hx.2
  · rw [if_neg h]
    have : x.toNat ≠ j.toNat := by omega
    simp [ix, List.getD_eq_getElem?_getD, List.getElem?_set_ne this]
theorem ix_getE {α : Type} [Inhabited α] {s : List α} {j : Int} (h0 : 0 ≤ j) (h1 : j < (s.length : Int)) : ∃ h : j.toNat < s.length, ix s j = s[j.toNat] := ⟨by omega, by
  have : j.toNat < s.length := by omega
  simp [ix, List.getD_eq_getElem?_getD, List.getElem?_eq_getElem this]⟩
theorem ix_mem {α : Type} [Inhabited α] {s : List α} {j : Int} (h0 : 0 ≤ j) (h1 : j < (s.length : Int)) : ix s j ∈ s := by
  obtain ⟨h, e⟩ := ix_getE h0 h1
  rw [e]; exact List.getElem_mem h
theorem ix_freeR {o : Int} {w : List Int} {j : Int} (h0 : 0 ≤ j) (h1 : j < (w.length : Int)) : ix (freeR o w) j = if ix w j = o then -1 else ix w j := by
  obtain ⟨h, e⟩ := ix_getE (s := w) h0 h1
  obtain ⟨h', e'⟩ := ix_getE (s := freeR o w) h0 (by simp [freeR]; omega)
  rw [e', e]
  simp [freeR]
theorem heldR_mem {o : Int} : ∀ {w : List Int} {i x : Int}, x ∈ heldR o w i ↔ (i ≤ x ∧ x < i + w.length) ∧ ix w (x - i) = o
  | [], i, x => by simp [heldR]; omega
  | y :: r, i, x => by
    have ih := heldR_mem (o := o) (w := r) (i := i + 1) (x := x)
    have hx : ∀ h : i + 1 ≤ x, ix (y :: r) (x - i) = ix r (x - (i + 1)) := fun h => by
      have : (x - i).toNat = (x - (i + 1)).toNat + 1 := by omega
      simp [ix, this]
    have h0 : ix (y :: r) (i - i) = y := by simp [ix]
    simp only [heldR, List.length_cons]
    by_cases h : y = o
    · rw [if_pos h, List.mem_cons, ih]
      constructor
      · rintro (rfl | ⟨h1, h2⟩)
        · exact ⟨by omega, by rw [h0]; exact h⟩
        · exact ⟨by omega, by rw [hx (by omega)]; exact h2⟩
      · rintro ⟨h1, h2⟩
        by_cases hh : x = i
        · exact .inl hh
        · exact .inr ⟨by omega, by rw [← hx (by omega)]; exact h2⟩
    · rw [if_neg h, ih]
      constructor
      · rintro ⟨h1, h2⟩
        exact ⟨by omega, by rw [hx (by omega)]; exact h2⟩
      · rintro ⟨h1, h2⟩
        by_cases hh : x = i
        · subst hh; rw [h0] at h2; exact absurd h2 h
        · exact ⟨by omega, by rw [← hx (by omega)]; exact h2⟩
theorem heldR_nd {o : Int} : ∀ (w : List Int) (i : Int), (heldR o w i).Nodup
  | [], _ => by simp [heldR]
  | y :: r, i => by
    have ih := heldR_nd (o := o) r (i + 1)
    simp only [heldR]
    split
    · refine List.nodup_cons.2 ⟨fun h => ?_, ih⟩
      have := heldR_in _ _ _ _ h
      omega
    · exact ih
theorem heldR_cnt {o : Int} : ∀ (w : List Int) (i : Int), (heldR o w i).length = w.count o
  | [], _ => rfl
  | y :: r, i => by
    have ih := heldR_cnt (o := o) r (i + 1)
    simp only [heldR, List.count_cons]
    by_cases h : y = o
    · simp [h, ih]
    · simp [h, ih]
theorem freeR_cnt {o : Int} (ho : o ≠ -1) : ∀ w : List Int, (freeR o w).count (-1) = w.count (-1) + w.count o
  | [] => rfl
  | y :: r => by
    have ih := freeR_cnt ho r
    simp only [freeR] at ih
    simp only [freeR, List.map_cons, List.count_cons, ih]
    by_cases h : y = o
    · subst h; simp [ho]; omega
    · by_cases h' : y = -1
      · subst h'; simp [h]; omega
      · simp [h, h']
theorem sum_cnt : ∀ w : List Int, (∀ x ∈ w, -1 ≤ x ∧ x ≤ 5) → w.count (-1) + w.count 0 + w.count 1 + w.count 2 + w.count 3 + w.count 4 + w.count 5 = w.length
  | [], _ => rfl
  | y :: r, h => by
    have ih := sum_cnt r (fun x hx => h x (List.mem_cons_of_mem _ hx))
    have hy := h y List.mem_cons_self
    simp only [List.count_cons, List.length_cons]
    rcases (show y = -1 ∨ y = 0 ∨ y = 1 ∨ y = 2 ∨ y = 3 ∨ y = 4 ∨ y = 5 by omega) with e | e | e | e | e | e | e <;> subst e <;> simp <;> omega
theorem Good.new {n : Int} (h : (newP n).2 = 0) : Good (newP n).1 := by
  have hi := newP_in h
  have hn := hi.2.2
  have e : newP n = (⟨upto n.toNat, List.replicate n.toNat (-1)⟩, 0) := if_pos hn
  rw [e] at hi ⊢
  have hr : ∀ x : Int, 0 ≤ x → x < n → ix (List.replicate n.toNat (-1)) x = (-1 : Int) := fun x h1 h2 => by
    have : x.toNat < n.toNat := by omega
    simp [ix, List.getD_eq_getElem?_getD, List.getElem?_replicate, this]
  refine ⟨hi.1, ?_, fun x h1 h2 => ?_, fun x hx => ?_, ?_⟩
  · simp only [upto]
    exact List.pairwise_map.2 (List.Pairwise.imp (fun h e => h (by omega)) (List.nodup_range (n := n.toNat)))
  · simp only [List.length_replicate] at h2
    rw [hr x h1 (by omega)]
    refine ⟨fun _ => rfl, fun _ => ?_⟩
    simp only [upto, List.mem_map, List.mem_range]
    exact ⟨x.toNat, by omega, by omega⟩
  · simp only at hx
    rw [List.eq_of_mem_replicate hx]; omega
  · simp [upto_len]
theorem Good.step {p : impl_Pool} (h : Good p) (a : impl_PoolAct) : Good (stepP p a).1 := by
  have hin := stepP_in h.in0 a
  obtain ⟨h0, h1, h2, h3, h4⟩ := h
  revert hin
  unfold stepP
  repeat' split
  all_goals intro hin
  all_goals try exact ⟨h0, h1, h2, h3, h4⟩
  · rename_i g1 g2 g3 g4
    cases hf : p.Free with
    | nil => exact absurd hf g4
    | cons x r =>
      have hx := h0.2 x (by rw [hf]; simp)
      have ex : ix (x :: r) 0 = x := by simp [ix]
      have hox : ix p.Owner x = -1 := (h2 x hx.1 hx.2).1 (by rw [hf]; simp)
      rw [hf] at h1
      have hn := List.nodup_cons.1 h1
      rw [hf, ex] at hin
      rw [ex]
      refine ⟨hin, hn.2, fun y hy hy' => ?_, fun y hy => ?_, ?_⟩
      · simp only [List.drop_one, List.tail_cons, List.length_set] at hy' ⊢
        rw [ix_set hx hy]
        by_cases e : y = x
        · subst e; rw [if_pos rfl]; exact ⟨fun h => absurd h hn.1, fun h => by omega⟩
        · rw [if_neg e, ← h2 y hy hy', hf]; simp [e]
      · rcases List.mem_or_eq_of_mem_set hy with hy | rfl
        · exact h3 y hy
        · omega
      · obtain ⟨hb, eb⟩ := ix_getE hx.1 hx.2
        simp only [List.drop_one, List.tail_cons]
        rw [List.count_set hb, ← eb, hox]
        rw [hf] at h4
        simp only [List.length_cons] at h4
        have : (a.Owner == -1) = false := by simp; omega
        rw [this]
        simp; omega
  · rename_i g1 g2 g3 g4
    refine ⟨hin, ?_, fun y hy hy' => ?_, fun y hy => ?_, ?_⟩
    · refine List.nodup_append.2 ⟨h1, heldR_nd _ _, fun x hx y hy e => ?_⟩
      subst e
      have h5 := h0.2 x hx
      have h6 := (h2 x h5.1 h5.2).1 hx
      have h7 := (heldR_mem.1 hy).2
      rw [show x - 0 = x by omega] at h7
      omega
    · simp only [freeR, List.length_map] at hy' 
      rw [ix_freeR hy hy', List.mem_append, h2 y hy hy', heldR_mem]
      rw [show y - 0 = y by omega]
      by_cases e : ix p.Owner y = a.Owner
      · rw [if_pos e]; exact ⟨fun _ => rfl, fun _ => .inr ⟨by omega, e⟩⟩
      · rw [if_neg e]; exact ⟨fun h => h.elim id (fun h => absurd h.2 e), .inl⟩
    · simp only [freeR, List.mem_map] at hy
      obtain ⟨z, hz, rfl⟩ := hy
      have := h3 z hz
      split <;> omega
    · simp only [List.length_append]
      rw [freeR_cnt (by omega), heldR_cnt, h4]
  · rename_i g1 g2 g3 g4 g5 g6
    have g5 := Classical.not_not.1 g5
    obtain ⟨hb, eb⟩ := ix_getE g5.1.1 g5.1.2
    refine ⟨hin, h1, fun y hy hy' => ?_, fun y hy => ?_, ?_⟩
    · simp only [List.length_set] at hy'
      rw [ix_set g5.1 hy, h2 y hy hy']
      by_cases e : y = a.Buffer
      · subst e; rw [if_pos rfl]; omega
      · rw [if_neg e]
    · rcases List.mem_or_eq_of_mem_set hy with hy | rfl
      · exact h3 y hy
      · omega
    · simp only
      rw [List.count_set hb, ← eb, g5.2, h4]
      have e1 : (a.Owner == -1) = false := by simp; omega
      have e2 : (a.To == -1) = false := by simp; omega
      rw [e1, e2]; simp
  · rename_i g1 g2 g3 g4 g5 g6
    have g5 := Classical.not_not.1 g5
    obtain ⟨hb, eb⟩ := ix_getE g5.1.1 g5.1.2
    have hno : a.Buffer ∉ p.Free := fun h => by
      have := (h2 _ g5.1.1 g5.1.2).1 h
      omega
    refine ⟨hin, ?_, fun y hy hy' => ?_, fun y hy => ?_, ?_⟩
    · refine List.nodup_append.2 ⟨h1, by simp, fun x hx y hy e => ?_⟩
      rw [List.mem_singleton.1 hy] at e
      subst e; exact hno hx
    · simp only [List.length_set] at hy'
      rw [ix_set g5.1 hy, List.mem_append, h2 y hy hy', List.mem_singleton]
      by_cases e : y = a.Buffer
      · subst e; rw [if_pos rfl]; simp
      · rw [if_neg e]; simp [e]
    · rcases List.mem_or_eq_of_mem_set hy with hy | rfl
      · exact h3 y hy
      · omega
    · simp only [List.length_append]
      rw [List.count_set hb, ← eb, g5.2, h4]
      have e1 : (a.Owner == -1) = false := by simp; omega
      rw [e1]; simp
/-! ### The pool's look over itself -/
theorem goodOK1 {F : Nat} {p : impl_Pool} (h : Good p) : ∀ (r d : List Int) (s : List Bool) (k : Nat), p.Free = d ++ r → r.length < k → s.length = 32 → (∀ j : Int, 0 ≤ j → j < p.Owner.length → ix s j = decide (j ∈ d)) →
    T (impl_PoolOK_l1 F p k s (d.length : Int)) fun q => ∃ s, q = .go s ∧ s.length = 32 ∧ ∀ j : Int, 0 ≤ j → j < p.Owner.length → ix s j = decide (j ∈ p.Free)
  | [], d, s, k, e, hk, hs, hj => by
    obtain ⟨k, rfl⟩ : ∃ m, k = m + 1 := ⟨k - 1, by omega⟩
    have e' : p.Free = d := by rw [e]; simp
    have : (d.length : Int) = p.Free.length := by rw [e']
    simp only [impl_PoolOK_l1]
    rw [decide_eq_false (by omega), cond_false]
    exact T_some ⟨s, rfl, hs, by rw [e']; exact hj⟩
  | x :: r, d, s, k, e, hk, hs, hj => by
    obtain ⟨k, rfl⟩ : ∃ m, k = m + 1 := ⟨k - 1, by omega⟩
    have hl : p.Free.length = d.length + (r.length + 1) := by rw [e]; simp
    have hl' : p.Free.length ≤ p.Owner.length := by rw [h.cnt]; exact List.count_le_length
    have e' : ix p.Free (d.length : Int) = x := by rw [e]; exact ix_mid rfl
    have hn := h.in0.1
    have hx := h.in0.2 x (by rw [e]; simp)
    have hnd := h.nd
    have hno : x ∉ d := fun hm => by
      rw [e] at hnd
      exact (List.nodup_append.1 hnd).2.2 x hm x (by simp) rfl
    simp only [List.length_cons] at hk
    simp only [impl_PoolOK_l1, e', impl_inRange, Option.bind_some]
    have w1 : IntKind.wrap .i64 ((p.Owner.length : Int) - 1) = (p.Owner.length : Int) - 1 := wr (by omega)
    have w2 : IntKind.wrap .i64 ((d.length : Int) + 1) = (d.length : Int) + 1 := wr (by omega)
    have hd : (decide (0 ≤ x) && decide (x ≤ (p.Owner.length : Int) - 1)) = true := by simp; omega
    rw [decide_eq_true (by omega), cond_true, w1, w2, hd, hj x hx.1 hx.2, decide_eq_false hno]
    simp only [Bool.not_true, Bool.not_false, Bool.false_or, cond_false]
    repeat rw [gd_pos (by first | assumption | omega | (intro; first | assumption | omega) | (intro h; cases h; done) | (simp; done) | (simp; omega) | (intros; simp at *; omega))]
    have ih := goodOK1 (F := F) h r (d ++ [x]) (s.set x.toNat true) k (by rw [e]; simp) (by omega) (by simpa using hs) (fun j h0 h1 => by
      rw [ix_set (by omega) h0]
      by_cases ee : j = x
      · subst ee; simp
      · rw [if_neg ee, hj j h0 h1]; simp [ee])
    simpa using ih
theorem goodOK2 {F : Nat} {p : impl_Pool} (h : Good p) {s : List Bool} (hs : s.length = 32) (hj : ∀ j : Int, 0 ≤ j → j < p.Owner.length → ix s j = decide (j ∈ p.Free)) : ∀ (m i k : Nat), i + m = p.Owner.length → m < k → impl_PoolOK_l2 F p s k (i : Int) = some (.go ())
  | 0, i, k, e, hk => by
    obtain ⟨k, rfl⟩ : ∃ m, k = m + 1 := ⟨k - 1, by omega⟩
    simp only [impl_PoolOK_l2]
    rw [decide_eq_false (by omega), cond_false]
  | m + 1, i, k, e, hk => by
    obtain ⟨k, rfl⟩ : ∃ m, k = m + 1 := ⟨k - 1, by omega⟩
    have hn := h.in0.1
    have hx := h.rng _ (ix_mem (s := p.Owner) (j := (i : Int)) (by omega) (by omega))
    have ih := goodOK2 (F := F) h hs hj m (i + 1) k (by omega) (by omega)
    have hf := h.free i (by omega) (by omega)
    simp only [impl_PoolOK_l2, impl_isOwner, impl_inRange, Option.bind_some]
    have w2 : IntKind.wrap .i64 ((i : Int) + 1) = ((i + 1 : Nat) : Int) := by rw [wr (by omega)]; omega
    rw [decide_eq_true (by omega), cond_true, w2, hj i (by omega) (by omega), ih]
    repeat rw [gd_pos (by first | assumption | omega | (intro; first | assumption | omega) | (intro h; cases h; done) | (simp; done) | (simp; omega) | (intros; simp at *; omega))]
    by_cases q : ix p.Owner (i : Int) = -1
    · have := hf.2 q
      simp [q, this]
    · have h1 : ¬ ((i : Int) ∈ p.Free) := fun hh => q (hf.1 hh)
      have h2 : 0 ≤ ix p.Owner (i : Int) := by omega
      simp [q, h1, h2, hx.2]
theorem good_ok {F : Nat} (hF : 2097152 ≤ F) {p : impl_Pool} (h : Good p) : impl_PoolOK F p = some true := by
  have hn := h.in0.1
  have hl : p.Free.length ≤ p.Owner.length := by rw [h.cnt]; exact List.count_le_length
  unfold impl_PoolOK
  have hd : (decide ((1 : Int) ≤ (p.Owner.length : Int)) && decide ((p.Owner.length : Int) ≤ 32)) = true := by simp; omega
  simp only [impl_inRange, Option.bind_some, hd, Bool.not_true, Bool.false_or]
  rw [decide_eq_false (by omega), cond_false]
  have h0 : ∀ (n : Nat) (j : Int), ix (List.replicate n false) j = false := fun n j => by
    simp only [ix, List.getD_eq_getElem?_getD, List.getElem?_replicate]; split <;> rfl
  obtain ⟨q, e, s, rfl, hs, hj⟩ := goodOK1 (F := F) h p.Free [] (List.replicate 32 false) F rfl (by omega) rfl (fun j _ _ => by rw [h0]; simp)
  have e2 := goodOK2 (F := F) h hs hj p.Owner.length 0 F (by omega) (by omega)
  simp only [List.length_nil, Int.natCast_zero] at e e2
  simp only [e, e2, Option.bind_some, Fl.on]
theorem clonePool_ok {p : impl_Pool} (h : p.Free.length ≤ 1000000 ∧ p.Owner.length ≤ 1000000) : impl_clonePool p = some p := by
  unfold impl_clonePool
  rw [gd_pos (by simp; omega), gd_pos (by simp; omega)]
  simp
theorem good_len {p : impl_Pool} (h : Good p) : p.Free.length ≤ 32 ∧ p.Owner.length ≤ 32 := by
  have hn := h.in0.1
  have hl : p.Free.length ≤ p.Owner.length := by rw [h.cnt]; exact List.count_le_length
  omega
theorem has_ok {F : Nat} {l : List Int} {x : Int} (hl : l.length ≤ 1000) : ∀ (r d : List Int) (k : Nat), l = d ++ r → x ∈ r → r.length < k → laws_has_l1 F l x k (d.length : Int) = some (.out true)
  | [], d, k, e, hx, hk => by cases hx
  | y :: r, d, k, e, hx, hk => by
    obtain ⟨k, rfl⟩ : ∃ m, k = m + 1 := ⟨k - 1, by omega⟩
    have ll : l.length = d.length + (r.length + 1) := by rw [e]; simp
    have e' : ix l (d.length : Int) = y := by rw [e]; exact ix_mid rfl
    simp only [List.length_cons] at hk
    simp only [laws_has_l1, e']
    rw [decide_eq_true (by omega), cond_true, gd_pos (by omega), wr (by omega)]
    by_cases h : y = x
    · rw [decide_eq_true h]; rfl
    · rw [decide_eq_false h, cond_false]
      have ih := has_ok (F := F) hl r (d ++ [y]) k (by rw [e]; simp) ((List.mem_cons.1 hx).resolve_left (fun e => h e.symm)) (by omega)
      simpa using ih
theorem poolHeld_ok {F : Nat} (hF : 2097152 ≤ F) {p : impl_Pool} (h : Good p) {o : Int} (ho : 0 ≤ o ∧ o ≤ 5) : impl_PoolHeld F p o = some (heldR o p.Owner 0, 0) := by
  unfold impl_PoolHeld
  have hd : (decide (0 ≤ o) && decide (o ≤ 5)) = true := by simp [ho]
  simp only [good_ok hF h, held_ok hF h.in0.1.2, impl_isOwner, impl_inRange, Option.bind_some, hd, Bool.not_true, cond_false]
theorem sum_ok {F : Nat} (hF : 2097152 ≤ F) {q : impl_Pool × impl_PoolReply × Int} (h : Good q.1) : laws_FnPool_l2 F q F (q.1.Free.length : Int) 0 = some (.go (q.1.Owner.length : Int)) := by
  have hl := good_len h
  have hc : ∀ o, q.1.Owner.count o ≤ 32 := fun o => Nat.le_trans List.count_le_length hl.2
  have := sum_cnt q.1.Owner h.rng
  have hh := fun o (ho : 0 ≤ o ∧ o ≤ 5) => poolHeld_ok hF h (o := o) ho
  have c0 := hc 0; have c1 := hc 1; have c2 := hc 2; have c3 := hc 3; have c4 := hc 4; have c5 := hc 5
  have key : ∀ (k : Nat) (c : Int) (o : Int), 0 ≤ c ∧ c ≤ 1000 → 0 ≤ o ∧ o ≤ 5 → laws_FnPool_l2 F q (k + 1) c o = laws_FnPool_l2 F q k (c + (q.1.Owner.count o : Int)) (o + 1) := fun k c o hk ho => by
    have := hc o
    simp only [laws_FnPool_l2]
    rw [decide_eq_true (by omega), cond_true, hh o ho]
    simp only [Option.bind_some, decide_true, Bool.not_true, cond_false, heldR_cnt]
    rw [wr (by omega), wr (by omega)]
  obtain ⟨k, rfl⟩ : ∃ k, F = k + 7 := ⟨F - 7, by omega⟩
  have e : laws_FnPool_l2 (k + 7) q (k + 7) (q.1.Free.length : Int) 0 = laws_FnPool_l2 (k + 7) q (k + 1) (q.1.Owner.length : Int) 6 := by
    rw [key (k + 6) _ 0 (by omega) (by omega), show (0 : Int) + 1 = 1 from rfl, key (k + 5) _ 1 (by omega) (by omega), show (1 : Int) + 1 = 2 from rfl, key (k + 4) _ 2 (by omega) (by omega), show (2 : Int) + 1 = 3 from rfl, key (k + 3) _ 3 (by omega) (by omega), show (3 : Int) + 1 = 4 from rfl, key (k + 2) _ 4 (by omega) (by omega), show (4 : Int) + 1 = 5 from rfl, key (k + 1) _ 5 (by omega) (by omega), show (5 : Int) + 1 = 6 from rfl]
    have hcn := h.cnt
    congr 1
    omega
  rw [e]
  simp [laws_FnPool_l2]
theorem all_ok {F : Nat} (hF : 2097152 ≤ F) {z : Int} (hz : 0 ≤ z ∧ z < 32) {al : List impl_PoolAct} (hl : al.length ≤ 300) {w w' : impl_Pool × List impl_PoolReply × Int} (p0 : impl_Pool) (hw : w.2.1 = (runP p0 al).2) (hw' : w'.2.1 = (runP p0 al).2) :
    ∀ (r d : List impl_PoolAct) (p : impl_Pool) (os : List impl_PoolReply) (k : Nat), al = d ++ r → (runP p0 al).2 = os ++ (runP p r).2 → os.length = d.length → Good p → (p.Owner.length : Int) = 1 + z → r.length < k → laws_FnPool_l1 F z al w w' k p.Free p.Owner (d.length : Int) = some (.go ())
  | [], d, p, os, k, e, eo, ho, hp, hn, hk => by
    obtain ⟨k, rfl⟩ : ∃ m, k = m + 1 := ⟨k - 1, by omega⟩
    have : al.length = d.length := by rw [e]; simp
    simp only [laws_FnPool_l1]
    rw [decide_eq_false (by omega), cond_false]
  | a :: r, d, p, os, k, e, eo, ho, hp, hn, hk => by
    obtain ⟨k, rfl⟩ : ∃ m, k = m + 1 := ⟨k - 1, by omega⟩
    have ll : al.length = d.length + (r.length + 1) := by rw [e]; simp
    have lr := runP_len al p0
    have e' : ix al (d.length : Int) = a := by rw [e]; exact ix_mid rfl
    have eo' : ix (runP p0 al).2 (d.length : Int) = (stepP p a).2 := by rw [eo]; exact ix_mid (by rw [ho])
    simp only [List.length_cons] at hk
    have g := good_len hp
    have hstep : impl_PoolStep F p a = some ((stepP p a).1, (stepP p a).2, 0) := by
      unfold impl_PoolStep
      rw [good_ok hF hp, Option.bind_some, clonePool_ok (by omega), Option.bind_some, act_ok hF hp.in0 (by omega)]; rfl
    have hs := hp.step a
    have hhas : (bif decide (a.Kind = 1) && decide ((stepP p a).2.Code = 0) then laws_has F p.Free (stepP p a).2.Buffer else some false) = some (decide (a.Kind = 1) && decide ((stepP p a).2.Code = 0)) := by
      by_cases q : a.Kind = 1 ∧ (stepP p a).2.Code = 0
      · have hm : (stepP p a).2.Buffer ∈ p.Free := by
          obtain ⟨q1, q2⟩ := q
          revert q2
          unfold stepP
          repeat' split
          all_goals intro q2
          all_goals first
            | (simp only at q2; omega)
            | (exfalso; omega)
            | exact ix0_mem (by assumption)
        rw [decide_eq_true q.1, decide_eq_true q.2]
        simp only [Bool.and_self, cond_true, laws_has]
        have := has_ok (F := F) (l := p.Free) (by omega) p.Free [] F rfl hm (by omega)
        simp only [List.length_nil, Int.natCast_zero] at this
        rw [this]; rfl
      · have : (decide (a.Kind = 1) && decide ((stepP p a).2.Code = 0)) = false := by simp; omega
        rw [this]; rfl
    have hsum := sum_ok hF (q := ((stepP p a).1, (stepP p a).2, 0)) hs
    have hok := good_ok hF hs
    have hlen := stepP_sz hp.in0 a
    have wz : IntKind.wrap .i64 (1 + z) = 1 + z := wr (by omega)
    have ih := all_ok hF hz hl p0 hw hw' r (d ++ [a]) (stepP p a).1 (os ++ [(stepP p a).2]) k (by rw [e]; simp) (by rw [eo]; simp [runP]) (by simp [ho]) hs (by rw [hlen.2]; exact hn) (by omega)
    simp only [List.length_append, List.length_cons, List.length_nil, Int.natCast_add] at ih
    simp only [laws_FnPool_l1, hw, hw', e', eo']
    rw [decide_eq_true (by omega), cond_true, gd_pos (by omega), hstep, Option.bind_some]
    rw [gd_pos (by intro; omega), gd_pos (by intro; omega)]
    simp only [decide_true, Bool.not_true, Bool.false_or, Bool.or_false, cond_false]
    rw [gd_pos (by omega), hhas, Option.bind_some]
    simp only [Bool.and_not_self, cond_false]
    rw [hsum, Option.bind_some]
    simp only [Fl.on]
    rw [wz, hlen.2, decide_eq_true hn]
    simp only [Bool.not_true, Bool.not_false, cond_true, hok, Option.bind_some, Bool.false_or, cond_false]
    rw [wr (by omega)]
    simpa using ih
theorem main {F : Nat} (hF : 2097152 ≤ F) {a b : List Int} (ha : okT (inK .u8) a) (hb : okT (inK .u8) b) : laws_FnPool F a b = some true := by
  unfold laws_FnPool
  by_cases h : 1048576 < a.length ∨ 1048576 < b.length
  · have : (decide ((1048576 : Int) < (a.length : Int)) || decide ((1048576 : Int) < (b.length : Int))) = true := by simp; omega
    rw [this]; rfl
  have hd : (decide ((1048576 : Int) < (a.length : Int)) || decide ((1048576 : Int) < (b.length : Int))) = false := by simp; omega
  rw [hd, cond_false]
  obtain ⟨z, e1, hz⟩ := at_ok (byt_of hb (by omega)) (i := 0) (n := 32) (by omega)
  have hz := (⟨hz.1, hz.2 (by omega)⟩ : 0 ≤ z ∧ z < 32)
  obtain ⟨al, e2, hl⟩ := poolActs_ok hF (byt_of ha (by omega))
  have wz : IntKind.wrap .i64 (1 + z) = 1 + z := wr (by omega)
  have hn : (newP (1 + z)).2 = 0 := by unfold newP; rw [if_pos (by omega)]
  have hg := Good.new hn
  have hw : wholeP (1 + z) al = ((runP (newP (1 + z)).1 al).1, (runP (newP (1 + z)).1 al).2, 0) := by
    unfold wholeP
    rw [if_neg (by omega), if_neg (by omega), if_neg (by omega)]
  have hlen : ((newP (1 + z)).1.Owner.length : Int) = 1 + z := by unfold newP; rw [if_pos (by omega)]; simp; omega
  have hr := runP_len al (newP (1 + z)).1
  rw [e1, Option.bind_some, e2, Option.bind_some, wz, newI_ok hF, Option.bind_some, wholeI hF, Option.bind_some, wholeS hF, Option.bind_some, hw, hn]
  simp only [hr, decide_true, Bool.not_true, Bool.or_false, cond_false]
  have := all_ok hF hz hl (w := ((runP (newP (1 + z)).1 al).1, (runP (newP (1 + z)).1 al).2, 0)) (w' := ((runP (newP (1 + z)).1 al).1, (runP (newP (1 + z)).1 al).2, 0)) (newP (1 + z)).1 rfl rfl al [] (newP (1 + z)).1 [] F rfl rfl rfl hg hlen (by omega)
  simp only [List.length_nil, Int.natCast_zero] at this
  rw [this]; rfl
theorem pure : Pure := fun a b ha hb => ⟨2097152, main (Nat.le_refl _) ha hb⟩
end Go.Proofs.Ytpkdolmbhfmjcaa.FnPool
