/- The plain laws' tools: what a plain function answers, loops, copies, marks. -/
import Derived.Test.YtpkdolmbhfmjcaaGwR
import Derived.IntWalk
set_option linter.unusedVariables false
set_option linter.unusedSimpArgs false
set_option linter.unusedSectionVars false
namespace Go.Proofs.Gw
open Go.RowKit

theorem gd_pos {α : Type} {p : Prop} [Decidable p] {x : Option α} (h : p) : gd p x = x := if_pos h
theorem wr {n : Int} (h : -9223372036854775808 ≤ n ∧ n ≤ 9223372036854775807) : IntKind.wrap .i64 n = n := IntWalk.i64_in n h

/-! ### What a plain function answers -/
def T {α : Type} (e : Option α) (Q : α → Prop) : Prop := ∃ r, e = some r ∧ Q r
section
variable {α β σ : Type} {Q : α → Prop} {e x y : Option α} {a : α}
theorem T_some (h : Q a) : T (some a) Q := ⟨a, rfl, h⟩
theorem T_gd {p : Prop} [Decidable p] (h : p) (k : T e Q) : T (gd p e) Q := by rw [gd_pos h]; exact k
theorem T_bind {e : Option β} {f : β → Option α} (h : T e fun r => T (f r) Q) : T (e.bind f) Q := by
  obtain ⟨r, rfl, h⟩ := h; exact h
theorem T_bif {b : Bool} (h1 : b = true → T x Q) (h2 : b = false → T y Q) : T (bif b then x else y) Q := by
  cases b
  · exact h2 rfl
  · exact h1 rfl
theorem T_mono {R : α → Prop} (h : T e R) (k : ∀ r, R r → Q r) : T e Q := by
  obtain ⟨r, h1, h2⟩ := h; exact ⟨r, h1, k r h2⟩
theorem T_eq (h : e = some a) (k : Q a) : T e Q := ⟨a, h, k⟩
theorem T_use {e : Option β} {f : β → Option α} {R : β → Prop} (h : T e R) (k : ∀ r, R r → T (f r) Q) : T (e.bind f) Q := T_bind (T_mono h k)
theorem T_out {k : σ → Option α} (h : Q a) : T ((Fl.out a : Fl α σ).on k) Q := ⟨a, rfl, h⟩
theorem T_go {k : σ → Option α} {s : σ} (h : T (k s) Q) : T ((Fl.go s : Fl α σ).on k) Q := h
theorem T_is (h : T e fun r => r = a) : e = some a := by obtain ⟨r, h, rfl⟩ := h; exact h
/-- A loop with fuel: what holds of its state, and what grows less. -/
theorem T_loop {f : Nat → σ → Option α} (I : σ → Prop) (μ : σ → Nat) (step : ∀ k s, I s → (∀ s', I s' → μ s' < μ s → T (f k s') Q) → T (f (k + 1) s) Q) : ∀ k s, I s → μ s < k → T (f k s) Q
  | 0, s, _, h => absurd h (Nat.not_lt_zero _)
  | k + 1, s, hI, hk => step k s hI fun s' h1 h2 => T_loop I μ step k s' h1 (by omega)
end

/-! ### Rows -/
section
variable {α : Type} [Inhabited α]
theorem ix_mid {d r : List α} {x : α} {i : Int} (h : i = (d.length : Int)) : ix (d ++ x :: r) i = x := by
  subst h; simp [ix]
theorem set_mid {d r : List α} {x y : α} {i : Int} (h : i = (d.length : Int)) : (d ++ x :: r).set i.toNat y = d ++ y :: r := by
  subst h; simp
/-- A loop that copies a row into one of its length. -/
theorem copy_loop {a : List α} {f : Nat → List α → Int → Option (List α)} (hz : ∀ k s, f (k + 1) s (a.length : Int) = some s)
    (hs : ∀ k s (i : Int), 0 ≤ i → i < a.length → s.length = a.length → f (k + 1) s i = f k (s.set i.toNat (ix a i)) (i + 1)) :
    ∀ (r d s' : List α) (k : Nat), a = d ++ r → s'.length = r.length → r.length < k → f k (d ++ s') (d.length : Int) = some a
  | [], d, s', k, ha, hl, hk => by
    obtain ⟨k, rfl⟩ : ∃ m, k = m + 1 := ⟨k - 1, by simp at hk; omega⟩
    have e : d = a := by rw [ha]; simp
    have e2 : s' = [] := by simpa using hl
    subst e; subst e2
    rw [hz]; simp
  | x :: r, d, s', k, ha, hl, hk => by
    obtain ⟨k, rfl⟩ : ∃ m, k = m + 1 := ⟨k - 1, by simp at hk; omega⟩
    cases s' with
    | nil => simp at hl
    | cons y s' =>
      simp only [List.length_cons] at hl hk
      rw [hs k _ _ (by omega) (by rw [ha]; simp; omega) (by rw [ha]; simp; omega), set_mid rfl]
      have e : ix a (d.length : Int) = x := by rw [ha]; exact ix_mid rfl
      rw [e]
      have := copy_loop hz hs r (d ++ [x]) s' k (by rw [ha]; simp) (by omega) (by omega)
      simpa using this
theorem copy_all {a : List α} {f : Nat → List α → Int → Option (List α)} {z : α} {k : Nat} (hk : a.length < k) (hz : ∀ k s, f (k + 1) s (a.length : Int) = some s)
    (hs : ∀ k s (i : Int), 0 ≤ i → i < a.length → s.length = a.length → f (k + 1) s i = f k (s.set i.toNat (ix a i)) (i + 1)) : f k (List.replicate (Int.toNat (a.length : Int)) z) 0 = some a :=
  copy_loop hz hs a [] (List.replicate a.length z) k rfl (by simp) hk
/-- A loop that looks at every place of a row and goes on. -/
theorem same_loop {β : Type} {n : Nat} {v : β} {f : Nat → Int → Option β} (hz : ∀ k, f (k + 1) (n : Int) = some v)
    (hs : ∀ k (i : Int), 0 ≤ i → i < n → f (k + 1) i = f k (i + 1)) : ∀ (m : Nat) (i k : Nat), i + m = n → m < k → f k (i : Int) = some v
  | 0, i, k, h, hk => by
    obtain ⟨k, rfl⟩ : ∃ m, k = m + 1 := ⟨k - 1, by omega⟩
    rw [show i = n by omega, hz]
  | m + 1, i, k, h, hk => by
    obtain ⟨k, rfl⟩ : ∃ m, k = m + 1 := ⟨k - 1, by omega⟩
    rw [hs k _ (by omega) (by omega)]
    exact same_loop hz hs m (i + 1) k (by omega) (by omega)
/-- What a mark writes: element by element, the counter handed on. -/
def markL (m : α → Int → α × Int) : List α → Int → List α × Int
  | [], c => ([], c)
  | x :: r, c => ((m x c).1 :: (markL m r (m x c).2).1, (markL m r (m x c).2).2)
theorem markL_len (m : α → Int → α × Int) : ∀ (r : List α) (c : Int), (markL m r c).1.length = r.length
  | [], c => rfl
  | x :: r, c => by simp [markL, markL_len m r]
theorem markL_up {m : α → Int → α × Int} {W : Nat} {G : α → Prop} (hm : ∀ x c, G x → c ≤ (m x c).2 ∧ (m x c).2 ≤ c + W) : ∀ (r : List α) (c : Int), (∀ x ∈ r, G x) → c ≤ (markL m r c).2 ∧ (markL m r c).2 ≤ c + (r.length * W : Nat)
  | [], c, _ => by simp [markL]
  | x :: r, c, hg => by
    have h1 := hm x c (hg x List.mem_cons_self)
    have h2 := markL_up hm r (m x c).2 (fun y hy => hg y (List.mem_cons_of_mem _ hy))
    simp only [markL, List.length_cons, Nat.succ_mul]
    omega
theorem mark_loop {m : α → Int → α × Int} {W B : Nat} {G : α → Prop} (hm : ∀ x c, G x → c ≤ (m x c).2 ∧ (m x c).2 ≤ c + W) {f : Nat → List α → Int → Int → Option (List α × Int)}
    (hz : ∀ k s c, f (k + 1) s c (s.length : Int) = some (s, c))
    (hs : ∀ k s (c i : Int), 0 ≤ i → i < s.length → s.length ≤ B → 0 ≤ c → c + W ≤ B → G (ix s i) → f (k + 1) s c i = f k (s.set i.toNat (m (ix s i) c).1) (m (ix s i) c).2 (i + 1)) :
    ∀ (r d : List α) (c : Int) (k : Nat), (∀ x ∈ r, G x) → r.length < k → d.length + r.length ≤ B → 0 ≤ c → c + (r.length * W : Nat) ≤ B → f k (d ++ r) c (d.length : Int) = some (d ++ (markL m r c).1, (markL m r c).2)
  | [], d, c, k, hg, hk, hl, hc, hb => by
    obtain ⟨k, rfl⟩ : ∃ m, k = m + 1 := ⟨k - 1, by simp at hk; omega⟩
    have := hz k d c
    simpa [markL] using this
  | x :: r, d, c, k, hg, hk, hl, hc, hb => by
    obtain ⟨k, rfl⟩ : ∃ m, k = m + 1 := ⟨k - 1, by simp at hk; omega⟩
    simp only [List.length_cons, Nat.succ_mul] at hb hk hl
    have h1 := hm x c (hg x List.mem_cons_self)
    have e : ix (d ++ x :: r) (d.length : Int) = x := ix_mid rfl
    rw [hs k _ c _ (by omega) (by simp; omega) (by simp; omega) hc (by omega) (by rw [e]; exact hg x List.mem_cons_self), set_mid rfl, e]
    have := mark_loop hm hz hs r (d ++ [(m x c).1]) (m x c).2 k (fun y hy => hg y (List.mem_cons_of_mem _ hy)) (by omega) (by simp; omega) (by omega) (by omega)
    simpa [markL] using this
theorem held_loop {m : α → Int → α × Int} {W B : Nat} {G : α → Prop} (hm : ∀ x c, G x → c ≤ (m x c).2 ∧ (m x c).2 ≤ c + W) {a : List α} {f : Nat → Int → Int → Option (Fl Int Int)}
    (hz : ∀ k c, f (k + 1) c (a.length : Int) = some (Fl.go c))
    (hs : ∀ k (c : Int) x (i : Int), 0 ≤ i → i < a.length → a.length ≤ B → 0 ≤ c → c + W ≤ B → G x → ix a i = (m x c).1 → f (k + 1) c i = f k (m x c).2 (i + 1)) (ha : a.length ≤ B) :
    ∀ (r d : List α) (c : Int) (k : Nat), a = d ++ (markL m r c).1 → (∀ x ∈ r, G x) → r.length < k → 0 ≤ c → c + (r.length * W : Nat) ≤ B → f k c (d.length : Int) = some (Fl.go (markL m r c).2)
  | [], d, c, k, e, hg, hk, hc, hb => by
    obtain ⟨k, rfl⟩ : ∃ m, k = m + 1 := ⟨k - 1, by simp at hk; omega⟩
    have : d = a := by rw [e]; simp [markL]
    subst this
    rw [hz]; rfl
  | x :: r, d, c, k, e, hg, hk, hc, hb => by
    obtain ⟨k, rfl⟩ : ∃ m, k = m + 1 := ⟨k - 1, by simp at hk; omega⟩
    simp only [List.length_cons, Nat.succ_mul] at hb hk
    have h1 := hm x c (hg x List.mem_cons_self)
    have e' : ix a (d.length : Int) = (m x c).1 := by rw [e]; exact ix_mid rfl
    rw [hs k c x _ (by omega) (by rw [e]; simp [markL]; omega) ha hc (by omega) (hg x List.mem_cons_self) e']
    have := held_loop hm hz hs ha r (d ++ [(m x c).1]) (m x c).2 k (by rw [e]; simp [markL]) (fun y hy => hg y (List.mem_cons_of_mem _ hy)) (by omega) (by omega) (by omega)
    simpa [markL] using this
end
end Go.Proofs.Gw
