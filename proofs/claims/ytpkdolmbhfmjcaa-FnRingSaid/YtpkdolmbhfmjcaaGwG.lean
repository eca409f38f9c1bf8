/- Rows whose elements hold rows: read, laid, appended to, opened at one element and shut again. -/
import Derived.Test.YtpkdolmbhfmjcaaGwF
set_option linter.unusedVariables false
set_option linter.unusedSimpArgs false
set_option linter.unusedSectionVars false
namespace Go.Proofs.Gw
open Go.RowKit

/-- A kind of values that may hold rows: how they are read (of a base world and a heap), how they are owned (in cells, with a heap). -/
structure DK (α : Type) where
  sz : Nat
  pos : 0 < sz
  rd : World → Hp → α → List Value → Prop
  ow : α → List Value → Hp → Prop
  rlen : ∀ w0 h x cs, rd w0 h x cs → cs.length = sz
  rone : ∀ w0 h x cs, rd w0 h x cs → ∀ u ∈ cs, u.oneCell' = true
  ord : ∀ w0 x cs h, ow x cs h → rd w0 h x cs
  mono : ∀ w0 h h' x cs, rd w0 h x cs → Sub h h' → rd w0 h' x cs
theorem DK.olen {α : Type} (d : DK α) {x : α} {cs : List Value} {h : Hp} (w0 : World) (ho : d.ow x cs h) : cs.length = d.sz := d.rlen _ _ _ _ (d.ord w0 _ _ _ ho)
theorem DK.oone {α : Type} (d : DK α) {x : α} {cs : List Value} {h : Hp} (w0 : World) (ho : d.ow x cs h) : ∀ u ∈ cs, u.oneCell' = true := d.rone _ _ _ _ (d.ord w0 _ _ _ ho)
def FK.D {α : Type} (d : FK α) : DK α := ⟨d.sz, d.pos, fun _ _ x cs => cs = d.enc x, fun x cs h => cs = d.enc x ∧ h = [], fun _ _ x cs h => h ▸ d.len x, fun _ _ x cs h => h ▸ d.one x, fun _ _ _ _ h => h.1, fun _ _ _ _ _ h _ => h⟩
/-- The same elements, not owned: they hang on hX. -/
def shK {α : Type} (d : DK α) (w0 : World) (hX : Hp) : DK α :=
  ⟨d.sz, d.pos, fun w1 h x cs => d.rd w0 hX x cs ∧ (w1 = w0 → Sub hX h → d.rd w1 h x cs), fun x cs h => d.rd w0 hX x cs ∧ h = [], fun _ _ _ _ h => d.rlen _ _ _ _ h.1, fun _ _ _ _ h => d.rone _ _ _ _ h.1,
    fun w1 x cs h hh => ⟨hh.1, fun e hs => by subst e; exact d.mono _ _ _ _ _ hh.1 hs⟩, fun w1 h h' x cs hh hs => ⟨hh.1, fun e hs' => by subst e; exact d.mono _ _ _ _ _ hh.1 hs'⟩⟩

def Laid {α : Type} (w0 : World) (d : DK α) (ad : Addr) (xs : List α) (h : Hp) : Prop :=
  ∀ i x, xs[i]? = some x → ∃ cs, d.rd w0 h x cs ∧ ∀ j u, cs[j]? = some u → CellIn w0 h (ad.add (i * d.sz + j)) u
/-- A row that is read. -/
def RdD {α : Type} (w0 : World) (d : DK α) (v : Value) (xs : List α) (h : Hp) : Prop :=
  ∃ A c, v = .slice A xs.length c ∧ xs.length ≤ c ∧ (0 < xs.length → ∃ ad, A = some ad ∧ Laid w0 d ad xs h)
/-- Elements one behind another: their cells, their heaps. -/
def Reps {α : Type} (d : DK α) : List α → List Value → Hp → Prop
  | [], cells, hs => cells = [] ∧ hs = []
  | x :: r, cells, hs => ∃ cs h cells' hs', d.ow x cs h ∧ cs.length = d.sz ∧ (∀ u ∈ cs, u.oneCell' = true) ∧ Reps d r cells' hs' ∧ cells = cs ++ cells' ∧ hs = h ++ hs'
/-- A row of one's own. -/
def OwD {α : Type} (T : Nat) (d : DK α) (v : Value) (xs : List α) (h : Hp) : Prop :=
  (v = .slice none 0 0 ∧ xs = [] ∧ h = []) ∨
  ∃ g cap fr pre cells post hs, v = .slice (some ⟨g, pre.length, none⟩) xs.length cap ∧ Reps d xs cells hs ∧ h.Perm (sg g T fr pre cells post ++ hs) ∧ xs.length ≤ cap ∧ cap ≤ maxLen ∧ (cap - xs.length) * d.sz ≤ post.length

section
variable {α : Type} {d : DK α} {xs ys : List α} {cells : List Value} {hs : Hp}
theorem reps_len : ∀ {xs : List α} {cells : List Value} {hs : Hp}, Reps d xs cells hs → cells.length = xs.length * d.sz
  | [], _, _, h => by rw [h.1]; simp
  | x :: r, _, _, ⟨cs, h, cells', hs', _, hl, _, hr, hc, _⟩ => by
    rw [hc, List.length_append, hl, reps_len hr, List.length_cons, Nat.succ_mul]; omega
theorem reps_one : ∀ {xs : List α} {cells : List Value} {hs : Hp}, Reps d xs cells hs → ∀ u ∈ cells, u.oneCell' = true
  | [], _, _, h => by rw [h.1]; intro u hu; cases hu
  | x :: r, _, _, ⟨cs, h, cells', hs', _, _, ho, hr, hc, _⟩ => by
    intro u hu
    rw [hc] at hu
    rcases List.mem_append.1 hu with hu | hu
    · exact ho u hu
    · exact reps_one hr u hu
theorem reps_append : ∀ {xs ys : List α} {c1 c2 : List Value} {h1 h2 : Hp}, Reps d xs c1 h1 → Reps d ys c2 h2 → Reps d (xs ++ ys) (c1 ++ c2) (h1 ++ h2)
  | [], ys, _, _, _, _, h, k => by rw [h.1, h.2]; simpa using k
  | x :: r, ys, _, _, _, _, ⟨cs, h, cells', hs', h1, hl, ho, hr, hc, hh⟩, k => by
    refine ⟨cs, h, _, _, h1, hl, ho, reps_append hr k, ?_, ?_⟩
    · rw [hc, List.append_assoc]
    · rw [hh, List.append_assoc]
theorem reps_take_drop : ∀ (n : Nat) {xs : List α} {cells : List Value} {hs : Hp}, Reps d xs cells hs → ∃ c1 c2 h1 h2, cells = c1 ++ c2 ∧ hs = h1 ++ h2 ∧ Reps d (xs.take n) c1 h1 ∧ Reps d (xs.drop n) c2 h2
  | 0, xs, cells, hs, h => ⟨[], cells, [], hs, rfl, rfl, ⟨rfl, rfl⟩, by simpa using h⟩
  | n + 1, [], cells, hs, h => ⟨[], [], [], [], by rw [h.1]; rfl, by rw [h.2]; rfl, ⟨rfl, rfl⟩, ⟨rfl, rfl⟩⟩
  | n + 1, x :: r, cells, hs, ⟨cs, h, cells', hs', h1, hl, ho, hr, hc, hh⟩ => by
    obtain ⟨c1, c2, k1, k2, e1, e2, r1, r2⟩ := reps_take_drop n hr
    exact ⟨cs ++ c1, c2, h ++ k1, k2, by rw [hc, e1, List.append_assoc], by rw [hh, e2, List.append_assoc], ⟨cs, h, c1, k1, h1, hl, ho, r1, rfl, rfl⟩, r2⟩
/-- One element, and what stands round it. -/
theorem reps_at {i : Nat} {x : α} (hr : Reps d xs cells hs) (hi : xs[i]? = some x) :
    ∃ cA cs cB hA hx hB, cells = cA ++ (cs ++ cB) ∧ hs = hA ++ (hx ++ hB) ∧ cA.length = i * d.sz ∧ d.ow x cs hx ∧ cs.length = d.sz ∧
      ∀ x' cs' hx', d.ow x' cs' hx' → cs'.length = d.sz → (∀ u ∈ cs', u.oneCell' = true) → Reps d (xs.set i x') (cA ++ (cs' ++ cB)) (hA ++ (hx' ++ hB)) := by
  obtain ⟨c1, c2, h1, h2, e1, e2, r1, r2⟩ := reps_take_drop i hr
  have hlt := (List.getElem?_eq_some_iff.1 hi).1
  have hx := (List.getElem?_eq_some_iff.1 hi).2
  rw [List.drop_eq_getElem_cons hlt, hx] at r2
  obtain ⟨cs, h, cells', hs', ho, hl, _, hr', hc, hh⟩ := r2
  refine ⟨c1, cs, cells', h1, h, hs', by rw [e1, hc], by rw [e2, hh], ?_, ho, hl, ?_⟩
  · rw [reps_len r1, List.length_take, Nat.min_eq_left (Nat.le_of_lt hlt)]
  · intro x' cs' hx' ho' hl' h1'
    have h2 : xs.set i x' = xs.take i ++ (x' :: xs.drop (i + 1)) := by rw [List.set_eq_take_append_cons_drop, if_pos hlt]
    rw [h2]
    exact reps_append r1 ⟨cs', hx', cells', hs', ho', hl', h1', hr', rfl, rfl⟩
end
section
variable {α : Type} {d : DK α} {xs ys : List α} {w0 w w' : World} {h h' H hX hX' : Hp} {L : List Hp} {v u : Value} {T : Nat} {k : Nat} {i : Int} {ad : Addr} {cells : List Value} {hs : Hp}
theorem Laid.mono (hl : Laid w0 d ad xs h) (hs : Sub h h') : Laid w0 d ad xs h' := fun i x hi => by
  obtain ⟨cs, h1, h2⟩ := hl i x hi
  exact ⟨cs, d.mono _ _ _ _ _ h1 hs, fun j u hj => (h2 j u hj).mono hs⟩
theorem RdD.mono (hr : RdD w0 d v xs h) (hs : Sub h h') : RdD w0 d v xs h' := by
  obtain ⟨A, c, hv, hc, hn⟩ := hr
  refine ⟨A, c, hv, hc, fun hp => ?_⟩
  obtain ⟨ad, ha, hl⟩ := hn hp
  exact ⟨ad, ha, hl.mono hs⟩
theorem RdD.sl (hr : RdD w0 d v xs h) : IsSl v xs.length := by
  obtain ⟨A, c, hv, hc, _⟩ := hr
  exact ⟨A, c, hv, hc⟩
theorem RdD.nil (w0 : World) (d : DK α) (h : Hp) : RdD w0 d (.slice none 0 0) [] h := ⟨none, 0, rfl, Nat.le_refl _, fun hp => absurd hp (Nat.lt_irrefl _)⟩
theorem OwD.nil (T : Nat) (d : DK α) : OwD T d (.slice none 0 0) [] [] := .inl ⟨rfl, rfl, rfl⟩
theorem OwD.sl (hO : OwD T d v xs h) : IsSl v xs.length := by
  rcases hO with ⟨rfl, rfl, rfl⟩ | ⟨g, cap, fr, pre, cells, post, hs, rfl, _, _, hc, _, _⟩
  · exact ⟨none, 0, rfl, Nat.le_refl _⟩
  · exact ⟨_, cap, rfl, hc⟩
theorem reps_laid (hr : Reps d xs cells hs) (g T : Nat) (fr : Nat × Nat) (pre post : List Value) : Laid w0 d ⟨g, pre.length, none⟩ xs (sg g T fr pre cells post ++ hs) := by
  intro i x hi
  obtain ⟨cA, cs, cB, hA, hx, hB, e1, e2, hl, ho, hcl, _⟩ := reps_at hr hi
  refine ⟨cs, d.mono _ _ _ _ _ (d.ord w0 _ _ _ ho) (fun c hc => ?_), fun j u hj => .inr ⟨⟨g, T, fr, pre ++ (cells ++ post)⟩, ?_, ?_, ?_, ?_⟩⟩
  · rw [e2]
    exact List.mem_append_right _ (List.mem_append_right _ (List.mem_append_left _ hc))
  · exact List.mem_append_left _ (List.mem_singleton.2 rfl)
  · rw [add_lit]
  · rw [add_lit]
  · rw [add_lit]
    simp only []
    have hjl := (List.getElem?_eq_some_iff.1 hj).1
    rw [e1, ← hl]
    rw [List.getElem?_append_right (by omega), show pre.length + (cA.length + j) - pre.length = cA.length + j by omega]
    rw [List.append_assoc, List.getElem?_append_right (by omega), show cA.length + j - cA.length = j by omega, List.append_assoc, List.getElem?_append_left hjl]
    exact hj
theorem OwD.rd (hO : OwD T d v xs h) (w0 : World) : RdD w0 d v xs h := by
  rcases hO with ⟨rfl, rfl, rfl⟩ | ⟨g, cap, fr, pre, cells, post, hs, rfl, hr, hp, hc, _, _⟩
  · exact RdD.nil _ _ _
  · exact ⟨_, cap, rfl, hc, fun _ => ⟨_, rfl, (reps_laid hr g T fr pre post).mono (fun c hc => hp.symm.mem_iff.1 hc)⟩⟩
/-- Elements that hang on hX, read. -/
theorem OwD.rds (hO : OwD T (shK d w0 hX) v xs h) (hs : Sub hX h') (hs2 : Sub h h') : RdD w0 d v xs h' := by
  obtain ⟨A, c, hv, hc, hn⟩ := (hO.rd w0).mono hs2
  refine ⟨A, c, hv, hc, fun hp => ?_⟩
  obtain ⟨ad, ha, hl⟩ := hn hp
  refine ⟨ad, ha, fun i x hi => ?_⟩
  obtain ⟨cs, h1, h2⟩ := hl i x hi
  exact ⟨cs, h1.2 rfl hs, h2⟩
theorem RdD.addr (hr : RdD w0 d v xs h) (hp : 0 < xs.length) : ∃ c, v = .slice (some (slA v)) xs.length c ∧ Laid w0 d (slA v) xs h := by
  obtain ⟨A, c, rfl, hc, hn⟩ := hr
  obtain ⟨ad, rfl, hcell⟩ := hn hp
  exact ⟨c, rfl, hcell⟩
/-- One element of a row that is read. -/
theorem RdD.get [Inhabited α] (hr : RdD w0 d v xs h) (h0 : 0 ≤ i) (h1 : i < xs.length) : ∃ cs, d.rd w0 h (ix xs i) cs ∧ ∀ j u, cs[j]? = some u → CellIn w0 h (((slA v).add (i.toNat * d.sz)).add j) u := by
  obtain ⟨c, _, hl⟩ := hr.addr (by omega)
  obtain ⟨cs, h2, h3⟩ := hl i.toNat (ix xs i) (ix_get h0 h1)
  exact ⟨cs, h2, fun j u hj => by rw [add_add]; exact h3 j u hj⟩
theorem ci_cells {cs : List Value} (hc : ∀ j u, cs[j]? = some u → CellIn w0 h (ad.add j) u) (hm : Mem w0 w H) (hs : Sub h H) : ∀ j u, cs[j]? = some u → w.cell? (ad.add j) = some u := fun j u hj => (hc j u hj).now hm hs
theorem ci_part {cs vs : List Value} {o : Nat} (hc : ∀ j u, cs[j]? = some u → CellIn w0 h (ad.add j) u) (hv : (cs.drop o).take vs.length = vs) (hm : Mem w0 w H) (hs : Sub h H) : ∀ j u, vs[j]? = some u → w.cell? ((ad.add o).add j) = some u := fun j u hj => by
  have hj' := (List.getElem?_eq_some_iff.1 hj).1
  rw [← hv, List.getElem?_take, if_pos hj', List.getElem?_drop] at hj
  rw [add_add]
  exact (hc (o + j) u hj).now hm hs
theorem ci_cell {cs : List Value} {o : Nat} (hc : ∀ j u, cs[j]? = some u → CellIn w0 h (ad.add j) u) (hv : cs[o]? = some u) (hm : Mem w0 w H) (hs : Sub h H) : w.cell? (ad.add o) = some u := (hc o u hv).now hm hs
theorem ci_cell0 {cs : List Value} (hc : ∀ j u, cs[j]? = some u → CellIn w0 h (ad.add j) u) (hv : cs[0]? = some u) (hm : Mem w0 w H) (hs : Sub h H) : w.cell? ad = some u := by
  have := (hc 0 u hv).now hm hs
  rwa [add_0] at this
theorem ci_cellsE {cs vs : List Value} (hc : ∀ j u, cs[j]? = some u → CellIn w0 h (ad.add j) u) (he : cs = vs) (hm : Mem w0 w H) (hs : Sub h H) : ∀ j u, vs[j]? = some u → w.cell? (ad.add j) = some u := fun j u hj => by
  rw [← he] at hj
  exact (hc j u hj).now hm hs
theorem RdD.getc [Inhabited α] {p : Bool} (hr : RdD w0 d v xs h) (hg : p = true → 0 ≤ i ∧ i < xs.length) : ∃ cs, p = true → d.rd w0 h (ix xs i) cs ∧ ∀ j u, cs[j]? = some u → CellIn w0 h (((slA v).add (i.toNat * d.sz)).add j) u := by
  cases p
  · exact ⟨[], fun h => by cases h⟩
  · obtain ⟨cs, h1⟩ := hr.get (hg rfl).1 (hg rfl).2
    exact ⟨cs, fun _ => h1⟩
theorem shK.mk {x : α} {cs : List Value} (q : d.rd w0 hX x cs) : (shK d w0 hX).ow x cs [] := ⟨q, rfl⟩
theorem Mem.eqv (he : h = h') (hm : Mem w0 w h) : Mem w0 w h' := he ▸ hm
theorem Mem.zgrp (A B : List Hp) (F : Hp) (hm : Mem w0 w (cat (A ++ (B ++ [F])))) : Mem w0 w (cat (A ++ [cat B, F])) := by
  have h1 : cat (A ++ (B ++ [F])) = cat (A ++ [cat B, F]) := by simp [cat_append, cat]
  rw [← h1]; exact hm
theorem cutV_rdD {a b : Nat} (hr : RdD w0 d v xs h) (hab : a ≤ b) (hb : b ≤ xs.length) : RdD w0 d (cutV v a b d.sz) ((xs.drop a).take (b - a)) h := by
  have hl : ((xs.drop a).take (b - a)).length = b - a := by simp; omega
  obtain ⟨A, c, rfl, hc, hn⟩ := hr
  refine ⟨if c = a then A else A.map (·.add (a * d.sz)), c - a, by rw [hl]; rfl, by omega, fun hp => ?_⟩
  rw [hl] at hp
  obtain ⟨ad, rfl, hcell⟩ := hn (by omega)
  rw [if_neg (by omega)]
  refine ⟨ad.add (a * d.sz), rfl, fun i x hi => ?_⟩
  have hi2 : xs[a + i]? = some x := by
    rw [List.getElem?_take] at hi
    split at hi
    · rwa [List.getElem?_drop] at hi
    · cases hi
  obtain ⟨cs, h1, h2⟩ := hcell (a + i) x hi2
  refine ⟨cs, h1, fun j u hj => ?_⟩
  rw [add_add]
  have := h2 j u hj
  rwa [Nat.add_mul, Nat.add_assoc] at this
theorem cat_set : ∀ {L : List Hp} {k : Nat} {h h' : Hp}, L[k]? = some h → (cat (L.set k h')).Perm (h' ++ cat (L.set k []))
  | [], k, h, h', hk => by simp at hk
  | x :: r, 0, h, h', hk => by simp [cat]
  | x :: r, k + 1, h, h', hk => by
    have := cat_set (h' := h') (show r[k]? = some h by simpa using hk)
    simp only [List.set_cons_succ, cat]
    refine (List.Perm.append_left x this).trans ?_
    rw [← List.append_assoc, ← List.append_assoc]
    exact List.Perm.append_right _ List.perm_append_comm
theorem cat_self {L : List Hp} {k : Nat} {h : Hp} (hk : L[k]? = some h) : (cat L).Perm (h ++ cat (L.set k [])) := by
  have h1 : L.set k h = L := by
    apply List.ext_getElem?
    intro j
    by_cases hj : j = k
    · subst hj; rw [hk, List.getElem?_set_self (List.getElem?_eq_some_iff.1 hk).1]
    · rw [List.getElem?_set_ne (Ne.symm hj)]
  have := cat_set (h' := h) hk
  rwa [h1] at this
theorem Mem.perm {H H' : Hp} (hm : Mem w0 w H) (hp : H.Perm H') : Mem w0 w H' :=
  ⟨hm.below, (hp.map (·.g)).nodup_iff.1 hm.nodup, fun c hc => hm.at_ c (hp.symm.mem_iff.1 hc)⟩
theorem Mem.left {A B : Hp} (hm : Mem w0 w (A ++ B)) : Mem w0 w A :=
  ⟨hm.below, by have := hm.nodup; rw [List.map_append] at this; exact (List.nodup_append.1 this).1, fun c hc => hm.at_ c (List.mem_append_left _ hc)⟩
/-- A part by another one that has no more. -/
theorem Mem.part {a b h' : Hp} (hm : Mem w0 w (cat L)) (hk : L[k]? = some h) (hp : h.Perm (h' ++ b)) : Mem w0 w (cat (L.set k h')) := by
  have h1 := hm.perm (cat_self hk)
  have h2 : (h ++ cat (L.set k [])).Perm ((h' ++ cat (L.set k [])) ++ b) := by
    refine (hp.append_right _).trans ?_
    rw [List.append_assoc, List.append_assoc]
    exact List.Perm.append_left _ List.perm_append_comm
  exact (h1.perm h2).left.perm (cat_set hk).symm
theorem OwD.cut {a b : Nat} (hO : OwD T d v xs h) (hab : a ≤ b) (hb : b ≤ xs.length) : ∃ h' b', OwD T d (cutV v a b d.sz) ((xs.drop a).take (b - a)) h' ∧ h.Perm (h' ++ b') := by
  have hl : ((xs.drop a).take (b - a)).length = b - a := by simp; omega
  rcases hO with ⟨rfl, rfl, rfl⟩ | ⟨g, cap, fr, pre, cells, post, hs, rfl, hr, hpm, hc, hm, hp⟩
  · simp only [List.length_nil, Nat.le_zero] at hb
    have ha : a = 0 := by omega
    subst hb; subst ha
    exact ⟨[], [], .inl ⟨rfl, by simp, rfl⟩, by simp⟩
  · obtain ⟨c1, c2, k1, k2, e1, e2, r1, r2⟩ := reps_take_drop a hr
    obtain ⟨c3, c4, k3, k4, e3, e4, r3, r4⟩ := reps_take_drop (b - a) r2
    have hl1 : c1.length = a * d.sz := by rw [reps_len r1, List.length_take, Nat.min_eq_left (by omega)]
    have hdd : ((xs.drop a).drop (b - a)).length = xs.length - b := by simp; omega
    have hl4 : c4.length = (xs.length - b) * d.sz := by rw [reps_len r4, hdd]
    have hps : ∀ g' : Hp, (g' ++ hs).Perm (g' ++ k3 ++ (k1 ++ k4)) := by
      intro g'
      rw [e2, e4, List.append_assoc]
      refine List.Perm.append_left _ ?_
      rw [← List.append_assoc, ← List.append_assoc]
      exact List.Perm.append_right _ List.perm_append_comm
    by_cases hca : cap = a
    · have hba : b - a = 0 := by omega
      have e0 : (xs.drop a).take (b - a) = [] := by rw [hba]; rfl
      rw [e0] at r3
      have h10 : sg g T fr pre cells post = sg g T fr pre [] (cells ++ post) := by simp [sg]
      rw [h10] at hpm
      refine ⟨sg g T fr pre [] (cells ++ post) ++ k3, k1 ++ k4, .inr ⟨g, cap - a, fr, pre, [], cells ++ post, k3, ?_, by rw [e0, ← r3.1]; exact r3, List.Perm.refl _, by rw [hl]; omega, by omega, by rw [hl]; simp [hca]⟩, hpm.trans (hps _)⟩
      simp only [cutV, if_pos hca, hl]
    · have h10 : sg g T fr pre cells post = sg g T fr (pre ++ c1) c3 (c4 ++ post) := by
        simp only [sg]; rw [e1, e3]; simp
      rw [h10] at hpm
      refine ⟨sg g T fr (pre ++ c1) c3 (c4 ++ post) ++ k3, k1 ++ k4, .inr ⟨g, cap - a, fr, pre ++ c1, c3, c4 ++ post, k3, ?_, r3, List.Perm.refl _, by rw [hl]; omega, by omega, ?_⟩, hpm.trans (hps _)⟩
      · simp only [cutV, if_neg hca, hl, Option.map_some, add_lit, List.length_append, hl1]
      · rw [hl, List.length_append, hl4]
        have : cap - a - (b - a) = (xs.length - b) + (cap - xs.length) := by omega
        rw [this, Nat.add_mul]
        omega
/-- One element is taken out of its row, and put back, perhaps another one. -/
theorem OwD.focus [Inhabited α] (hO : OwD T d v xs h) (h0 : 0 ≤ i) (h1 : i < xs.length) (hk : L[k]? = some h) (hm : Mem w0 w (cat L)) :
    ∃ (g : Nat) (fr : Nat × Nat) (pre cs post : List Value) (hx hr : Hp), (slA v).add (i.toNat * d.sz) = ⟨g, pre.length, none⟩ ∧ d.ow (ix xs i) cs hx ∧ Mem w0 w (cat (L.set k (cat [sg g T fr pre cs post, hx, hr]))) ∧
      ∀ x' cs' hx', d.ow x' cs' hx' → OwD T d v (xs.set i.toNat x') (cat [sg g T fr pre cs' post, hx', hr]) := by
  rcases hO with ⟨rfl, rfl, rfl⟩ | ⟨g, cap, fr, pre, cells, post, hs, rfl, hr, hpm, hc, hmx, hp⟩
  · simp at h1; omega
  · obtain ⟨cA, cs, cB, hA, hx, hB, e1, e2, hl, ho, hcl, hw⟩ := reps_at hr (ix_get h0 h1)
    have hsg : ∀ cs' : List Value, sg g T fr pre (cA ++ (cs' ++ cB)) post = sg g T fr (pre ++ cA) cs' (cB ++ post) := by intro cs'; simp [sg]
    have hpp : ∀ (s hx' : Hp), (s ++ (hA ++ (hx' ++ hB))).Perm (cat [s, hx', hA ++ hB]) := by
      intro s hx'
      simp only [cat, List.append_nil]
      refine List.Perm.append_left _ ?_
      rw [← List.append_assoc, ← List.append_assoc]
      exact List.Perm.append_right _ List.perm_append_comm
    refine ⟨g, fr, pre ++ cA, cs, cB ++ post, hx, hA ++ hB, ?_, ho, ?_, ?_⟩
    · show (⟨g, pre.length, none⟩ : Addr).add (i.toNat * d.sz) = _
      rw [add_lit, List.length_append, hl]
    · refine Mem.part (a := []) (b := []) hm hk ?_
      rw [List.append_nil, ← hsg, ← e1]
      refine hpm.trans ?_
      rw [e2]
      exact hpp _ _
    · intro x' cs' hx' ho'
      have hl' : cs'.length = d.sz := d.olen w0 ho'
      refine .inr ⟨g, cap, fr, pre, cA ++ (cs' ++ cB), post, hA ++ (hx' ++ hB), by simp, hw x' cs' hx' ho' hl' (d.oone w0 ho'), ?_, by simpa using hc, hmx, by simpa using hp⟩
      rw [hsg]
      exact (hpp _ _).symm
theorem OwD.lit (g : Nat) (hr : Reps d xs cells hs) (n : Nat) (hn : xs.length = n) (hm : n ≤ maxLen) : OwD T d (.slice (some ⟨g, 0, none⟩) n n) xs (cat [sg g T (0, 0) [] cells [], hs]) := by
  subst hn
  exact .inr ⟨g, xs.length, (0, 0), [], cells, [], hs, rfl, hr, by simp [cat], Nat.le_refl _, hm, by simp⟩
theorem reps_c {x : α} {cs : List Value} {h : Hp} (w0 : World) (ho : d.ow x cs h) {r : List α} (hr : Reps d r cells hs) : Reps d (x :: r) (cs ++ cells) (h ++ hs) := ⟨cs, h, cells, hs, ho, d.olen w0 ho, d.oone w0 ho, hr, rfl, rfl⟩
theorem reps_n : Reps d [] [] [] := ⟨rfl, rfl⟩
theorem reps_sh : ∀ {xs : List α} {cells : List Value} {hs : Hp}, Reps (shK d w0 hX) xs cells hs → Sub hX hX' → Reps (shK d w0 hX') xs cells hs
  | [], _, _, h, _ => h
  | x :: r, _, _, ⟨cs, h, cells', hs', h1, hl, ho, hr, hc, hh⟩, hs => ⟨cs, h, cells', hs', ⟨d.mono _ _ _ _ _ h1.1 hs, h1.2⟩, hl, ho, reps_sh hr hs, hc, hh⟩
theorem OwD.shm (hO : OwD T (shK d w0 hX) v xs h) (hs : Sub hX hX') : OwD T (shK d w0 hX') v xs h := by
  rcases hO with hO | ⟨g, cap, fr, pre, cells, post, hs', rfl, hr, hpm, hc, hmx, hp⟩
  · exact .inl hO
  · exact .inr ⟨g, cap, fr, pre, cells, post, hs', rfl, reps_sh hr hs, hpm, hc, hmx, hp⟩
theorem OwD.of_nil {d' : DK α} (hO : OwD T d v [] h) (hsz : d'.sz = d.sz) : OwD T d' v [] h := by
  rcases hO with hO | ⟨g, cap, fr, pre, cells, post, hs', rfl, hr, hpm, hc, hmx, hp⟩
  · exact .inl hO
  · exact .inr ⟨g, cap, fr, pre, cells, post, hs', rfl, hr, hpm, hc, hmx, by rw [hsz]; exact hp⟩
/-- The elements' own memory is parted from the row's. -/
theorem reps_split (w0 : World) : ∀ {xs : List α} {cells : List Value} {hs : Hp}, Reps d xs cells hs → Reps (shK d w0 hs) xs cells []
  | [], _, _, h => ⟨h.1, rfl⟩
  | x :: r, _, _, ⟨cs, h, cells', hs', h1, hl, ho, hr, hc, hh⟩ => by
    subst hh
    exact ⟨cs, [], cells', [], ⟨d.mono _ _ _ _ _ (d.ord w0 _ _ _ h1) (fun c hc => List.mem_append_left _ hc), rfl⟩, hl, ho, reps_sh (reps_split w0 hr) (fun c hc => List.mem_append_right _ hc), hc, rfl⟩
theorem OwD.split (hO : OwD T d v xs h) (w0 : World) : ∃ h1 h2, OwD T (shK d w0 h2) v xs h1 ∧ h.Perm (cat [h1, h2]) := by
  rcases hO with ⟨rfl, rfl, rfl⟩ | ⟨g, cap, fr, pre, cells, post, hs', rfl, hr, hpm, hc, hmx, hp⟩
  · exact ⟨[], [], .inl ⟨rfl, rfl, rfl⟩, by simp [cat]⟩
  · exact ⟨sg g T fr pre cells post, hs', .inr ⟨g, cap, fr, pre, cells, post, [], rfl, reps_split w0 hr, by simp, hc, hmx, hp⟩, by simpa [cat] using hpm⟩
end
end Go.Proofs.Gw
