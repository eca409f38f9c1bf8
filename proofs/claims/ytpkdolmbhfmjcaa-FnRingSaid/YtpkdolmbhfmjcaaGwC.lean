/- Memory as a list of blocks of one's own; rows of plain elements. -/
import Derived.Test.YtpkdolmbhfmjcaaGwB
set_option linter.unusedVariables false
set_option linter.unusedSimpArgs false
set_option linter.unusedSectionVars false
namespace Go.Proofs.Gw
open Go.RowKit

/-! ### 1. Blocks -/
structure Chunk where
  g : Nat
  t : Nat
  fr : Nat × Nat
  cs : List Value
abbrev Hp := List Chunk
def sg (g t : Nat) (fr : Nat × Nat) (pre cells post : List Value) : Hp := [⟨g, t, fr, pre ++ (cells ++ post)⟩]
def cat : List Hp → Hp
  | [] => []
  | h :: r => h ++ cat r
/-- Where marks of a block lie: behind it. -/
def okc (c : Chunk) : Prop := c.fr = (0, 0) ∨ c.cs.length ≤ c.fr.1
structure Mem (w0 w : World) (h : Hp) : Prop where
  below : Below w0.heap.size w0 w
  nodup : (h.map (·.g)).Nodup
  at_ : ∀ c ∈ h, w0.heap.size ≤ c.g ∧ w.heap[c.g]? = some (.cells c.cs.toArray c.t c.fr) ∧ okc c

theorem cat_append : ∀ A B : List Hp, cat (A ++ B) = cat A ++ cat B
  | [], B => rfl
  | a :: r, B => by simp [cat, cat_append r B]
theorem mem_cat : ∀ {L : List Hp} {k : Nat} {h : Hp} {c : Chunk}, L[k]? = some h → c ∈ h → c ∈ cat L
  | [], k, h, c, hk, _ => by simp at hk
  | x :: r, 0, h, c, hk, hc => by simp at hk; subst hk; exact List.mem_append_left _ hc
  | x :: r, k + 1, h, c, hk, hc => List.mem_append_right _ (mem_cat (by simpa using hk) hc)
theorem of_cat : ∀ {L : List Hp} {c : Chunk}, c ∈ cat L → ∃ (k : Nat) (h : Hp), L[k]? = some h ∧ c ∈ h
  | [], c, h => by simp [cat] at h
  | x :: r, c, h => by
    rcases List.mem_append.1 h with h | h
    · exact ⟨0, x, rfl, h⟩
    · obtain ⟨k, h', hk, hc⟩ := of_cat h
      exact ⟨k + 1, h', by simpa using hk, hc⟩
abbrev Sub (h H : Hp) : Prop := ∀ c ∈ h, c ∈ H
theorem Sub.rfl' {h : Hp} : Sub h h := fun _ hc => hc
theorem Sub.at_ {L : List Hp} {k : Nat} {h : Hp} (hk : L[k]? = some h) : Sub h (cat L) := fun _ hc => mem_cat hk hc
theorem Sub.nil {H : Hp} : Sub [] H := fun _ hc => by cases hc
theorem Sub.trans {a b c : Hp} (h : Sub a b) (k : Sub b c) : Sub a c := fun x hx => k x (h x hx)

section
variable {w0 w w' : World} {h H : Hp} {L : List Hp} {c : Chunk} {k i : Nat} {v : Value}
theorem fr_no (hc : okc c) (hi : i < c.cs.length) : (c.fr.1 ≤ i && i < c.fr.2) = false := by
  rcases hc with hc | hc
  · rw [hc]; simp
  · simp; omega
theorem Mem.cell (hm : Mem w0 w H) (hc : c ∈ H) (hi : c.cs[i]? = some v) : w.cell? ⟨c.g, i, none⟩ = some v := by
  obtain ⟨_, h1, _⟩ := hm.at_ c hc
  simp [World.cell?, h1, hi]
theorem Mem.frozen (hm : Mem w0 w H) (hc : c ∈ H) (hi : i < c.cs.length) : w.frozen? ⟨c.g, i, none⟩ = false := by
  obtain ⟨_, h1, h2⟩ := hm.at_ c hc
  have := fr_no h2 hi
  simp only [World.frozen?, h1]
  exact this
theorem Mem.lt (hm : Mem w0 w H) (hc : c ∈ H) : c.g < w.heap.size := by
  obtain ⟨_, h1, _⟩ := hm.at_ c hc
  exact (Array.getElem?_eq_some_iff.1 h1).1
theorem Mem.start (w : World) : Mem w w [] := ⟨Below.refl _ _, List.nodup_nil, fun _ h => by cases h⟩
theorem Mem.drew (hm : Mem w0 w H) : Mem w0 w.drew H := ⟨hm.below.drew, hm.nodup, hm.at_⟩
/-- Two worlds with the same blocks. -/
theorem Mem.same (hm : Mem w0 w H) (hb : Below w0.heap.size w0 w') (hs : ∀ j, j < w.heap.size → w'.heap[j]? = w.heap[j]?) : Mem w0 w' H :=
  ⟨hb, hm.nodup, fun c hc => by
    obtain ⟨h0, h1, h2⟩ := hm.at_ c hc
    exact ⟨h0, (hs _ (hm.lt hc)).trans h1, h2⟩⟩
theorem Mem.alloc (hm : Mem w0 w (cat L)) (t : Nat) (cs : List Value) : Mem w0 (w.alloc (.cells cs.toArray t)) (cat (sg w.heap.size t (0, 0) [] cs [] :: L)) := by
  have hb : Below w0.heap.size w0 (w.alloc (.cells cs.toArray t)) := hm.below.alloc hm.below.size _
  refine ⟨hb, ?_, ?_⟩
  · show ((sg w.heap.size t (0, 0) [] cs [] ++ cat L).map (·.g)).Nodup
    simp only [sg, List.singleton_append, List.map_cons]
    refine List.nodup_cons.2 ⟨fun hmem => ?_, hm.nodup⟩
    obtain ⟨c, hc, he⟩ := List.mem_map.1 hmem
    have := hm.lt hc
    omega
  · intro c hc
    rcases List.mem_append.1 (show c ∈ sg w.heap.size t (0, 0) [] cs [] ++ cat L from hc) with hc | hc
    · rw [List.mem_singleton.1 hc]
      refine ⟨hm.below.size, ?_, .inl rfl⟩
      simp only [List.nil_append, List.append_nil]
      exact heap_alloc_new w _
    · obtain ⟨h0, h1, h2⟩ := hm.at_ c hc
      exact ⟨h0, (Below.heap_alloc w _ _ (hm.lt hc)).trans h1, h2⟩
/-- One block's cells are turned. -/
theorem nd_set : ∀ {L : List Hp} {k : Nat} {c : Chunk} {cs' : List Value}, L[k]? = some [c] → (cat (L.set k [{ c with cs := cs' }])).map (·.g) = (cat L).map (·.g)
  | [], k, c, cs', hk => by simp at hk
  | x :: r, 0, c, cs', hk => by simp at hk; subst hk; simp [cat]
  | x :: r, k + 1, c, cs', hk => by
    have := nd_set (cs' := cs') (show r[k]? = some [c] by simpa using hk)
    simp only [List.set_cons_succ, cat, List.map_append, this]
theorem of_set : ∀ {L : List Hp} {k : Nat} {c c' : Chunk} {h : Hp}, L[k]? = some [c] → c' ∈ cat (L.set k h) → c' ∈ h ∨ ∃ j h', j ≠ k ∧ L[j]? = some h' ∧ c' ∈ h'
  | [], k, c, c', h, hk, _ => by simp at hk
  | x :: r, 0, c, c', h, hk, hc => by
    rcases List.mem_append.1 hc with hc | hc
    · exact .inl hc
    · obtain ⟨j, h', hj, hc'⟩ := of_cat hc
      exact .inr ⟨j + 1, h', by omega, by simpa using hj, hc'⟩
  | x :: r, k + 1, c, c', h, hk, hc => by
    rcases List.mem_append.1 hc with hc | hc
    · exact .inr ⟨0, x, by omega, rfl, hc⟩
    · rcases of_set (show r[k]? = some [c] by simpa using hk) hc with h1 | ⟨j, h', hj, hl, hc'⟩
      · exact .inl h1
      · exact .inr ⟨j + 1, h', by omega, by simpa using hl, hc'⟩
theorem apart : ∀ {L : List Hp} {i j : Nat} {h h' : Hp} {c c' : Chunk}, ((cat L).map (·.g)).Nodup → i ≠ j → L[i]? = some h → L[j]? = some h' → c ∈ h → c' ∈ h' → c.g ≠ c'.g
  | [], i, j, h, h', c, c', _, _, hi, _, _, _ => by simp at hi
  | x :: r, 0, 0, h, h', c, c', _, hij, _, _, _, _ => absurd rfl hij
  | x :: r, 0, j + 1, h, h', c, c', hn, _, hi, hj, hc, hc' => by
    simp only [List.getElem?_cons_zero, Option.some.injEq] at hi
    subst hi
    have hj' : r[j]? = some h' := by simpa using hj
    simp only [cat, List.map_append] at hn
    have := (List.nodup_append.1 hn).2.2
    exact this c.g (List.mem_map.2 ⟨c, hc, rfl⟩) c'.g (List.mem_map.2 ⟨c', mem_cat hj' hc', rfl⟩)
  | x :: r, i + 1, 0, h, h', c, c', hn, _, hi, hj, hc, hc' => by
    simp only [List.getElem?_cons_zero, Option.some.injEq] at hj
    subst hj
    have hi' : r[i]? = some h := by simpa using hi
    simp only [cat, List.map_append] at hn
    have := (List.nodup_append.1 hn).2.2
    exact fun e => this c'.g (List.mem_map.2 ⟨c', hc', rfl⟩) c.g (List.mem_map.2 ⟨c, mem_cat hi' hc, rfl⟩) e.symm
  | x :: r, i + 1, j + 1, h, h', c, c', hn, hij, hi, hj, hc, hc' => by
    simp only [cat, List.map_append] at hn
    exact apart (List.nodup_append.1 hn).2.1 (by omega) (show r[i]? = some h by simpa using hi) (show r[j]? = some h' by simpa using hj) hc hc'
theorem Mem.put {cs' : List Value} (hm : Mem w0 w (cat L)) (hk : L[k]? = some [c]) (hb : Below w0.heap.size w0 w') (ho : ∀ j, j ≠ c.g → w'.heap[j]? = w.heap[j]?)
    (hn : w'.heap[c.g]? = some (.cells cs'.toArray c.t c.fr)) (hl : cs'.length = c.cs.length) : Mem w0 w' (cat (L.set k [{ c with cs := cs' }])) := by
  refine ⟨hb, by rw [nd_set hk]; exact hm.nodup, ?_⟩
  intro c' hc'
  have hc : c ∈ cat L := mem_cat hk (List.mem_singleton.2 rfl)
  obtain ⟨h0, h1, h2⟩ := hm.at_ c hc
  rcases of_set hk hc' with hc' | ⟨j, h', hj, hl', hc'⟩
  · rw [List.mem_singleton.1 hc']
    refine ⟨h0, hn, ?_⟩
    rcases h2 with h2 | h2
    · exact .inl h2
    · exact .inr (by simp only []; omega)
  · obtain ⟨h0', h1', h2'⟩ := hm.at_ c' (mem_cat hl' hc')
    exact ⟨h0', (ho _ (apart hm.nodup hj hl' hk hc' (List.mem_singleton.2 rfl))).trans h1', h2'⟩
/-- Any of the parts, each once, in any order. -/
theorem nd_pick : ∀ (is : List Nat) {L : List Hp}, ((cat L).map (·.g)).Nodup → is.Nodup → ((cat (is.map fun i => L.getD i [])).map (·.g)).Nodup
  | [], L, _, _ => by simp [cat]
  | i :: r, L, hn, hi => by
    rw [List.nodup_cons] at hi
    simp only [List.map_cons, cat, List.map_append]
    refine List.nodup_append.2 ⟨?_, nd_pick r hn hi.2, ?_⟩
    · have : ∀ {L : List Hp} {i : Nat}, ((cat L).map (·.g)).Nodup → ((L.getD i []).map (·.g)).Nodup := by
        intro L
        induction L with
        | nil => intro i _; simp
        | cons x r ih =>
          intro i hn
          simp only [cat, List.map_append] at hn
          cases i with
          | zero => simpa using (List.nodup_append.1 hn).1
          | succ i => simpa using ih (i := i) (List.nodup_append.1 hn).2.1
      exact this hn
    · intro a ha b hb
      obtain ⟨c, hc, rfl⟩ := List.mem_map.1 ha
      obtain ⟨c', hc', rfl⟩ := List.mem_map.1 hb
      obtain ⟨k, h', hk, hck⟩ := of_cat hc'
      rw [List.getElem?_map] at hk
      cases hrk : r[k]? with
      | none => rw [hrk] at hk; cases hk
      | some j =>
        rw [hrk] at hk
        simp only [Option.map_some, Option.some.injEq] at hk
        subst hk
        have hj : j ∈ r := List.mem_of_getElem? hrk
        have hij : i ≠ j := fun e => hi.1 (e ▸ hj)
        have h1 : ∀ {n : Nat} {c : Chunk}, c ∈ L.getD n [] → L[n]? = some (L.getD n []) := by
          intro n c hc
          cases hq : L[n]? with
          | none => rw [List.getD_eq_getElem?_getD, hq] at hc; simp at hc
          | some h => rw [List.getD_eq_getElem?_getD, hq]; rfl
        exact apart hn hij (h1 hc) (h1 hck) hc hck
theorem Mem.pick (is : List Nat) (hi : decide is.Nodup = true) (hm : Mem w0 w (cat L)) : Mem w0 w (cat (is.map fun i => L.getD i [])) := by
  refine ⟨hm.below, nd_pick is hm.nodup (of_decide_eq_true hi), fun c hc => ?_⟩
  obtain ⟨k, h', hk, hck⟩ := of_cat hc
  rw [List.getElem?_map] at hk
  cases hrk : is[k]? with
  | none => rw [hrk] at hk; cases hk
  | some j =>
    rw [hrk] at hk
    simp only [Option.map_some, Option.some.injEq] at hk
    subst hk
    cases hq : L[j]? with
    | none => rw [List.getD_eq_getElem?_getD, hq] at hck; simp at hck
    | some h =>
      rw [List.getD_eq_getElem?_getD, hq] at hck
      exact hm.at_ c (mem_cat hq hck)
/-- A new part takes the place of part k. -/
theorem mem_set : ∀ {L : List Hp} {k : Nat} {a h : Hp}, Mem w0 w (cat (a :: L)) → L[k]? = some h → Mem w0 w (cat (L.set k a)) := by
  intro L k a h hm hk
  have hnd : ((cat (L.set k a)).map (·.g)).Nodup := by
    have h1 : ∀ (L : List Hp) (k : Nat), L[k]? = some h → ((cat (a :: L)).map (·.g)).Nodup → ((cat (L.set k a)).map (·.g)).Nodup ∧ ∀ g, g ∈ (cat (L.set k a)).map (·.g) → g ∈ (cat (a :: L)).map (·.g) := by
      intro L
      induction L with
      | nil => intro k hk; simp at hk
      | cons x r ih =>
        intro k hk hn
        cases k with
        | zero =>
          simp only [List.set_cons_zero, cat, List.map_append] at hn ⊢
          rw [← List.append_assoc] at hn
          refine ⟨?_, fun g hg => ?_⟩
          · have h2 := List.nodup_append.1 hn
            have h3 := List.nodup_append.1 h2.1
            exact List.nodup_append.2 ⟨h3.1, h2.2.1, fun p hp q hq => h2.2.2 p (List.mem_append_left _ hp) q hq⟩
          · rcases List.mem_append.1 hg with hg | hg
            · exact List.mem_append_left _ hg
            · exact List.mem_append_right _ (List.mem_append_right _ hg)
        | succ k =>
          have hk' : r[k]? = some h := by simpa using hk
          simp only [cat, List.map_append] at hn
          have h2 := List.nodup_append.1 hn
          have h3 := List.nodup_append.1 h2.2.1
          have h4 : ((cat (a :: r)).map (·.g)).Nodup := by
            simp only [cat, List.map_append]
            exact List.nodup_append.2 ⟨h2.1, h3.2.1, fun p hp q hq => h2.2.2 p hp q (List.mem_append_right _ hq)⟩
          obtain ⟨h5, h6⟩ := ih k hk' h4
          simp only [List.set_cons_succ, cat, List.map_append]
          refine ⟨List.nodup_append.2 ⟨h3.1, h5, fun p hp q hq => ?_⟩, fun g hg => ?_⟩
          · have := h6 q hq
            simp only [cat, List.map_append] at this
            rcases List.mem_append.1 this with h7 | h7
            · exact fun e => h2.2.2 q h7 p (List.mem_append_left _ hp) e.symm
            · exact h3.2.2 p hp q h7
          · rcases List.mem_append.1 hg with hg | hg
            · exact List.mem_append_right _ (List.mem_append_left _ hg)
            · have := h6 g hg
              simp only [cat, List.map_append] at this
              rcases List.mem_append.1 this with h7 | h7
              · exact List.mem_append_left _ h7
              · exact List.mem_append_right _ (List.mem_append_right _ h7)
    exact (h1 L k hk hm.nodup).1
  refine ⟨hm.below, hnd, fun c hc => hm.at_ c ?_⟩
  have h1 : ∀ (L : List Hp) (k : Nat), c ∈ cat (L.set k a) → c ∈ cat (a :: L) := by
    intro L
    induction L with
    | nil => intro k hc; simp [cat] at hc
    | cons x r ih =>
      intro k hc
      cases k with
      | zero =>
        rcases List.mem_append.1 hc with hc | hc
        · exact List.mem_append_left _ hc
        · exact List.mem_append_right _ (List.mem_append_right _ hc)
      | succ k =>
        rcases List.mem_append.1 hc with hc | hc
        · exact List.mem_append_right _ (List.mem_append_left _ hc)
        · rcases List.mem_append.1 (ih k hc) with hc | hc
          · exact List.mem_append_left _ hc
          · exact List.mem_append_right _ (List.mem_append_right _ hc)
  exact h1 L k hc
/-- The parts from n on as one part, and back. -/
theorem cat_grp (A B : List Hp) : cat (A ++ [cat B]) = cat (A ++ B) := by simp [cat_append, cat]
theorem Mem.grp (A B : List Hp) (hm : Mem w0 w (cat (A ++ B))) : Mem w0 w (cat (A ++ [cat B])) := by rw [cat_grp]; exact hm
theorem Mem.ung (A B : List Hp) (hm : Mem w0 w (cat (A ++ [cat B]))) : Mem w0 w (cat (A ++ B)) := by rw [cat_grp] at hm; exact hm
theorem Mem.flat (A B : List Hp) (hm : Mem w0 w (cat (cat A :: B))) : Mem w0 w (cat (A ++ B)) := by rw [cat_append]; exact hm
theorem Mem.unflat (A B : List Hp) (hm : Mem w0 w (cat (A ++ B))) : Mem w0 w (cat (cat A :: B)) := by rw [cat_append] at hm; exact hm
end

/-! ### 2. Loads and stores -/
def aggD : TypeDesc → Bool
  | .struct _ | .array _ _ => true
  | _ => false
/-- A type of one cell that is no struct and no array. -/
def Ty1 (P : Program) (t : TypeId) : Prop := ∃ d, P.underlying t = some d ∧ aggD d = false ∧ (P.info? t).map (·.size) = some 1
/-- A struct or array type of n cells. -/
def TyN (P : Program) (t : TypeId) (n : Nat) : Prop := ∃ d, P.underlying t = some d ∧ aggD d = true ∧ (P.info? t).map (·.size) = some n
def FieldAt (P : Program) (t : TypeId) (i off : Nat) : Prop := ∃ fields fl m, P.underlying t = some (.struct fields) ∧ fields[i]? = some fl ∧ fl.offset = off ∧ (P.info? fl.type).map (·.size) = some (m + 1)
def SliceTy (P : Program) (t e sz bytes : Nat) (z : Value) : Prop := P.underlying t = some (.slice e) ∧ (P.info? e).map (fun i => (i.zero, i.size, i.bytes)) = some (some z, sz, bytes)
def ArrTy (P : Program) (t len e sz : Nat) : Prop := P.underlying t = some (.array len e) ∧ (P.info? e).map (·.size) = some sz
def ZeroTy (P : Program) (t : TypeId) (z : Value) : Prop := (P.info? t).map (·.zero) = some (some z)

theorem add_lit (g o n : Nat) : (⟨g, o, none⟩ : Addr).add n = ⟨g, o + n, none⟩ := by
  unfold Addr.add; split
  · simp_all
  · rfl
theorem add_add (a : Addr) (i j : Nat) : (a.add i).add j = a.add (i + j) := by
  unfold Addr.add
  by_cases hi : i = 0 <;> by_cases hj : j = 0 <;> simp [hi, hj, Nat.add_assoc]
theorem add_0 (a : Addr) : a.add 0 = a := by simp [Addr.add]

section
variable {P : Program} {o : Oper} {ρ : Operand → Value} {w w0 : World} {x y z : Operand} {v : Value} {t : TypeId} {ad : Addr}
theorem run_isAgg {d : TypeDesc} (hu : P.underlying t = some d) : (isAgg t).run P w = .ok (aggD d) w := by
  unfold isAgg
  simp only [Sem.run_bind, run_underlying hu, Result.andThen_ok]
  cases d <;> rfl
theorem run_sizeOf {n : Nat} (hi : (P.info? t).map (·.size) = some n) : (sizeOf t).run P w = .ok n w := by
  obtain ⟨i, h1, h2⟩ := Option.map_eq_some_iff.1 hi
  simp [sizeOf, typeInfo, h1, h2]
theorem x_load (ho : o.op = .load t x) (ht : Ty1 P t) (hx : ρ x = .pointer (some ad)) (hc : w.cell? ad = some v) : (execOp ρ o).run P w = .ok (.value v) w := by
  obtain ⟨d, h1, h2, h3⟩ := ht
  simp [execOp, ho, hx, Instr.loadAt, Instr.sureAddr, loadVar, run_isAgg h1, h2, hc]
theorem x_loadN {vs : List Value} (ho : o.op = .load t x) (ht : TyN P t vs.length) (hx : ρ x = .pointer (some ad)) (hc : ∀ j u, vs[j]? = some u → w.cell? (ad.add j) = some u) :
    (execOp ρ o).run P w = .ok (.value (.agg vs.toArray)) w := by
  obtain ⟨d, h1, h2, h3⟩ := ht
  have h4 := run_loadCells_list (P := P) w ad vs hc
  simp [execOp, ho, hx, Instr.loadAt, Instr.sureAddr, loadVar, run_isAgg h1, h2, run_sizeOf h3, h4]
theorem x_field {g off i o' : Nat} (ho : o.op = .fieldAddr t x i) (hf : FieldAt P t i off) (hx : ρ x = .pointer (some ⟨g, o', none⟩)) :
    (execOp ρ o).run P w = .ok (.value (.pointer (some ⟨g, o' + off, none⟩))) w := by
  obtain ⟨fields, fl, m, h1, h2, h3, h4⟩ := hf
  subst h3
  simp [execOp, ho, hx, Instr.fieldAt, run_underlying h1, h2, Instr.sureAddr, fieldPlace, run_sizeOf h4, add_lit]
/-- The same at any address. -/
theorem x_fielda {off i : Nat} (ho : o.op = .fieldAddr t x i) (hf : FieldAt P t i off) (hx : ρ x = .pointer (some ad)) :
    (execOp ρ o).run P w = .ok (.value (.pointer (some (ad.add off)))) w := by
  obtain ⟨fields, fl, m, h1, h2, h3, h4⟩ := hf
  subst h3
  simp [execOp, ho, hx, Instr.fieldAt, run_underlying h1, h2, Instr.sureAddr, fieldPlace, run_sizeOf h4]
theorem run_store1 {g i : Nat} {u : Value} (hv : v.oneCell' = true) (hc : w.cell? ⟨g, i, none⟩ = some u) (hf : w.frozen? ⟨g, i, none⟩ = false) : (store ⟨g, i, none⟩ v).run P w = .ok () (w.setCell ⟨g, i, none⟩ v) := by
  rw [run_store P w _ v _ hv, hc]
  simp [hf]
def setAt (w : World) (g i : Nat) : List Value → World
  | [] => w
  | v :: r => setAt (w.setCell ⟨g, i, none⟩ v) g (i + 1) r
theorem setAt_other (g : Nat) : ∀ (vs : List Value) (w : World) (i j : Nat), j ≠ g → (setAt w g i vs).heap[j]? = w.heap[j]?
  | [], w, i, j, h => rfl
  | v :: r, w, i, j, h => (setAt_other g r _ (i + 1) j h).trans (Below.heap_setCell w ⟨g, i, none⟩ v j h)
theorem setAt_here (g : Nat) : ∀ (vs : List Value) (w : World) (i : Nat) (cs : List Value) (t : Nat) (fr : Nat × Nat), w.heap[g]? = some (.cells cs.toArray t fr) → i + vs.length ≤ cs.length →
    (setAt w g i vs).heap[g]? = some (.cells (cs.take i ++ vs ++ cs.drop (i + vs.length)).toArray t fr)
  | [], w, i, cs, t, fr, h, _ => by simp [setAt, h]
  | v :: r, w, i, cs, t, fr, h, hl => by
    simp only [List.length_cons] at hl
    have h1 : (w.setCell ⟨g, i, none⟩ v).heap[g]? = some (.cells (cs.set i v).toArray t fr) := by
      simp [World.setCell, Array.getElem?_modify, h]
    have h2 := setAt_here g r (w.setCell ⟨g, i, none⟩ v) (i + 1) (cs.set i v) t fr h1 (by simp; omega)
    simp only [setAt]
    rw [h2]
    congr 2
    have hi : i < cs.length := by omega
    rw [List.take_set, List.drop_set, if_pos (by omega)]
    have h3 : (cs.take (i + 1)).set i v = cs.take i ++ [v] := by
      rw [List.take_succ_eq_append_getElem hi, List.set_append]
      simp [Nat.min_eq_left (Nat.le_of_lt hi)]
    rw [h3]
    simp [Nat.add_assoc, Nat.add_comm 1]
theorem setAt_size (g : Nat) : ∀ (vs : List Value) (w : World) (i : Nat), (setAt w g i vs).heap.size = w.heap.size
  | [], w, i => rfl
  | v :: r, w, i => by simp [setAt, setAt_size g r, World.setCell]
theorem setAt_below {B g : Nat} (hg : B ≤ g) : ∀ (vs : List Value) (w : World) (i : Nat), Below B w0 w → Below B w0 (setAt w g i vs)
  | [], w, i, h => h
  | v :: r, w, i, h => setAt_below hg r _ (i + 1) (h.setCell (p := ⟨g, i, none⟩) hg v)
theorem run_setAt (g : Nat) (t : Nat) (fr : Nat × Nat) : ∀ (vs : List Value) (w : World) (i o' : Nat) (cs : List Value), w.heap[g]? = some (.cells cs.toArray t fr) → okc ⟨g, t, fr, cs⟩ → o' + i + vs.length ≤ cs.length → (∀ u ∈ vs, u.oneCell' = true) →
    (storeCells ⟨g, o', none⟩ vs i).run P w = .ok () (setAt w g (o' + i) vs)
  | [], w, i, o', cs, _, _, _, _ => by simp [storeCells, setAt]
  | v :: r, w, i, o', cs, h, hok, hl, h1 => by
    simp only [List.length_cons] at hl
    have hi : o' + i < cs.length := by omega
    have hc : w.cell? ⟨g, o' + i, none⟩ = some cs[o' + i] := by simp [World.cell?, h, hi]
    have hf : w.frozen? ⟨g, o' + i, none⟩ = false := by
      have := fr_no hok (i := o' + i) hi
      simp only [World.frozen?, h]
      exact this
    have h2 : (w.setCell ⟨g, o' + i, none⟩ v).heap[g]? = some (.cells (cs.set (o' + i) v).toArray t fr) := by
      simp [World.setCell, Array.getElem?_modify, h]
    have h3 := run_setAt g t fr r (w.setCell ⟨g, o' + i, none⟩ v) (i + 1) o' (cs.set (o' + i) v) h2
      (by rcases hok with hok | hok
          · exact .inl hok
          · exact .inr (by simp at hok ⊢; omega))
      (by simp; omega) (fun u hu => h1 u (List.mem_cons_of_mem _ hu))
    unfold storeCells
    simp only [Sem.run_bind, add_lit]
    rw [run_store1 (h1 v List.mem_cons_self) hc hf]
    simp only [Result.andThen_ok]
    rw [h3]
    rfl
theorem run_storeVar {vs : List Value} {g o' : Nat} {fr : Nat × Nat} {cs : List Value} {T : Nat} (hs : (P.info? t).map (·.size) = some vs.length) (hv : v.cells = vs.toArray) (h1 : ∀ u ∈ vs, u.oneCell' = true)
    (hg : w.heap[g]? = some (.cells cs.toArray T fr)) (hok : okc ⟨g, T, fr, cs⟩) (hl : o' + vs.length ≤ cs.length) : (storeVar t ⟨g, o', none⟩ v).run P w = .ok () (setAt w g o' vs) := by
  have h := run_setAt (P := P) g T fr vs w 0 o' cs hg hok (by simpa using hl) h1
  simp only [Nat.add_zero] at h
  simp [storeVar, run_sizeOf hs, hv, h]
end

/-! ### 3. Parts of a block: what pointers lead to -/
def splice (cs : List Value) (i : Nat) (vs : List Value) : List Value := cs.take i ++ (vs ++ cs.drop (i + vs.length))
theorem splice_len {cs vs : List Value} {i : Nat} (h : i + vs.length ≤ cs.length) : (splice cs i vs).length = cs.length := by
  simp [splice]; omega
theorem splice_seg {pre cells post vs : List Value} {j : Nat} (h : j + vs.length ≤ cells.length) :
    (pre ++ (cells ++ post)).take (pre.length + j) ++ vs ++ (pre ++ (cells ++ post)).drop (pre.length + j + vs.length) = pre ++ (splice cells j vs ++ post) := by
  rw [List.take_append, List.drop_append]
  have h1 : pre.length + j - pre.length = j := by omega
  have h2 : pre.length + j + vs.length - pre.length = j + vs.length := by omega
  rw [h1, h2, List.take_of_length_le (by omega), List.drop_of_length_le (by omega)]
  rw [List.take_append_of_le_length (by omega), List.drop_append_of_le_length (by omega)]
  simp [splice]
theorem splice_app {pre cells post vs : List Value} {j : Nat} (h : j + vs.length ≤ cells.length) : splice (pre ++ (cells ++ post)) (pre.length + j) vs = pre ++ (splice cells j vs ++ post) := by
  rw [← splice_seg h]
  unfold splice
  rw [List.append_assoc]
section
variable {P : Program} {o : Oper} {ρ : Operand → Value} {w w0 w' : World} {x y z : Operand} {v : Value} {t : TypeId} {L : List Hp} {k g T j o' : Nat} {fr : Nat × Nat} {pre cells post vs : List Value}
theorem seg_cell (hm : Mem w0 w (cat L)) (hk : L[k]? = some (sg g T fr pre cells post)) (hp : pre.length = o') (hj : cells[j]? = some v) : w.cell? ⟨g, o' + j, none⟩ = some v := by
  subst hp
  refine hm.cell (c := ⟨g, T, fr, pre ++ (cells ++ post)⟩) (mem_cat hk (List.mem_singleton.2 rfl)) ?_
  have hl := (List.getElem?_eq_some_iff.1 hj).1
  rw [List.getElem?_append_right (by omega), show pre.length + j - pre.length = j by omega, List.getElem?_append_left hl]
  exact hj
theorem seg_cells (hm : Mem w0 w (cat L)) (hk : L[k]? = some (sg g T fr pre cells post)) (hp : pre.length = o') (hv : (cells.drop j).take vs.length = vs) :
    ∀ i u, vs[i]? = some u → w.cell? ((⟨g, o' + j, none⟩ : Addr).add i) = some u := by
  intro i u hu
  rw [add_lit, Nat.add_assoc]
  refine seg_cell hm hk hp ?_
  have hi := (List.getElem?_eq_some_iff.1 hu).1
  rw [← hv, List.getElem?_take, if_pos hi, List.getElem?_drop] at hu
  exact hu
theorem seg_store (hm : Mem w0 w (cat L)) (hk : L[k]? = some (sg g T fr pre cells post)) (hp : pre.length = o') (hl : Nat.ble (j + vs.length) cells.length = true) :
    Mem w0 (setAt w g (o' + j) vs) (cat (L.set k (sg g T fr pre (splice cells j vs) post))) := by
  subst hp
  have hl' : j + vs.length ≤ cells.length := by simpa using hl
  obtain ⟨h0, h1, h2⟩ := hm.at_ ⟨g, T, fr, pre ++ (cells ++ post)⟩ (mem_cat hk (List.mem_singleton.2 rfl))
  have h3 := setAt_here g vs w (pre.length + j) (pre ++ (cells ++ post)) T fr h1 (by simp; omega)
  rw [splice_seg hl'] at h3
  exact Mem.put (c := ⟨g, T, fr, pre ++ (cells ++ post)⟩) hm hk (setAt_below h0 vs w _ hm.below) (fun i hi => setAt_other g vs w _ i hi) h3 (by simp [splice_len hl'])
/-- A store of one value, or of a struct, through a pointer. -/
theorem e_store (ho : o.op = .store t x y) (hs : (P.info? t).map (·.size) = some vs.length) (hx : ρ x = .pointer (some ⟨g, o' + j, none⟩)) (hy : ρ y = v) (hv : v.cells = vs.toArray) (h1 : (vs.all fun u => u.oneCell') = true)
    (hm : Mem w0 w (cat L)) (hk : L[k]? = some (sg g T fr pre cells post)) (hp : pre.length = o') (hl : Nat.ble (j + vs.length) cells.length = true) :
    ∃ w', (execOp ρ o).run P w = .ok .skip w' ∧ Mem w0 w' (cat (L.set k (sg g T fr pre (splice cells j vs) post))) := by
  have hm' := seg_store hm hk hp hl
  refine ⟨_, ?_, hm'⟩
  have hl' : j + vs.length ≤ cells.length := by simpa using hl
  obtain ⟨h0, h2, h3⟩ := hm.at_ ⟨g, T, fr, pre ++ (cells ++ post)⟩ (mem_cat hk (List.mem_singleton.2 rfl))
  have hst := run_storeVar (P := P) (t := t) (v := v) (o' := o' + j) hs hv (fun u hu => List.all_eq_true.1 h1 u hu) h2 h3 (by simp; omega)
  simp [execOp, ho, hx, hy, Instr.storeAt, Instr.sureAddr, hst]
theorem e_alloc {zv : Value} (ho : o.op = .alloc t) (hz : ZeroTy P t zv) (hv : zv.cells = vs.toArray) (hm : Mem w0 w (cat L)) :
    ∃ (g : Nat) (w' : World), (execOp ρ o).run P w = .ok (.value (.pointer (some ⟨g, 0, none⟩))) w' ∧ Mem w0 w' (cat (sg g t (0, 0) [] vs [] :: L)) := by
  obtain ⟨i, h1, h2⟩ := Option.map_eq_some_iff.1 hz
  refine ⟨w.heap.size, _, ?_, hm.alloc t vs⟩
  simp [execOp, ho, Instr.alloc, zeroValue, typeInfo, h1, h2, newVar, newRow, hv]
theorem e_box (ho : o.op = .box t x) (hx : ρ x = v) (hv : v.cells = vs.toArray) (hm : Mem w0 w (cat L)) :
    ∃ (g : Nat) (w' : World), (execOp ρ o).run P w = .ok (.value (.pointer (some ⟨g, 0, none⟩))) w' ∧ Mem w0 w' (cat (sg g t (0, 0) [] vs [] :: L)) := by
  refine ⟨w.heap.size, _, ?_, hm.alloc t vs⟩
  simp [execOp, ho, Instr.box, newVar, newRow, hx, hv]
end
section
variable {P : Program} {ops : Array Oper} {Q : Exit → Act → World → Prop} {rest : List Oper} {o : Oper} {n d : Nat} {f : Nat → Value} {w w' : World} {v : Value}
theorem s_exv {α : Type} {val : α → Value} {W : α → World → Prop} (hw : Region.wanted o (yielded ops (fr n f).tmps) = true) (hd : o.dst = some d) (hn : Nat.blt d n = true)
    (he : ∃ (x : α) (w' : World), (execOp (fr n f).eval o).run P w = .ok (.value (val x)) w' ∧ W x w') (h : ∀ x w', W x w' → wpList P ops Q rest (fr n (upd f d (val x))) w') : wpList P ops Q (o :: rest) (fr n f) w := by
  obtain ⟨x, w', h1, h2⟩ := he
  exact s_val hw hd hn h1 (h x w' h2)
theorem s_exs {W : World → Prop} (hw : Region.wanted o (yielded ops (fr n f).tmps) = true) (hd : o.dst = none)
    (he : ∃ (w' : World), (execOp (fr n f).eval o).run P w = .ok .skip w' ∧ W w') (h : ∀ w', W w' → wpList P ops Q rest (fr n f) w') : wpList P ops Q (o :: rest) (fr n f) w := by
  obtain ⟨w', h1, h2⟩ := he
  exact s_skip hw hd h1 (h w' h2)
end
end Go.Proofs.Gw
