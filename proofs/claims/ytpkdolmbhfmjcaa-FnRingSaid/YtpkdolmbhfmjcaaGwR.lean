/- Arguments that are read as data: what they are for the walks. -/
import Derived.Test.YtpkdolmbhfmjcaaGwM
import Derived.ProofKit
import Derived.ChangeOld
import Derived.ChangeArms
import Derived.SizedLaws
import Derived.Carry
set_option linter.unusedVariables false
set_option linter.unusedSimpArgs false
set_option linter.unusedSectionVars false
namespace Go.Proofs.Gw
open Go.RowKit Go.ChangeShapes Go.WideShapes Go.ChangeAt
/-- What every reading of a type comes to: a value, its cells, and what is known of it. -/
def TR (P : Program) (t : TypeId) {α : Type} (rd : World → α → List Value → Prop) (good : α → Prop) : Prop :=
  ∀ (H : Type) (enc : TypeId × Value → H) (w : World) (held : Bool) (fuel : Nat) (cs : List Value) (y : DataW H × List MemPlace), DataW.trod enc P w 0 (fun _ => true) held fuel t cs = some y → ∃ x, rd w x cs ∧ good x
def inK (k : IntKind) (n : Int) : Prop := k.min ≤ n ∧ n ≤ k.max
def okS (l : List UInt8) : Prop := l.length ≤ maxLen
def okT {α : Type} (g : α → Prop) (xs : List α) : Prop := xs.length ≤ maxLen ∧ ∀ x ∈ xs, g x
section
variable {P : Program} {t e : TypeId} {α : Type} {good : α → Prop}
theorem TR.int {k : IntKind} (hu : P.underlying t = some (.int k)) : TR P t (fun _ (x : Int) cs => cs = [.int k x]) (inK k) := by
  intro H enc w held fuel cs y h
  obtain ⟨n, h1, _, h3⟩ := DataW.trod_int hu h
  simp only [Lit.wf, Bool.and_eq_true, decide_eq_true_eq] at h3
  exact ⟨n, h1, h3⟩
theorem TR.bool (hu : P.underlying t = some .bool) : TR P t (fun _ (x : Bool) cs => cs = [.bool x]) (fun _ => True) := by
  intro H enc w held fuel cs y h
  obtain ⟨b, h1, _⟩ := DataW.trod_bool hu h
  exact ⟨b, h1, trivial⟩
theorem TR.str (hu : P.underlying t = some .string) : TR P t (fun _ (x : List UInt8) cs => cs = [S x]) okS := by
  intro H enc w held fuel cs y h
  obtain ⟨s, h1, _, h3⟩ := DataW.trod_string hu h
  refine ⟨s.data.toList, by rw [h1]; rfl, ?_⟩
  unfold okS
  exact h3
/-- The fields of a struct, one behind another. -/
def Parts (P : Program) {H : Type} (enc : TypeId × Value → H) (w : World) (held : Bool) (n : Nat) : List (TypeId × Nat) → List Value → Prop
  | [], cs => cs = []
  | (t, k) :: r, cs => ∃ c cs' y, cs = c ++ cs' ∧ DataW.trod enc P w 0 (fun _ => true) held n t c = some y ∧ Parts P enc w held n r cs'
def offsOk : Nat → List (TypeId × Nat × Nat) → List (TypeId × Nat) → Bool
  | _, [], [] => true
  | o, (t, f, s) :: r, (t', k) :: r' => Nat.beq t t' && (Nat.beq f o && (Nat.beq s k && offsOk (o + k) r r'))
  | _, _, _ => false
theorem parts_of {H : Type} {enc : TypeId × Value → H} {w : World} {held : Bool} {n : Nat} : ∀ (fs : List Field) (ts : List (TypeId × Nat)) (o : Nat) (cs : List Value), offsOk o (fs.map fun f => (f.type, f.offset, P.cellsOf f.type)) ts = true → cs.length = o + (ts.map (·.2)).sum →
    (∀ f ∈ fs, ∃ y, DataW.trod enc P w 0 (fun _ => true) held n f.type ((cs.drop f.offset).take (P.cellsOf f.type)) = some y) → Parts P enc w held n ts (cs.drop o)
  | [], ts, o, cs, ho, hl, _ => by
    cases ts with
    | nil => simp only [Parts]; exact List.drop_of_length_le (by simp at hl; omega)
    | cons p r => cases ho
  | f :: fs, ts, o, cs, ho, hl, hy => by
    cases ts with
    | nil => cases ho
    | cons p r =>
      obtain ⟨t', k⟩ := p
      simp only [List.map_cons, offsOk, Bool.and_eq_true] at ho
      obtain ⟨h1, h2, h3, h4⟩ := ho
      have e1 := Nat.eq_of_beq_eq_true h1
      have e2 := Nat.eq_of_beq_eq_true h2
      have e3 := Nat.eq_of_beq_eq_true h3
      obtain ⟨y, hf⟩ := hy f List.mem_cons_self
      rw [e1, e2, ← e1, e3] at hf
      simp only [List.map_cons, List.sum_cons] at hl
      refine ⟨(cs.drop o).take k, cs.drop (o + k), y, ?_, by rw [← e1]; exact hf, parts_of fs r (o + k) cs h4 (by omega) (fun g hg => hy g (List.mem_cons_of_mem _ hg))⟩
      rw [← List.drop_drop, List.take_append_drop]
theorem TR.parts {fs : Array Field} {ts : List (TypeId × Nat)} (hu : P.underlying t = some (.struct fs)) (ho : offsOk 0 (fs.toList.map fun f => (f.type, f.offset, P.cellsOf f.type)) ts = true) (hc : P.cellsOf t = (ts.map (·.2)).sum)
    {H : Type} {enc : TypeId × Value → H} {w : World} {held : Bool} {fuel : Nat} {cs : List Value} {y : DataW H × List MemPlace} (h : DataW.trod enc P w 0 (fun _ => true) held fuel t cs = some y) : ∃ n, Parts P enc w held n ts cs := by
  obtain ⟨xs, n, _, _, hl, hxs, hf⟩ := DataW.trod_struct hu h
  have := parts_of (P := P) (enc := enc) (w := w) (held := held) (n := n) fs.toList ts 0 cs ho (by rw [hl, hc]; simp) (fun f hf' => by
    obtain ⟨i, hi⟩ := List.getElem?_of_mem hf'
    have h1 := hf i f (by simpa using hi)
    have hlt : i < xs.length := by rw [hxs]; have := (List.getElem?_eq_some_iff.1 hi).1; simpa using this
    exact ⟨xs[i], by rw [h1]; exact List.getElem?_eq_getElem hlt⟩)
  exact ⟨n, by simpa using this⟩
/-- A row of plain elements. -/
theorem TR.sliceF [Inhabited α] {d : FK α} (hu : P.underlying t = some (.slice e)) (hc : P.cellsOf e = d.sz) (he : TR P e (fun _ x cs => cs = d.enc x) good) : TR P t (fun w xs cs => ∃ v, cs = [v] ∧ RdF w d v xs []) (okT good) := by
  intro H enc w held fuel cs y h
  rcases DataW.trod_slice hu h with ⟨rfl, _⟩ | ⟨a, len, cap, elems, rest, n, _, rfl, _, _, hl, hm, hlen, hel, hq1, hq2⟩
  · exact ⟨[], ⟨_, rfl, RdF.nil w d []⟩, by simp [okT]⟩
  · have each : ∀ i, i < len → ∃ x, (∀ j u, (d.enc x)[j]? = some u → CellIn w [] ((a.add (i * d.sz)).add j) u) ∧ good x := by
      intro i hi
      have h1 := hel i hi
      rw [List.getElem?_eq_getElem (by omega : i < elems.length)] at h1
      rw [Option.bind_eq_some_iff] at h1
      obtain ⟨c, h2, h3⟩ := h1
      obtain ⟨x, rfl, hg⟩ := he H enc w held n c _ h3
      rw [hc] at h2
      have hb := World.cells?_block h2 d.pos
      obtain ⟨_, hcl, hcc⟩ := World.cells?_some h2
      refine ⟨x, fun j u hj => .inl ⟨?_, ?_⟩, hg⟩
      · have : ∀ (q : Addr) (k : Nat), (q.add k).block = q.block := fun q k => by unfold Addr.add; split <;> rfl
        rw [this]; exact hb
      · have hjl := (List.getElem?_eq_some_iff.1 hj).1
        rw [hcc j (by rw [d.len] at hjl; exact hjl)]; exact hj
    obtain ⟨xs, hx1, hx2⟩ : ∃ xs : List α, xs.length = len ∧ ∀ i x, xs[i]? = some x → (∀ j u, (d.enc x)[j]? = some u → CellIn w [] ((a.add (i * d.sz)).add j) u) ∧ good x := by
      clear h hel hlen hl hm hq1 hq2
      induction len with
      | zero => exact ⟨[], rfl, fun i x hx => by simp at hx⟩
      | succ m ih =>
        obtain ⟨xs, h1, h2⟩ := ih (fun i hi => each i (by omega))
        obtain ⟨x, h3⟩ := each m (by omega)
        refine ⟨xs ++ [x], by simp [h1], fun i z hz => ?_⟩
        by_cases hi : i < xs.length
        · rw [List.getElem?_append_left hi] at hz; exact h2 i z hz
        · have hil := (List.getElem?_eq_some_iff.1 hz).1
          have : i = xs.length := by simp at hil; omega
          subst this
          simp at hz
          subst hz
          rw [h1]; exact h3
    refine ⟨xs, ⟨_, rfl, some a, cap, by rw [hx1], by rw [hx1]; exact hl, fun _ => ⟨a, rfl, fun j u hj => ?_⟩⟩, by rw [hx1]; exact Nat.le_trans hl hm, fun x hx => ?_⟩
    · have hjl := (List.getElem?_eq_some_iff.1 hj).1
      rw [encs_len] at hjl
      have hq : j / d.sz < xs.length := by
        rw [Nat.div_lt_iff_lt_mul d.pos]; exact hjl
      have hr := Nat.mod_lt j d.pos
      have hjj : j / d.sz * d.sz + j % d.sz = j := by rw [Nat.mul_comm]; exact Nat.div_add_mod j d.sz
      have h1 := (hx2 (j / d.sz) _ (List.getElem?_eq_getElem hq)).1 (j % d.sz) u (by
        rw [← encs_get d (List.getElem?_eq_getElem hq) hr, hjj]; exact hj)
      rw [add_add, hjj] at h1
      exact h1
    · obtain ⟨i, hi⟩ := List.getElem?_of_mem hx
      exact (hx2 i x hi).2
/-- A row whose elements hold rows. -/
theorem TR.sliceD [Inhabited α] {d : DK α} (hu : P.underlying t = some (.slice e)) (hc : P.cellsOf e = d.sz) (he : TR P e (fun w x cs => d.rd w [] x cs) good) : TR P t (fun w xs cs => ∃ v, cs = [v] ∧ RdD w d v xs []) (okT good) := by
  intro H enc w held fuel cs y h
  rcases DataW.trod_slice hu h with ⟨rfl, _⟩ | ⟨a, len, cap, elems, rest, n, _, rfl, _, _, hl, hm, hlen, hel, hq1, hq2⟩
  · exact ⟨[], ⟨_, rfl, RdD.nil w d []⟩, by simp [okT]⟩
  · have each : ∀ i, i < len → ∃ x, (∃ c, d.rd w [] x c ∧ ∀ j u, c[j]? = some u → CellIn w [] (a.add (i * d.sz + j)) u) ∧ good x := by
      intro i hi
      have h1 := hel i hi
      rw [List.getElem?_eq_getElem (by omega : i < elems.length)] at h1
      rw [Option.bind_eq_some_iff] at h1
      obtain ⟨c, h2, h3⟩ := h1
      obtain ⟨x, hx, hg⟩ := he H enc w held n c _ h3
      rw [hc] at h2
      have hb := World.cells?_block h2 d.pos
      obtain ⟨_, hcl, hcc⟩ := World.cells?_some h2
      refine ⟨x, ⟨c, hx, fun j u hj => .inl ⟨?_, ?_⟩⟩, hg⟩
      · have : ∀ (q : Addr) (k : Nat), (q.add k).block = q.block := fun q k => by unfold Addr.add; split <;> rfl
        rw [this, ← this a (i * d.sz)]; exact hb
      · have hjl := (List.getElem?_eq_some_iff.1 hj).1
        rw [← add_add, hcc j (by rw [d.rlen _ _ _ _ hx] at hjl; exact hjl)]; exact hj
    obtain ⟨xs, hx1, hx2⟩ : ∃ xs : List α, xs.length = len ∧ ∀ i x, xs[i]? = some x → (∃ c, d.rd w [] x c ∧ ∀ j u, c[j]? = some u → CellIn w [] (a.add (i * d.sz + j)) u) ∧ good x := by
      clear h hel hlen hl hm hq1 hq2
      induction len with
      | zero => exact ⟨[], rfl, fun i x hx => by simp at hx⟩
      | succ m ih =>
        obtain ⟨xs, h1, h2⟩ := ih (fun i hi => each i (by omega))
        obtain ⟨x, h3⟩ := each m (by omega)
        refine ⟨xs ++ [x], by simp [h1], fun i z hz => ?_⟩
        by_cases hi : i < xs.length
        · rw [List.getElem?_append_left hi] at hz; exact h2 i z hz
        · have hil := (List.getElem?_eq_some_iff.1 hz).1
          have : i = xs.length := by simp at hil; omega
          subst this
          simp at hz
          subst hz
          rw [h1]; exact h3
    exact ⟨xs, ⟨_, rfl, some a, cap, by rw [hx1], by rw [hx1]; exact hl, fun _ => ⟨a, rfl, fun i x hi => (hx2 i x hi).1⟩⟩, by rw [hx1]; exact Nat.le_trans hl hm, fun x hx => by
      obtain ⟨i, hi⟩ := List.getElem?_of_mem hx
      exact (hx2 i x hi).2⟩
end
theorem TR.mono {P : Program} {t : TypeId} {α : Type} {rd : World → α → List Value → Prop} {good good' : α → Prop} (h : TR P t rd good) (hg : ∀ x, good x → good' x) : TR P t rd good' := by
  intro H enc w held fuel cs y hh
  obtain ⟨x, h1, h2⟩ := h H enc w held fuel cs y hh
  exact ⟨x, h1, hg x h2⟩
end Go.Proofs.Gw
