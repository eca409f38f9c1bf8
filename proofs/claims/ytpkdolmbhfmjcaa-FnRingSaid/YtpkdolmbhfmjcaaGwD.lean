/- Rows of plain elements: read, cut, appended to, made, stored into. -/
import Derived.Test.YtpkdolmbhfmjcaaGwC
set_option linter.unusedVariables false
set_option linter.unusedSimpArgs false
set_option linter.unusedSectionVars false
namespace Go.Proofs.Gw
open Go.RowKit

/-- A kind of plain values: their cells. -/
structure FK (α : Type) where
  sz : Nat
  enc : α → List Value
  len : ∀ x, (enc x).length = sz
  one : ∀ x, ∀ u ∈ enc x, u.oneCell' = true
  pos : 0 < sz
def FK.int (k : IntKind) : FK Int := ⟨1, fun x => [.int k x], fun _ => rfl, fun x u h => by rw [List.mem_singleton.1 h]; rfl, Nat.one_pos⟩
def FK.bool : FK Bool := ⟨1, fun x => [.bool x], fun _ => rfl, fun x u h => by rw [List.mem_singleton.1 h]; rfl, Nat.one_pos⟩
def FK.str : FK (List UInt8) := ⟨1, fun x => [S x], fun _ => rfl, fun x u h => by rw [List.mem_singleton.1 h]; rfl, Nat.one_pos⟩

def encs {α : Type} (d : FK α) (xs : List α) : List Value := xs.flatMap d.enc
def ix {α : Type} [Inhabited α] (xs : List α) (i : Int) : α := xs.getD i.toNat default
def slA : Value → Addr
  | .slice (some a) _ _ => a
  | _ => ⟨0, 0, none⟩
def IsSl (v : Value) (n : Nat) : Prop := ∃ A c, v = .slice A n c ∧ n ≤ c
def cutV (v : Value) (a b sz : Nat) : Value :=
  match v with
  | .slice A _ c => .slice (if c = a then A else A.map (·.add (a * sz))) (b - a) (c - a)
  | v => v
section
variable {α : Type} {d : FK α} {xs ys : List α}
theorem encs_len (d : FK α) : ∀ xs : List α, (encs d xs).length = xs.length * d.sz
  | [] => by simp [encs]
  | x :: r => by
    have := encs_len d r
    simp only [encs, List.flatMap_cons, List.length_append, d.len, List.length_cons] at this ⊢
    rw [this, Nat.succ_mul, Nat.add_comm]
theorem encs_append (d : FK α) (xs ys : List α) : encs d (xs ++ ys) = encs d xs ++ encs d ys := by simp [encs]
theorem encs_one (d : FK α) (xs : List α) : ∀ u ∈ encs d xs, u.oneCell' = true := by
  intro u hu
  obtain ⟨x, _, h⟩ := List.mem_flatMap.1 hu
  exact d.one x u h
theorem encs_drop (d : FK α) : ∀ (xs : List α) (i : Nat), (encs d xs).drop (i * d.sz) = encs d (xs.drop i)
  | [], i => by simp [encs]
  | x :: r, 0 => by simp
  | x :: r, i + 1 => by
    have := encs_drop d r i
    simp only [List.drop_succ_cons]
    rw [← this]
    show (d.enc x ++ encs d r).drop ((i + 1) * d.sz) = _
    rw [List.drop_append, d.len, List.drop_of_length_le (by rw [d.len, Nat.succ_mul]; omega), List.nil_append, Nat.succ_mul, Nat.add_sub_cancel]
theorem encs_take (d : FK α) : ∀ (xs : List α) (i : Nat), (encs d xs).take (i * d.sz) = encs d (xs.take i)
  | [], i => by simp [encs]
  | x :: r, 0 => by simp [encs]
  | x :: r, i + 1 => by
    have := encs_take d r i
    simp only [List.take_succ_cons]
    show (d.enc x ++ encs d r).take ((i + 1) * d.sz) = d.enc x ++ encs d (r.take i)
    rw [← this, List.take_append, d.len, List.take_of_length_le (by rw [d.len, Nat.succ_mul]; omega), Nat.succ_mul, Nat.add_sub_cancel]
theorem encs_get (d : FK α) {xs : List α} {i j : Nat} {x : α} (h : xs[i]? = some x) (hj : j < d.sz) : (encs d xs)[i * d.sz + j]? = (d.enc x)[j]? := by
  rw [← List.getElem?_drop, encs_drop]
  have hi := (List.getElem?_eq_some_iff.1 h).1
  have hx := (List.getElem?_eq_some_iff.1 h).2
  rw [List.drop_eq_getElem_cons hi, hx]
  show (d.enc x ++ encs d (xs.drop (i + 1)))[j]? = _
  rw [List.getElem?_append_left (by rw [d.len]; exact hj)]
theorem encs_set (d : FK α) {xs : List α} {i : Nat} {x : α} (hi : i < xs.length) : encs d (xs.set i x) = (encs d xs).take (i * d.sz) ++ (d.enc x ++ (encs d xs).drop ((i + 1) * d.sz)) := by
  rw [encs_take, encs_drop, List.set_eq_take_append_cons_drop, if_pos hi, encs_append]
  rfl
theorem ix_get [Inhabited α] {xs : List α} {i : Int} (h0 : 0 ≤ i) (h1 : i < xs.length) : xs[i.toNat]? = some (ix xs i) := by
  have : i.toNat < xs.length := by omega
  simp [ix, List.getD_eq_getElem?_getD, List.getElem?_eq_getElem this]
end

def CellIn (w0 : World) (h : Hp) (a : Addr) (v : Value) : Prop := (a.block < w0.heap.size ∧ w0.cell? a = some v) ∨ ∃ c ∈ h, c.g = a.block ∧ a.spot = none ∧ c.cs[a.off]? = some v
/-- A row that is read: where its cells lie: in h, or below w0. -/
def RdF {α : Type} (w0 : World) (d : FK α) (v : Value) (xs : List α) (h : Hp) : Prop :=
  ∃ A c, v = .slice A xs.length c ∧ xs.length ≤ c ∧ (0 < xs.length → ∃ ad, A = some ad ∧ ∀ j u, (encs d xs)[j]? = some u → CellIn w0 h (ad.add j) u)
/-- A row of one's own. -/
def OwF {α : Type} (T : Nat) (d : FK α) (v : Value) (xs : List α) (h : Hp) : Prop :=
  (v = .slice none 0 0 ∧ xs = [] ∧ h = []) ∨
  ∃ g cap fr pre post, v = .slice (some ⟨g, pre.length, none⟩) xs.length cap ∧ h = sg g T fr pre (encs d xs) post ∧ xs.length ≤ cap ∧ cap ≤ maxLen ∧ (cap - xs.length) * d.sz ≤ post.length
section
variable {α : Type} {d : FK α} {xs ys : List α} {w0 w w' : World} {h h' H : Hp} {L : List Hp} {v u : Value} {T : Nat} {k : Nat} {i : Int} {ad : Addr}
theorem CellIn.mono (hc : CellIn w0 h ad v) (hs : Sub h h') : CellIn w0 h' ad v := by
  rcases hc with hc | ⟨c, hc, r⟩
  · exact .inl hc
  · exact .inr ⟨c, hs c hc, r⟩
theorem CellIn.now (hc : CellIn w0 h ad v) (hm : Mem w0 w H) (hs : Sub h H) : w.cell? ad = some v := by
  rcases hc with ⟨hl, hc⟩ | ⟨c, hc, hg, hsp, hv⟩
  · rw [hm.below.cell hl]; exact hc
  · have := hm.cell (hs c hc) hv
    obtain ⟨b, o, s⟩ := ad
    simp only at hg hsp
    subst hsp
    rw [← hg]; exact this
theorem RdF.mono (hr : RdF w0 d v xs h) (hs : Sub h h') : RdF w0 d v xs h' := by
  obtain ⟨A, c, hv, hc, hn⟩ := hr
  refine ⟨A, c, hv, hc, fun hp => ?_⟩
  obtain ⟨ad, ha, hcell⟩ := hn hp
  exact ⟨ad, ha, fun j u hu => (hcell j u hu).mono hs⟩
theorem RdF.sl (hr : RdF w0 d v xs h) : IsSl v xs.length := by
  obtain ⟨A, c, hv, hc, _⟩ := hr
  exact ⟨A, c, hv, hc⟩
theorem RdF.nil (w0 : World) (d : FK α) (h : Hp) : RdF w0 d (.slice none 0 0) [] h := ⟨none, 0, rfl, Nat.le_refl _, fun hp => absurd hp (Nat.lt_irrefl _)⟩
theorem OwF.nil (T : Nat) (d : FK α) : OwF T d (.slice none 0 0) [] [] := .inl ⟨rfl, rfl, rfl⟩
theorem OwF.rd (hO : OwF T d v xs h) (w0 : World) : RdF w0 d v xs h := by
  rcases hO with ⟨rfl, rfl, rfl⟩ | ⟨g, cap, fr, pre, post, rfl, rfl, hc, _, _⟩
  · exact RdF.nil _ _ _
  · refine ⟨_, cap, rfl, hc, fun _ => ⟨_, rfl, fun j u hu => .inr ⟨_, List.mem_singleton.2 rfl, ?_, ?_, ?_⟩⟩⟩
    · rw [add_lit]
    · rw [add_lit]
    · rw [add_lit]
      simp only []
      have hl := (List.getElem?_eq_some_iff.1 hu).1
      rw [List.getElem?_append_right (by omega), show pre.length + j - pre.length = j by omega, List.getElem?_append_left hl]
      exact hu
theorem OwF.sl (hO : OwF T d v xs h) : IsSl v xs.length := by
  rcases hO with ⟨rfl, rfl, rfl⟩ | ⟨g, cap, fr, pre, post, rfl, rfl, hc, _, _⟩
  · exact ⟨none, 0, rfl, Nat.le_refl _⟩
  · exact ⟨_, cap, rfl, hc⟩
theorem RdF.addr (hr : RdF w0 d v xs h) (hp : 0 < xs.length) : ∃ c, v = .slice (some (slA v)) xs.length c ∧ ∀ j u, (encs d xs)[j]? = some u → CellIn w0 h ((slA v).add j) u := by
  obtain ⟨A, c, rfl, hc, hn⟩ := hr
  obtain ⟨ad, rfl, hcell⟩ := hn hp
  exact ⟨c, rfl, hcell⟩
theorem RdF.cells [Inhabited α] (hr : RdF w0 d v xs h) (hm : Mem w0 w H) (hs : Sub h H) (h0 : 0 ≤ i) (h1 : i < xs.length) :
    ∀ j u, (d.enc (ix xs i))[j]? = some u → w.cell? (((slA v).add (i.toNat * d.sz)).add j) = some u := by
  intro j u hu
  obtain ⟨c, _, hcell⟩ := hr.addr (by omega)
  have hj : j < d.sz := by have := (List.getElem?_eq_some_iff.1 hu).1; rwa [d.len] at this
  rw [add_add]
  exact (hcell _ u ((encs_get d (ix_get h0 h1) hj).trans hu)).now hm hs
theorem RdF.cell0 [Inhabited α] (hr : RdF w0 d v xs h) (hm : Mem w0 w H) (hs : Sub h H) (h0 : 0 ≤ i) (h1 : i < xs.length) (hu : (d.enc (ix xs i))[0]? = some u) : w.cell? ((slA v).add (i.toNat * d.sz)) = some u := by
  have := hr.cells hm hs h0 h1 0 u hu
  rwa [add_0] at this
theorem cutV_rd {a b : Nat} (hr : RdF w0 d v xs h) (hab : a ≤ b) (hb : b ≤ xs.length) : RdF w0 d (cutV v a b d.sz) ((xs.drop a).take (b - a)) h := by
  have hl : ((xs.drop a).take (b - a)).length = b - a := by simp; omega
  obtain ⟨A, c, rfl, hc, hn⟩ := hr
  refine ⟨if c = a then A else A.map (·.add (a * d.sz)), c - a, by rw [hl]; rfl, by omega, fun hp => ?_⟩
  rw [hl] at hp
  obtain ⟨ad, rfl, hcell⟩ := hn (by omega)
  rw [if_neg (by omega)]
  refine ⟨ad.add (a * d.sz), rfl, fun j u hu => ?_⟩
  rw [add_add]
  refine hcell _ u ?_
  rw [← encs_take, ← encs_drop, List.getElem?_take] at hu
  split at hu
  · rw [List.getElem?_drop] at hu
    exact hu
  · cases hu
theorem OwF.cut {a b : Nat} (hO : OwF T d v xs h) (hab : a ≤ b) (hb : b ≤ xs.length) : OwF T d (cutV v a b d.sz) ((xs.drop a).take (b - a)) h := by
  have hl : ((xs.drop a).take (b - a)).length = b - a := by simp; omega
  rcases hO with ⟨rfl, rfl, rfl⟩ | ⟨g, cap, fr, pre, post, rfl, rfl, hc, hm, hp⟩
  · simp only [List.length_nil, Nat.le_zero] at hb
    have ha : a = 0 := by omega
    subst hb; subst ha
    exact .inl ⟨rfl, by simp, rfl⟩
  · right
    have hx : xs = xs.take a ++ ((xs.drop a).take (b - a) ++ xs.drop b) := by
      have h1 : (xs.drop a).drop (b - a) = xs.drop b := by rw [List.drop_drop]; congr 1; omega
      rw [← h1, List.take_append_drop, List.take_append_drop]
    have he : encs d xs = encs d (xs.take a) ++ (encs d ((xs.drop a).take (b - a)) ++ encs d (xs.drop b)) := by
      rw [← encs_append, ← encs_append, ← hx]
    by_cases hca : cap = a
    · have hba : b - a = 0 := by omega
      refine ⟨g, cap - a, fr, pre, encs d xs ++ post, ?_, ?_, by rw [hl]; omega, by omega, by rw [hl]; simp [hca]⟩
      · simp only [cutV, if_pos hca, hl]
      · simp [sg, hba, encs]
    · refine ⟨g, cap - a, fr, pre ++ encs d (xs.take a), encs d (xs.drop b) ++ post, ?_, ?_, by rw [hl]; omega, by omega, ?_⟩
      · have h2 : (encs d (xs.take a)).length = a * d.sz := by rw [encs_len, List.length_take, Nat.min_eq_left (by omega)]
        simp only [cutV, if_neg hca, hl, Option.map_some, add_lit, List.length_append, h2]
      · simp only [sg]
        rw [he]; simp
      · rw [hl, List.length_append, encs_len, List.length_drop]
        have : cap - a - (b - a) = (xs.length - b) + (cap - xs.length) := by omega
        rw [this, Nat.add_mul]
        omega
/-- A row whose element i is stored into. -/
theorem OwF.set_ [Inhabited α] {x : α} {vs : List Value} {j : Nat} (hO : OwF T d v xs h) (hm : Mem w0 w (cat L)) (hk : L[k]? = some h) (h0 : 0 ≤ i) (h1 : i < xs.length) (hj : j + vs.length ≤ d.sz) (he : splice (d.enc (ix xs i)) j vs = d.enc x) :
    ∃ g o' cs T' fr h', ((slA v).add (i.toNat * d.sz)).add j = ⟨g, o', none⟩ ∧ w.heap[g]? = some (.cells (cs : List Value).toArray T' fr) ∧ okc ⟨g, T', fr, cs⟩ ∧ o' + vs.length ≤ cs.length ∧ OwF T d v (xs.set i.toNat x) h' ∧ Mem w0 (setAt w g o' vs) (cat (L.set k h')) := by
  rcases hO with ⟨rfl, rfl, rfl⟩ | ⟨g, cap, fr, pre, post, rfl, rfl, hc, hmx, hp⟩
  · simp at h1; omega
  · have hi : i.toNat < xs.length := by omega
    have hin : i.toNat * d.sz + d.sz ≤ (encs d xs).length := by rw [encs_len, ← Nat.succ_mul]; exact Nat.mul_le_mul_right _ hi
    obtain ⟨_, hg, hok⟩ := hm.at_ ⟨g, T, fr, pre ++ (encs d xs ++ post)⟩ (mem_cat hk (List.mem_singleton.2 rfl))
    refine ⟨g, pre.length + (i.toNat * d.sz + j), pre ++ (encs d xs ++ post), T, fr, sg g T fr pre (encs d (xs.set i.toNat x)) post, ?_, hg, hok, by simp; omega, ?_, ?_⟩
    · show ((⟨g, pre.length, none⟩ : Addr).add (i.toNat * d.sz)).add j = _
      rw [add_lit, add_lit, Nat.add_assoc]
    · right
      exact ⟨g, cap, fr, pre, post, by simp, rfl, by simpa using hc, hmx, by simpa using hp⟩
    · have hs := seg_store (vs := vs) (j := i.toNat * d.sz + j) hm hk rfl (by simpa using (by omega : i.toNat * d.sz + j + vs.length ≤ (encs d xs).length))
      have he2 : splice (encs d xs) (i.toNat * d.sz + j) vs = encs d (xs.set i.toNat x) := by
        rw [encs_set d hi, ← he]
        have hx : (encs d xs).take (i.toNat * d.sz) ++ (d.enc (ix xs i) ++ (encs d xs).drop ((i.toNat + 1) * d.sz)) = encs d xs := by
          rw [← encs_set d hi]
          congr 1
          have hg := ix_get h0 h1
          have := (List.getElem?_eq_some_iff.1 hg).2
          rw [← this]
          simp
        have hl1 : ((encs d xs).take (i.toNat * d.sz)).length = i.toNat * d.sz := by simp; omega
        have h9 := splice_app (pre := (encs d xs).take (i.toNat * d.sz)) (cells := d.enc (ix xs i)) (post := (encs d xs).drop ((i.toNat + 1) * d.sz)) (vs := vs) (j := j) (by rw [d.len]; exact hj)
        rw [hx, hl1] at h9
        exact h9
      rw [he2] at hs
      exact hs
theorem OwF.lit (g : Nat) (xs : List α) (n : Nat) (hn : xs.length = n) (hm : n ≤ maxLen) : OwF T d (.slice (some ⟨g, 0, none⟩) n n) xs (sg g T (0, 0) [] (encs d xs) []) := by
  subst hn
  exact .inr ⟨g, xs.length, (0, 0), [], [], rfl, rfl, Nat.le_refl _, hm, by simp⟩
end

/-! ### Operations -/
section
variable {P : Program} {o : Oper} {ρ : Operand → Value} {w w0 w' : World} {x y z : Operand} {v u : Value} {t e : TypeId} {L : List Hp} {k T : Nat} {ik : IntKind} {α : Type} {d : FK α} {xs ys : List α} {h hS : Hp} {i : Int} {sz bytes n : Nat} {zv : Value} {ad : Addr}
theorem SliceTy.un (ht : SliceTy P t e sz bytes zv) : P.underlying t = some (.slice e) := ht.1
theorem SliceTy.size (ht : SliceTy P t e sz bytes zv) : (P.info? e).map (·.size) = some sz := by
  obtain ⟨i, h1, h2⟩ := Option.map_eq_some_iff.1 ht.2
  simp only [Prod.mk.injEq] at h2
  simp [h1, h2.2.1]
theorem x_len (ho : o.op = .call { callee := .builtin .len, args := #[x], argTypes := #[t] }) (ht : SliceTy P t e sz bytes zv) (hx : ρ x = v) (hv : IsSl v n) : (execOp ρ o).run P w = .ok (.value (.int .i64 n)) w := by
  obtain ⟨A, c, rfl, _⟩ := hv
  simp [execOp, ho, hx, resolve, invoke, builtin, Builtin.len_, run_underlying ht.un, goInt]
theorem x_index (ho : o.op = .indexAddr t x y) (ht : SliceTy P t e d.sz bytes zv) (hx : ρ x = v) (hy : ρ y = .int ik i) (hr : RdF w0 d v xs h) (h0 : 0 ≤ i) (h1 : i < xs.length) :
    (execOp ρ o).run P w = .ok (.value (.pointer (some ((slA v).add (i.toNat * d.sz))))) w := by
  obtain ⟨c, hv, _⟩ := hr.addr (by omega)
  generalize slA v = a at hv
  subst hv
  simp [execOp, ho, hx, hy, Instr.indexAt, asIntOf, run_underlying ht.un, h0, h1, run_sizeOf ht.size]
theorem run_bound {c : Nat} {code : BoundsCode} (h0 : 0 ≤ i) (h1 : i ≤ c) : (Instr.sliceBound (.int ik i) c code).run P w = .ok i.toNat w := by
  simp [Instr.sliceBound, asIntOf, h0, h1]
theorem x_slice_lh {a b : Int} {ik' : IntKind} (ho : o.op = .slice t x (some y) (some z) none) (ht : SliceTy P t e d.sz bytes zv) (hx : ρ x = v) (hy : ρ y = .int ik a) (hz : ρ z = .int ik' b) (hv : IsSl v n) (h0 : 0 ≤ a) (h1 : a ≤ b) (h2 : b ≤ n) :
    (execOp ρ o).run P w = .ok (.value (cutV v a.toNat b.toNat d.sz)) w := by
  obtain ⟨A, c, rfl, hc⟩ := hv
  have hb := run_bound (P := P) (w := w) (ik := ik') (i := b) (c := c) (code := .sliceAcap) (by omega) (by omega)
  have ha := run_bound (P := P) (w := w) (ik := ik) (i := a) (c := b.toNat) (code := .sliceB) h0 (by omega)
  simp [execOp, ho, hx, hy, hz, Instr.sliceAt, run_underlying ht.un, Instr.slice, Instr.sliceBounds, hb, ha, run_sizeOf ht.size, cutV]
theorem x_slice_l {a : Int} (ho : o.op = .slice t x (some y) none none) (ht : SliceTy P t e d.sz bytes zv) (hx : ρ x = v) (hy : ρ y = .int ik a) (hv : IsSl v n) (h0 : 0 ≤ a) (h1 : a ≤ n) :
    (execOp ρ o).run P w = .ok (.value (cutV v a.toNat n d.sz)) w := by
  obtain ⟨A, c, rfl, hc⟩ := hv
  have ha := run_bound (P := P) (w := w) (ik := ik) (i := a) (c := n) (code := .sliceB) h0 h1
  simp [execOp, ho, hx, hy, Instr.sliceAt, run_underlying ht.un, Instr.slice, Instr.sliceBounds, ha, run_sizeOf ht.size, cutV]
theorem x_slice_h {b : Int} (ho : o.op = .slice t x none (some z) none) (ht : SliceTy P t e d.sz bytes zv) (hx : ρ x = v) (hz : ρ z = .int ik b) (hv : IsSl v n) (h0 : 0 ≤ b) (h1 : b ≤ n) :
    (execOp ρ o).run P w = .ok (.value (cutV v 0 b.toNat d.sz)) w := by
  obtain ⟨A, c, rfl, hc⟩ := hv
  have hb := run_bound (P := P) (w := w) (ik := ik) (i := b) (c := c) (code := .sliceAcap) h0 (by omega)
  simp [execOp, ho, hx, hz, Instr.sliceAt, run_underlying ht.un, Instr.slice, Instr.sliceBounds, hb, run_sizeOf ht.size, cutV]
theorem x_slice_n (ho : o.op = .slice t x none none none) (ht : SliceTy P t e d.sz bytes zv) (hx : ρ x = v) (hv : IsSl v n) :
    (execOp ρ o).run P w = .ok (.value (cutV v 0 n d.sz)) w := by
  obtain ⟨A, c, rfl, hc⟩ := hv
  simp [execOp, ho, hx, Instr.sliceAt, run_underlying ht.un, Instr.slice, Instr.sliceBounds, run_sizeOf ht.size, cutV]
/-- A store into element i: vs are the cells that are written from leaf j on. -/
theorem e_storeF [Inhabited α] {s : α} {vs : List Value} {j : Nat} (ho : o.op = .store t x y) (hs : (P.info? t).map (·.size) = some vs.length) (hx : ρ x = .pointer (some ad)) (had : ad = ((slA v).add (i.toNat * d.sz)).add j) (hy : ρ y = u) (hv : u.cells = vs.toArray) (h1 : (vs.all fun u => u.oneCell') = true)
    (hO : OwF T d v xs h) (hi0 : 0 ≤ i) (hi1 : i < xs.length) (hj : Nat.ble (j + vs.length) d.sz = true) (he : splice (d.enc (ix xs i)) j vs = d.enc s) (hm : Mem w0 w (cat L)) (hk : L[k]? = some h) :
    ∃ (h' : Hp) (w' : World), (execOp ρ o).run P w = .ok .skip w' ∧ (OwF T d v (xs.set i.toNat s) h' ∧ Mem w0 w' (cat (L.set k h'))) := by
  obtain ⟨g, o', cs, T', fr, h', ha, hg, hok, hl, hO', hm'⟩ := hO.set_ hm hk hi0 hi1 (by simpa using hj) he
  refine ⟨h', _, ?_, hO', hm'⟩
  have hst := run_storeVar (P := P) (t := t) (v := u) (o' := o') hs hv (fun u hu => List.all_eq_true.1 h1 u hu) hg hok hl
  subst had
  rw [ha] at hx
  simp [execOp, ho, hx, hy, Instr.storeAt, Instr.sureAddr, hst]
/-- What an append takes in. -/
theorem run_first {A : Option Addr} {c : Nat} {vs : List Value} (hl : vs.length = n * sz) (hA : 0 < n → ∃ ad, A = some ad ∧ ∀ j u, vs[j]? = some u → w.cell? (ad.add j) = some u) : (Builtin.firstCells sz n (.slice A n c)).run P w = .ok vs.toArray w := by
  rcases Nat.eq_zero_or_pos n with h0 | h0
  · subst h0
    have : vs = [] := List.eq_nil_of_length_eq_zero (by simpa using hl)
    subst this
    cases A with
    | none => exact run_firstCells_none (P := P) w sz 0 0 c
    | some a => exact run_firstCells_some (P := P) w sz 0 a 0 c [] (by simp) (fun j v h => by simp at h)
  · obtain ⟨ad, rfl, hc⟩ := hA h0
    exact run_firstCells_some (P := P) w sz n ad n c vs hl hc
theorem RdF.first (hr : RdF w0 d v xs h) (hm : Mem w0 w (cat L)) (hs : Sub h (cat L)) : ∃ A c, v = .slice A xs.length c ∧ (Builtin.firstCells d.sz xs.length v).run P w = .ok (encs d xs).toArray w := by
  obtain ⟨A, c, rfl, hc, hn⟩ := hr
  refine ⟨A, c, rfl, run_first (encs_len d xs) (fun hp => ?_)⟩
  obtain ⟨ad, ha, hcell⟩ := hn hp
  exact ⟨ad, ha, fun j u hu => (hcell j u hu).now hm hs⟩
/-- append, whatever is taken in: 'news' its cells, m its elements. -/
theorem run_append {m : Nat} {news : List Value} {xt : TypeId} (hxt : P.underlying xt = some (.slice e) ∨ P.underlying xt = some .string) (ht : SliceTy P t e d.sz bytes zv) (hz : zv.cells.size = d.sz) (hO : OwF e d v xs h) (hk : L[k]? = some h) (hm : Mem w0 w (cat L))
    (hlen : (Builtin.lenOf u).run P w = .ok m w) (hfirst : ∀ w1 : World, (∀ a, w1.cell? a = w.cell? a) → (Builtin.firstCells d.sz m u).run P w1 = .ok news.toArray w1)
    (hys : ∃ ys : List α, news = encs d ys ∧ ys.length = m ∧ (xs.length + m) * bytes ≤ 140737488355328 ∧ xs.length + m ≤ 9223372036854775807) (ty : TypeId) :
    ∃ (p : Value × Hp) (w' : World), (Builtin.append_ #[t, xt] ty #[v, u]).run P w = .ok p.1 w' ∧ (∃ ys : List α, news = encs d ys ∧ OwF e d p.1 (xs ++ ys) p.2) ∧ Mem w0 w' (cat (L.set k p.2)) := by
  obtain ⟨ys, rfl, rfl, hb, h63⟩ := hys
  obtain ⟨i0, hi1, hi2⟩ := Option.map_eq_some_iff.1 ht.2
  simp only [Prod.mk.injEq] at hi2
  obtain ⟨hi3, hi4, hi5⟩ := hi2
  have grow : ∀ (A : Option Addr) (cap : Nat), v = .slice A xs.length cap → cap < xs.length + ys.length → (∀ w1 : World, (∀ a, w1.cell? a = w.cell? a) → (Builtin.firstCells d.sz xs.length v).run P w1 = .ok (encs d xs).toArray w1) →
      ∃ cap', xs.length + ys.length ≤ cap' ∧ cap' ≤ maxLen ∧ (Builtin.append_ #[t, xt] ty #[v, u]).run P w = .ok (.slice (some ⟨w.heap.size, 0, none⟩) (xs.length + ys.length) cap') (w.drew.alloc (.cells (encs d xs ++ (encs d ys ++ (Builtin.zeroCells zv.cells (cap' - (xs.length + ys.length))).toList)).toArray e)) := by
    intro A cap hv hcap hold
    refine ⟨grownCap w (xs.length + ys.length) cap e, grownCap_ge _ _ _ _, grownCap_le_maxLen _ _ _ _ (by simp only [maxLen]; omega), ?_⟩
    have hn : ¬ (xs.length + ys.length ≤ cap) := by omega
    have h63' : ¬ (9223372036854775807 < ((xs.length : Int) + (ys.length : Int))) := by omega
    have h48' : ¬ (281474976710656 < Builtin.nextslicecap (xs.length + ys.length) cap * bytes) := by
      have := growslice_fits (old := cap) (need := xs.length + ys.length) (bytes := bytes) hcap hb
      omega
    have ho1 := hold w.drew (fun a => rfl)
    have hf1 := hfirst w.drew (fun a => rfl)
    subst hv
    have hz2 : ∀ z : Array Value, ((encs d xs) ++ (encs d ys ++ z.toList)).toArray = (encs d xs).toArray ++ ((encs d ys).toArray ++ z) := by
      intro z; apply Array.ext'; simp
    rw [hz2]
    rcases hxt with hxt | hxt <;> simp [Builtin.append_, run_underlying ht.un, run_underlying hxt, sizeOf, typeInfo, zeroValue, hi1, hi3, hi4, hi5, hlen, hn, h63', h48', ho1, hf1, Question.forced, newRow, grownCap]
  rcases hO with ⟨rfl, rfl, rfl⟩ | ⟨g, cap, fr, pre, post, rfl, rfl, hc, hmx, hp⟩
  · by_cases hm0 : ys = []
    · subst hm0
      have hf1 := hfirst w (fun a => rfl)
      refine ⟨(.slice none 0 0, []), w, ?_, ⟨[], rfl, .inl ⟨rfl, rfl, rfl⟩⟩, ?_⟩
      · simp only [encs, List.flatMap_nil, List.length_nil] at hf1 hlen
        rcases hxt with hxt | hxt <;> simp [Builtin.append_, run_underlying ht.un, run_underlying hxt, sizeOf, typeInfo, hi1, hi4, hlen, hf1]
      · have : L.set k [] = L := by
          apply List.ext_getElem?
          intro j
          by_cases hj : j = k
          · subst hj; rw [hk, List.getElem?_set_self (List.getElem?_eq_some_iff.1 hk).1]
          · rw [List.getElem?_set_ne (Ne.symm hj)]
        rw [this]; exact hm
    · have hp : 0 < ys.length := List.length_pos_iff.2 hm0
      obtain ⟨cap', h1, h2, hr⟩ := grow none 0 rfl (by simpa using hp) (fun w1 _ => by simpa [encs] using run_firstCells_none (P := P) w1 d.sz 0 0 0)
      simp only [List.length_nil, Nat.zero_add] at h1 h2 hr
      have hm2 := (hm.drew.alloc e (encs d ([] : List α) ++ (encs d ys ++ (Builtin.zeroCells zv.cells (cap' - ys.length)).toList)))
      refine ⟨(.slice (some ⟨w.heap.size, 0, none⟩) ys.length cap', sg w.heap.size e (0, 0) [] (encs d ys) (Builtin.zeroCells zv.cells (cap' - ys.length)).toList), _, hr, ⟨ys, rfl, .inr ⟨w.heap.size, cap', (0, 0), [], _, rfl, rfl, h1, h2, ?_⟩⟩, ?_⟩
      · simp [Builtin.zeroCells, hz]
      · have hm3 : Mem w0 (w.drew.alloc (.cells (encs d ([] : List α) ++ (encs d ys ++ (Builtin.zeroCells zv.cells (cap' - ys.length)).toList)).toArray e)) (cat ((sg w.heap.size e (0, 0) [] (encs d ys) (Builtin.zeroCells zv.cells (cap' - ys.length)).toList) :: L)) := by
          have : sg w.drew.heap.size e (0, 0) [] (encs d ([] : List α) ++ (encs d ys ++ (Builtin.zeroCells zv.cells (cap' - ys.length)).toList)) [] = sg w.heap.size e (0, 0) [] (encs d ys) (Builtin.zeroCells zv.cells (cap' - ys.length)).toList := by
            simp [sg, encs]
          rw [this] at hm2; exact hm2
        exact mem_set hm3 hk
  · by_cases hroom : xs.length + ys.length ≤ cap
    · have hf1 := hfirst w (fun a => rfl)
      obtain ⟨_, hg, hok⟩ := hm.at_ ⟨g, e, fr, pre ++ (encs d xs ++ post)⟩ (mem_cat hk (List.mem_singleton.2 rfl))
      have hpl : ys.length * d.sz ≤ post.length := Nat.le_trans (Nat.mul_le_mul_right _ (by omega)) hp
      have hst := run_setAt (P := P) g e fr (encs d ys) w 0 (pre.length + xs.length * d.sz) (pre ++ (encs d xs ++ post)) hg hok (by simp [encs_len]; omega) (encs_one d ys)
      have hx2' : pre ++ (encs d xs ++ post) = (pre ++ encs d xs) ++ (post ++ []) := by simp
      have hk2 : L[k]? = some (sg g e fr (pre ++ encs d xs) post []) := by rw [hk]; simp [sg]
      have hmm := seg_store (vs := encs d ys) (j := 0) hm hk2 rfl (by simpa [encs_len] using hpl)
      have hs : sg g e fr (pre ++ encs d xs) (splice post 0 (encs d ys)) [] = sg g e fr pre (encs d (xs ++ ys)) (post.drop (ys.length * d.sz)) := by
        simp [sg, splice, encs_append, encs_len]
      rw [hs] at hmm
      have hl2 : (pre ++ encs d xs).length + 0 = pre.length + xs.length * d.sz + 0 := by simp [encs_len]
      rw [hl2] at hmm
      refine ⟨(.slice (some ⟨g, pre.length, none⟩) (xs.length + ys.length) cap, _), _, ?_, ⟨ys, rfl, .inr ⟨g, cap, fr, pre, post.drop (ys.length * d.sz), by simp, rfl, by simpa using hroom, hmx, ?_⟩⟩, hmm⟩
      · rcases hxt with hxt | hxt <;> simp [Builtin.append_, run_underlying ht.un, run_underlying hxt, sizeOf, typeInfo, hi1, hi4, hlen, hf1, hroom, add_lit, hst]
      · rw [List.length_append, List.length_drop]
        have h1 : (cap - (xs.length + ys.length)) * d.sz + ys.length * d.sz = (cap - xs.length) * d.sz := by rw [← Nat.add_mul]; congr 1; omega
        omega
    · obtain ⟨cap', h1, h2, hr⟩ := grow _ cap rfl (by omega) (fun w1 hw1 => by
        refine run_first (encs_len d xs) (fun hpx => ⟨_, rfl, fun j u hu => ?_⟩)
        rw [hw1, add_lit]
        exact seg_cell hm hk rfl hu)
      have hm2 := (hm.drew.alloc e (encs d xs ++ (encs d ys ++ (Builtin.zeroCells zv.cells (cap' - (xs.length + ys.length))).toList)))
      refine ⟨(.slice (some ⟨w.heap.size, 0, none⟩) (xs.length + ys.length) cap', sg w.heap.size e (0, 0) [] (encs d (xs ++ ys)) (Builtin.zeroCells zv.cells (cap' - (xs.length + ys.length))).toList), _, hr, ⟨ys, rfl, .inr ⟨w.heap.size, cap', (0, 0), [], _, by simp, rfl, by simpa using h1, h2, ?_⟩⟩, ?_⟩
      · simp [Builtin.zeroCells, hz]
      · have : sg w.drew.heap.size e (0, 0) [] (encs d xs ++ (encs d ys ++ (Builtin.zeroCells zv.cells (cap' - (xs.length + ys.length))).toList)) [] = sg w.heap.size e (0, 0) [] (encs d (xs ++ ys)) (Builtin.zeroCells zv.cells (cap' - (xs.length + ys.length))).toList := by
          simp [sg, encs_append]
        rw [this] at hm2
        exact mem_set hm2 hk
end
end Go.Proofs.Gw
