/- Rows whose room is known: an append in place, a cut behind the end, clearing it. -/
import Derived.Test.YtpkdolmbhfmjcaaGwK
set_option linter.unusedVariables false
set_option linter.unusedSimpArgs false
set_option linter.unusedSectionVars false
namespace Go.Proofs.Gw
open Go.RowKit
/-- A plain row of one's own that has room for c elements. -/
def OwR {α : Type} (T : Nat) (d : FK α) (v : Value) (xs : List α) (h : Hp) (c : Nat) : Prop :=
  (v = .slice none 0 0 ∧ xs = [] ∧ h = [] ∧ c = 0) ∨
  ∃ g cap fr pre post, v = .slice (some ⟨g, pre.length, none⟩) xs.length cap ∧ h = sg g T fr pre (encs d xs) post ∧ xs.length ≤ cap ∧ cap ≤ maxLen ∧ (cap - xs.length) * d.sz ≤ post.length ∧ c ≤ cap
section
variable {P : Program} {o : Oper} {ρ : Operand → Value} {w w0 w' : World} {x y z : Operand} {v u : Value} {t e : TypeId} {L : List Hp} {k T c : Nat} {ik ik' : IntKind} {α : Type} {d : FK α} {xs ys : List α} {h hS : Hp} {sz bytes n : Nat} {zv : Value}
theorem OwR.own (hO : OwR T d v xs h c) : OwF T d v xs h := by
  rcases hO with ⟨h1, h2, h3, _⟩ | ⟨g, cap, fr, pre, post, h1, h2, h3, h4, h5, _⟩
  · exact .inl ⟨h1, h2, h3⟩
  · exact .inr ⟨g, cap, fr, pre, post, h1, h2, h3, h4, h5⟩
theorem OwF.room (hO : OwF T d v xs h) : OwR T d v xs h xs.length := by
  rcases hO with ⟨h1, h2, h3⟩ | ⟨g, cap, fr, pre, post, h1, h2, h3, h4, h5⟩
  · exact .inl ⟨h1, h2, h3, by rw [h2]; rfl⟩
  · exact .inr ⟨g, cap, fr, pre, post, h1, h2, h3, h4, h5, h3⟩
theorem OwR.cut0 {b : Nat} (hO : OwR T d v xs h c) (hb : b ≤ xs.length) : OwR T d (cutV v 0 b d.sz) (slc xs 0 b) h c := by
  have hl : (slc xs 0 b).length = b := by simp [slc]; omega
  rcases hO with ⟨rfl, rfl, rfl, rfl⟩ | ⟨g, cap, fr, pre, post, rfl, rfl, hc, hm, hp, hcc⟩
  · simp only [List.length_nil, Nat.le_zero] at hb
    subst hb
    exact .inl ⟨rfl, by simp [slc], rfl, rfl⟩
  · right
    have he : encs d xs = encs d (slc xs 0 b) ++ encs d (xs.drop b) := by
      rw [← encs_append]; simp [slc]
    refine ⟨g, cap, fr, pre, encs d (xs.drop b) ++ post, ?_, ?_, by rw [hl]; omega, hm, ?_, hcc⟩
    · rw [hl]
      by_cases hca : cap = 0
      · simp [cutV, hca]
      · simp [cutV, hca, add_lit]
    · simp only [sg]
      rw [he]; simp
    · rw [hl, List.length_append, encs_len, List.length_drop]
      have : cap - b = (xs.length - b) + (cap - xs.length) := by omega
      rw [this, Nat.add_mul]
      omega
theorem e_append_room (ho : o.op = .call { callee := .builtin .append, args := #[x, y], argTypes := #[t, t] }) (ht : SliceTy P t e d.sz bytes zv) (hx : ρ x = v) (hy : ρ y = u)
    (hO : OwR e d v xs h c) (hk : L[k]? = some h) (hr : RdF w0 d u ys hS) (hs : Sub hS (cat L)) (hm : Mem w0 w (cat L)) (hl : xs.length + ys.length ≤ c) :
    ∃ (p : Value × Hp) (w' : World), (execOp ρ o).run P w = .ok (.value p.1) w' ∧ (OwR e d p.1 (xs ++ ys) p.2 c ∧ Mem w0 w' (cat (L.set k p.2))) := by
  obtain ⟨A, c', hv, _, hn⟩ := hr
  have hfirst : (Builtin.firstCells d.sz ys.length u).run P w = .ok (encs d ys).toArray w := by
    rw [hv]
    refine run_first (encs_len d ys) (fun hp => ?_)
    obtain ⟨ad, ha, hcell⟩ := hn hp
    exact ⟨ad, ha, fun j u hu => (hcell j u hu).now hm hs⟩
  obtain ⟨i0, hi1, hi2⟩ := Option.map_eq_some_iff.1 ht.2
  simp only [Prod.mk.injEq] at hi2
  obtain ⟨hi3, hi4, hi5⟩ := hi2
  have hlen : (Builtin.lenOf u).run P w = .ok ys.length w := by rw [hv]; simp [Builtin.lenOf]
  rcases hO with ⟨rfl, rfl, rfl, rfl⟩ | ⟨g, cap, fr, pre, post, rfl, rfl, hc, hmx, hp, hcc⟩
  · have hy0 : ys = [] := List.eq_nil_of_length_eq_zero (by simpa using hl)
    subst hy0
    refine ⟨(.slice none 0 0, []), w, ?_, .inl ⟨rfl, rfl, rfl, rfl⟩, ?_⟩
    · simp only [encs, List.flatMap_nil, List.length_nil] at hfirst hlen
      simp [execOp, ho, resolve, invoke, builtin, hx, hy, Builtin.append_, run_underlying ht.un, sizeOf, typeInfo, hi1, hi4, hlen, hfirst]
    · have : L.set k [] = L := by
        apply List.ext_getElem?
        intro j
        by_cases hj : j = k
        · subst hj; rw [hk, List.getElem?_set_self (List.getElem?_eq_some_iff.1 hk).1]
        · rw [List.getElem?_set_ne (Ne.symm hj)]
      rw [this]; exact hm
  · have hroom : xs.length + ys.length ≤ cap := Nat.le_trans hl hcc
    obtain ⟨_, hg, hok⟩ := hm.at_ ⟨g, e, fr, pre ++ (encs d xs ++ post)⟩ (mem_cat hk (List.mem_singleton.2 rfl))
    have hpl : ys.length * d.sz ≤ post.length := Nat.le_trans (Nat.mul_le_mul_right _ (by omega)) hp
    have hst := run_setAt (P := P) g e fr (encs d ys) w 0 (pre.length + xs.length * d.sz) (pre ++ (encs d xs ++ post)) hg hok (by simp [encs_len]; omega) (encs_one d ys)
    have hk2 : L[k]? = some (sg g e fr (pre ++ encs d xs) post []) := by rw [hk]; simp [sg]
    have hmm := seg_store (vs := encs d ys) (j := 0) hm hk2 rfl (by simpa [encs_len] using hpl)
    have hs' : sg g e fr (pre ++ encs d xs) (splice post 0 (encs d ys)) [] = sg g e fr pre (encs d (xs ++ ys)) (post.drop (ys.length * d.sz)) := by
      simp [sg, splice, encs_append, encs_len]
    rw [hs'] at hmm
    have hl2 : (pre ++ encs d xs).length + 0 = pre.length + xs.length * d.sz + 0 := by simp [encs_len]
    rw [hl2] at hmm
    refine ⟨(.slice (some ⟨g, pre.length, none⟩) (xs.length + ys.length) cap, _), _, ?_, .inr ⟨g, cap, fr, pre, post.drop (ys.length * d.sz), by simp, rfl, by simpa using hroom, hmx, ?_, hcc⟩, hmm⟩
    · simp [execOp, ho, resolve, invoke, builtin, hx, hy, Builtin.append_, run_underlying ht.un, sizeOf, typeInfo, hi1, hi4, hlen, hfirst, hroom, add_lit, hst]
    · rw [List.length_append, List.length_drop]
      have h1 : (cap - (xs.length + ys.length)) * d.sz + ys.length * d.sz = (cap - xs.length) * d.sz := by rw [← Nat.add_mul]; congr 1; omega
      omega
/-- A cut behind the end. -/
theorem x_slice_spare {a b : Int} (ho : o.op = .slice t x (some y) (some z) none) (ht : SliceTy P t e sz bytes zv) (hx : ρ x = v) (hy : ρ y = .int ik a) (hz : ρ z = .int ik' b) (hO : OwR T d v xs h c) (h0 : 0 ≤ a) (h1 : a ≤ b) (h2 : b ≤ c) :
    (execOp ρ o).run P w = .ok (.value (cutV v a.toNat b.toNat sz)) w := by
  obtain ⟨A, n, cp, rfl, hc⟩ : ∃ A n cp, v = .slice A n cp ∧ c ≤ cp := by
    rcases hO with ⟨rfl, rfl, rfl, rfl⟩ | ⟨g, cap, fr, pre, post, rfl, rfl, _, _, _, hcc⟩
    · exact ⟨_, _, _, rfl, Nat.le_refl _⟩
    · exact ⟨_, _, _, rfl, hcc⟩
  have hb := run_bound (P := P) (w := w) (ik := ik') (i := b) (c := cp) (code := .sliceAcap) (by omega) (by omega)
  have ha := run_bound (P := P) (w := w) (ik := ik) (i := a) (c := b.toNat) (code := .sliceB) h0 (by omega)
  simp [execOp, ho, hx, hy, hz, Instr.sliceAt, run_underlying ht.un, Instr.slice, Instr.sliceBounds, hb, ha, run_sizeOf ht.size, cutV]
/-- A cut with three bounds, for its bounds alone. -/
theorem x_slice3 {a b m : Int} {i1 i2 i3 : IntKind} {q : Operand} (ho : o.op = .slice t x (some y) (some z) (some q)) (ht : SliceTy P t e sz bytes zv) (hx : ρ x = v) (hy : ρ y = .int i1 a) (hz : ρ z = .int i2 b) (hq : ρ q = .int i3 m) (hv : IsSl v n) (h0 : 0 ≤ a) (h1 : a ≤ b) (h2 : b ≤ m) (h3 : m ≤ n) :
    ∃ (u : Value) (w' : World), (execOp ρ o).run P w = .ok (.value u) w' ∧ w' = w := by
  obtain ⟨A, c, rfl, hc⟩ := hv
  have hm := run_bound (P := P) (w := w) (ik := i3) (i := m) (c := c) (code := .slice3Acap) (by omega) (by omega)
  have hb := run_bound (P := P) (w := w) (ik := i2) (i := b) (c := m.toNat) (code := .slice3B) (by omega) (by omega)
  have ha := run_bound (P := P) (w := w) (ik := i1) (i := a) (c := b.toNat) (code := .slice3C) h0 (by omega)
  exact ⟨_, w, by simp [execOp, ho, hx, hy, hz, hq, Instr.sliceAt, run_underlying ht.un, Instr.slice, Instr.sliceBounds, hm, hb, ha, run_sizeOf ht.size]; rfl, rfl⟩
theorem zeroCells_rep {zc : List Value} (n : Nat) (h : ∀ u ∈ zc, u.oneCell' = true) : (∀ u ∈ (Builtin.zeroCells zc.toArray n).toList, u.oneCell' = true) ∧ (Builtin.zeroCells zc.toArray n).toList.length = n * zc.length := by
  constructor
  · intro u hu
    simp only [Builtin.zeroCells, Array.toList_map, List.mem_map] at hu
    obtain ⟨i, hi, rfl⟩ := hu
    have hi' : i < n * zc.length := by simpa using hi
    have hz : 0 < zc.length := by
      rcases Nat.eq_zero_or_pos zc.length with h0 | h0
      · rw [h0] at hi'; simp at hi'
      · exact h0
    have hlt : i % zc.length < zc.length := Nat.mod_lt _ hz
    simp only [List.size_toArray]
    rw [getElem!_pos zc.toArray (i % zc.length) (by simpa using hlt)]
    exact h _ (by simp)
  · simp [Builtin.zeroCells]
/-- clear of a cut behind the end. -/
theorem e_clear_spare {zc : List Value} {a b : Nat} (ho : o.op = .call { callee := .builtin .clear, args := #[x], argTypes := #[t] }) (hd : o.dst = none) (ht : SliceTy P t e d.sz bytes zv) (hz : zv.cells = zc.toArray) (hzl : zc.length = d.sz) (hz1 : (zc.all fun u => u.oneCell') = true) (hx : ρ x = cutV v a b d.sz)
    (hO : OwR e d v xs h c) (ha : a = xs.length) (hab : a ≤ b) (hbc : b ≤ c) (hk : L[k]? = some h) (hm : Mem w0 w (cat L)) :
    ∃ (h' : Hp) (w' : World), (execOp ρ o).run P w = .ok (.value (.tuple #[])) w' ∧ (OwR e d v xs h' c ∧ Mem w0 w' (cat (L.set k h'))) := by
  subst ha
  obtain ⟨i0, hi1, hi2⟩ := Option.map_eq_some_iff.1 ht.2
  simp only [Prod.mk.injEq] at hi2
  obtain ⟨hi3, hi4, hi5⟩ := hi2
  have same : ∀ h0 : Hp, L[k]? = some h0 → L.set k h0 = L := by
    intro h0 hk
    apply List.ext_getElem?
    intro j
    by_cases hj : j = k
    · subst hj; rw [hk, List.getElem?_set_self (List.getElem?_eq_some_iff.1 hk).1]
    · rw [List.getElem?_set_ne (Ne.symm hj)]
  have hO' := hO
  rcases hO with ⟨rfl, rfl, rfl, rfl⟩ | ⟨g, cap, fr, pre, post, rfl, rfl, hc, hmx, hp, hcc⟩
  · refine ⟨[], w, ?_, hO', by rw [same [] hk]; exact hm⟩
    have : cutV (.slice none 0 0) ([] : List α).length b d.sz = .slice none (b - 0) (0 - 0) := by simp [cutV]
    rw [this] at hx
    simp [execOp, ho, resolve, invoke, builtin, hx, Builtin.clear_, run_underlying ht.un]
  · by_cases hb0 : b = xs.length
    · subst hb0
      refine ⟨_, w, ?_, hO', by rw [same _ hk]; exact hm⟩
      have : ∃ A c', cutV (.slice (some ⟨g, pre.length, none⟩) xs.length cap) xs.length xs.length d.sz = .slice A 0 c' := ⟨_, _, by simp [cutV]; exact ⟨rfl, rfl⟩⟩
      obtain ⟨A, c', hcv⟩ := this
      rw [hcv] at hx
      cases A <;> simp [execOp, ho, resolve, invoke, builtin, hx, Builtin.clear_, run_underlying ht.un]
    · have hlt : xs.length < cap := by omega
      have hcv : cutV (.slice (some ⟨g, pre.length, none⟩) xs.length cap) xs.length b d.sz = .slice (some ⟨g, pre.length + xs.length * d.sz, none⟩) (b - xs.length) (cap - xs.length) := by
        simp only [cutV, if_neg (by omega : ¬ cap = xs.length), Option.map_some, add_lit]
      rw [hcv] at hx
      obtain ⟨hz2, hz3⟩ := zeroCells_rep (zc := zc) (b - xs.length) (fun u hu => List.all_eq_true.1 hz1 u hu)
      generalize hzs : (Builtin.zeroCells zc.toArray (b - xs.length)).toList = zs at hz2 hz3
      have hzl2 : zs.length = (b - xs.length) * d.sz := by rw [hz3, hzl]
      obtain ⟨_, hg, hok⟩ := hm.at_ ⟨g, e, fr, pre ++ (encs d xs ++ post)⟩ (mem_cat hk (List.mem_singleton.2 rfl))
      have hpl : zs.length ≤ post.length := by rw [hzl2]; exact Nat.le_trans (Nat.mul_le_mul_right _ (by omega)) hp
      have hst := run_setAt (P := P) g e fr zs w 0 (pre.length + xs.length * d.sz) (pre ++ (encs d xs ++ post)) hg hok (by simp [encs_len]; omega) hz2
      have hk2 : L[k]? = some (sg g e fr (pre ++ encs d xs) post []) := by rw [hk]; simp [sg]
      have hmm := seg_store (vs := zs) (j := 0) hm hk2 rfl (by simpa using hpl)
      have hs' : sg g e fr (pre ++ encs d xs) (splice post 0 zs) [] = sg g e fr pre (encs d xs) (splice post 0 zs) := by simp [sg]
      rw [hs'] at hmm
      have hl2 : (pre ++ encs d xs).length + 0 = pre.length + xs.length * d.sz + 0 := by simp [encs_len]
      rw [hl2] at hmm
      have hsl : (splice post 0 zs).length = post.length := splice_len (by omega)
      refine ⟨_, _, ?_, .inr ⟨g, cap, fr, pre, splice post 0 zs, rfl, rfl, hc, hmx, by rw [hsl]; exact hp, hcc⟩, hmm⟩
      obtain ⟨m, hmm2⟩ : ∃ m, b - xs.length = m + 1 := ⟨b - xs.length - 1, by omega⟩
      rw [hmm2] at hx hzs
      simp [execOp, ho, resolve, invoke, builtin, hx, Builtin.clear_, run_underlying ht.un, zeroValue, typeInfo, hi1, hi3, hz, hzs, hst]
theorem s_vw {ops : Array Oper} {Q : Exit → Act → World → Prop} {rest : List Oper} {n : Nat} {f : Nat → Value} {β : Type} {W : β → World → Prop} (hw : Region.wanted o (yielded ops (fr n f).tmps) = true) (hd : o.dst = none)
    (he : ∃ (x : β) (w' : World), (execOp (fr n f).eval o).run P w = .ok (.value v) w' ∧ W x w') (h : ∀ x w', W x w' → wpList P ops Q rest (fr n f) w') : wpList P ops Q (o :: rest) (fr n f) w := by
  obtain ⟨x, w', h1, h2⟩ := he
  exact s_vnone hw hd h1 (h x w' h2)
end
end Go.Proofs.Gw
