/- Operations on rows whose elements hold rows; cuts of texts; arrays. -/
import Derived.Test.YtpkdolmbhfmjcaaGwG
set_option linter.unusedVariables false
set_option linter.unusedSimpArgs false
set_option linter.unusedSectionVars false
namespace Go.Proofs.Gw
open Go.RowKit

/-- Elements as bare cells. -/
def Raw (n : Nat) : Type := { cs : List Value // cs.length = n ∧ ∀ u ∈ cs, u.oneCell' = true }
def rawK (n : Nat) (h : 0 < n) : FK (Raw n) := ⟨n, fun c => c.1, fun c => c.2.1, fun c => c.2.2, h⟩
section
variable {α : Type} {d : DK α} {xs ys : List α} {cells : List Value} {hs : Hp}
theorem reps_raw : ∀ {xs : List α} {cells : List Value} {hs : Hp}, Reps d xs cells hs → ∃ rs : List (Raw d.sz), encs (rawK d.sz d.pos) rs = cells ∧ rs.length = xs.length
  | [], _, _, h => ⟨[], by rw [h.1]; rfl, rfl⟩
  | x :: r, _, _, ⟨cs, h, cells', hs', h1, hl, ho, hr, hc, hh⟩ => by
    obtain ⟨rs, e1, e2⟩ := reps_raw hr
    refine ⟨⟨cs, hl, ho⟩ :: rs, ?_, congrArg (· + 1) e2⟩
    rw [hc, ← e1]; rfl
end
section
variable {P : Program} {o : Oper} {ρ : Operand → Value} {w w0 w' : World} {x y z : Operand} {v u : Value} {t t' e : TypeId} {L : List Hp} {k k' k2 T : Nat} {ik : IntKind} {α : Type} {d : DK α} {xs ys : List α} {h h2 hS hX hX' : Hp} {i : Int} {sz bytes n : Nat} {zv : Value} {ad : Addr}
/-- An own row as a row of bare cells and what its elements own. -/
theorem OwD.raw (hO : OwD T d v xs h) : ∃ (rs : List (Raw d.sz)) (hc hs : Hp), OwF T (rawK d.sz d.pos) v rs hc ∧ rs.length = xs.length ∧ h.Perm (hc ++ hs) ∧ Reps d xs (encs (rawK d.sz d.pos) rs) hs := by
  rcases hO with ⟨rfl, rfl, rfl⟩ | ⟨g, cap, fr, pre, cells, post, hs', rfl, hr, hpm, hc, hmx, hp⟩
  · exact ⟨[], [], [], .inl ⟨rfl, rfl, rfl⟩, rfl, by simp, ⟨rfl, rfl⟩⟩
  · obtain ⟨rs, e1, e2⟩ := reps_raw hr
    refine ⟨rs, sg g T fr pre cells post, hs', .inr ⟨g, cap, fr, pre, post, by rw [e2], by rw [e1], by rw [e2]; exact hc, hmx, by rw [e2]; exact hp⟩, e2, hpm, by rw [e1]; exact hr⟩
theorem OwD.unraw {rs : List (Raw d.sz)} {hc hs : Hp} (hO : OwF T (rawK d.sz d.pos) v rs hc) (hr : Reps d xs (encs (rawK d.sz d.pos) rs) hs) (hl : rs.length = xs.length) (hp : h.Perm (hc ++ hs)) : OwD T d v xs h := by
  rcases hO with ⟨rfl, h1, h2⟩ | ⟨g, cap, fr, pre, post, h1, h2, h3, h4, h5⟩
  · subst h1
    have hx : xs = [] := List.eq_nil_of_length_eq_zero hl.symm
    subst hx
    have : hs = [] := hr.2
    subst this
    subst h2
    have : h = [] := by
      have := hp.length_eq
      simpa using this
    subst this
    exact .inl ⟨rfl, rfl, rfl⟩
  · refine .inr ⟨g, cap, fr, pre, _, post, hs, by rw [← hl]; exact h1, hr, by rw [h2] at hp; exact hp, by rw [← hl]; exact h3, h4, by rw [← hl]; exact h5⟩
theorem RdD.raw (hr : RdD w0 d v xs h) : ∃ rs : List (Raw d.sz), RdF w0 (rawK d.sz d.pos) v rs h ∧ rs.length = xs.length ∧ Reps (shK d w0 h) xs (encs (rawK d.sz d.pos) rs) [] := by
  obtain ⟨A, c, rfl, hc, hn⟩ := hr
  have key : ∀ (ad : Addr) (xs : List α), Laid w0 d ad xs h → ∃ rs : List (Raw d.sz), rs.length = xs.length ∧ (∀ j u, (encs (rawK d.sz d.pos) rs)[j]? = some u → CellIn w0 h (ad.add j) u) ∧ Reps (shK d w0 h) xs (encs (rawK d.sz d.pos) rs) [] := by
    intro ad xs
    induction xs generalizing ad with
    | nil => intro _; exact ⟨[], rfl, fun j u hj => by simp [encs] at hj, ⟨rfl, rfl⟩⟩
    | cons x r ih =>
      intro hl
      obtain ⟨cs, h1, h2⟩ := hl 0 x rfl
      obtain ⟨rs, e1, e2, e3⟩ := ih (ad.add d.sz) (fun i y hi => by
        obtain ⟨cs, h3, h4⟩ := hl (i + 1) y (by simpa using hi)
        refine ⟨cs, h3, fun j u hj => ?_⟩
        have := h4 j u hj
        rw [add_add]
        rwa [show d.sz + (i * d.sz + j) = (i + 1) * d.sz + j by rw [Nat.succ_mul]; omega])
      have hcl : cs.length = d.sz := d.rlen _ _ _ _ h1
      refine ⟨⟨cs, hcl, d.rone _ _ _ _ h1⟩ :: rs, congrArg (· + 1) e1, fun j u hj => ?_, ⟨cs, [], _, _, ⟨h1, rfl⟩, hcl, d.rone _ _ _ _ h1, e3, rfl, rfl⟩⟩
      have hj' : (cs ++ encs (rawK d.sz d.pos) rs)[j]? = some u := hj
      by_cases hjl : j < cs.length
      · rw [List.getElem?_append_left hjl] at hj'
        have := h2 j u hj'
        rwa [Nat.zero_mul, Nat.zero_add] at this
      · rw [List.getElem?_append_right (by omega)] at hj'
        have := e2 _ u hj'
        rw [add_add] at this
        rwa [show d.sz + (j - cs.length) = j by omega] at this
  rcases Nat.eq_zero_or_pos xs.length with h0 | h0
  · have hx : xs = [] := List.eq_nil_of_length_eq_zero h0
    subst hx
    exact ⟨[], ⟨A, c, rfl, by simp, fun hp => absurd hp (Nat.lt_irrefl _)⟩, rfl, ⟨rfl, rfl⟩⟩
  · obtain ⟨ad, rfl, hl⟩ := hn h0
    obtain ⟨rs, e1, e2, e3⟩ := key ad xs hl
    exact ⟨rs, ⟨some ad, c, by rw [e1], by rw [e1]; exact hc, fun _ => ⟨ad, rfl, e2⟩⟩, e1, e3⟩
theorem e_appendD0 {d : DK α} (ho : o.op = .call { callee := .builtin .append, args := #[x, y], argTypes := #[t, t] }) (ht : SliceTy P t e d.sz bytes zv) (hz : zv.cells.size = d.sz) (hx : ρ x = v) (hy : ρ y = u)
    (hO : OwD e d v xs h) (hk : L[k]? = some h) (hm : Mem w0 w (cat L)) {rs : List (Raw d.sz)} {hsy : Hp} (hr : RdF w0 (rawK d.sz d.pos) u rs hS) (hs : Sub hS (cat L)) (hl2 : rs.length = ys.length) (hrep : Reps d ys (encs (rawK d.sz d.pos) rs) hsy)
    (hl : (xs.length + ys.length) * bytes ≤ 140737488355328) (h63 : xs.length + ys.length ≤ 9223372036854775807) :
    ∃ (v' : Value) (hc hsx : Hp) (w' : World), (execOp ρ o).run P w = .ok (.value v') w' ∧ (∀ h', h'.Perm (hc ++ (hsx ++ hsy)) → OwD e d v' (xs ++ ys) h') ∧ (∃ hcx, h.Perm (hcx ++ hsx)) ∧ Mem w0 w' (hc ++ (hsx ++ cat (L.set k []))) := by
  obtain ⟨rx, hcx, hsx, hOx, hlx, hpx, hrx⟩ := hO.raw
  have hm2 : Mem w0 w (cat [hcx, hsx, cat (L.set k [])]) := by
    refine hm.perm ((cat_self hk).trans ?_)
    simp only [cat, List.append_nil]
    rw [← List.append_assoc]
    exact hpx.append_right _
  have hs2 : Sub hS (cat [hcx, hsx, cat (L.set k [])]) := fun c hc => by
    have h9 := (cat_self hk).mem_iff.1 (hs c hc)
    simp only [cat, List.append_nil]
    rw [← List.append_assoc]
    rcases List.mem_append.1 h9 with h9 | h9
    · exact List.mem_append_left _ (hpx.mem_iff.1 h9)
    · exact List.mem_append_right _ h9
  obtain ⟨p, w', hrun, hO', hm'⟩ := e_append (d := rawK d.sz d.pos) (k := 0) ho ht hz hx hy hOx rfl hr hs2 hm2 (by rw [hlx, hl2]; exact hl) (by rw [hlx, hl2]; exact h63)
  refine ⟨p.1, p.2, hsx, w', hrun, fun h' hp => ?_, ⟨hcx, hpx⟩, ?_⟩
  · refine OwD.unraw (hs := hsx ++ hsy) hO' ?_ (by simp [hlx, hl2]) hp
    rw [encs_append]
    exact reps_append hrx hrep
  · simpa [cat] using hm'
/-- append, what is taken in is handed over. -/
theorem e_appendD (ho : o.op = .call { callee := .builtin .append, args := #[x, y], argTypes := #[t, t] }) (ht : SliceTy P t e d.sz bytes zv) (hz : zv.cells.size = d.sz) (hx : ρ x = v) (hy : ρ y = u)
    (hO : OwD e d v xs h) (hk : L[k]? = some h) (hO2 : OwD e d u ys h2) (hk2 : L[k2]? = some h2) (hne : Nat.beq k k2 = false) (hm : Mem w0 w (cat L)) (hl : (xs.length + ys.length) * bytes ≤ 140737488355328) (h63 : xs.length + ys.length ≤ 9223372036854775807) :
    ∃ (p : Value × Hp) (w' : World), (execOp ρ o).run P w = .ok (.value p.1) w' ∧ (OwD e d p.1 (xs ++ ys) p.2 ∧ Mem w0 w' (cat ((L.set k p.2).set k2 []))) := by
  have hne' : k ≠ k2 := by intro e; subst e; simp at hne
  obtain ⟨ry, hcy, hsy, hOy, hly, hpy, hry⟩ := hO2.raw
  have hsub : Sub hcy (cat L) := fun c hc => mem_cat hk2 (hpy.symm.mem_iff.1 (List.mem_append_left _ hc))
  obtain ⟨v', hc, hsx, w', hrun, hw, _, hm'⟩ := e_appendD0 ho ht hz hx hy hO hk hm (hOy.rd w0) hsub hly hry hl h63
  refine ⟨(v', hc ++ (hsx ++ hsy)), w', hrun, hw _ (List.Perm.refl _), ?_⟩
  have hk3 : (L.set k [])[k2]? = some h2 := by rw [List.getElem?_set_ne hne']; exact hk2
  have hL : (L.set k []).set k2 [] = (L.set k2 []).set k [] := List.set_comm _ _ hne'
  have hk4 : (L.set k2 [])[k]? = some h := by rw [List.getElem?_set_ne (Ne.symm hne')]; exact hk
  have h1 : (cat (L.set k [])).Perm (h2 ++ cat ((L.set k []).set k2 [])) := cat_self hk3
  have h5 : (cat ((L.set k (hc ++ (hsx ++ hsy))).set k2 [])).Perm ((hc ++ (hsx ++ hsy)) ++ cat ((L.set k2 []).set k [])) := by
    rw [List.set_comm _ _ hne']
    exact cat_set hk4
  refine (Mem.left (B := hcy) (hm'.perm ?_)).perm h5.symm
  rw [hL] at h1
  have h6 : (hc ++ (hsx ++ cat (L.set k []))).Perm (hc ++ (hsx ++ (hcy ++ hsy ++ cat ((L.set k2 []).set k [])))) := by
    refine List.Perm.append_left _ (List.Perm.append_left _ (h1.trans ?_))
    exact hpy.append_right _
  refine h6.trans ?_
  have h7 : (hcy ++ hsy ++ cat ((L.set k2 []).set k [])).Perm (hsy ++ cat ((L.set k2 []).set k []) ++ hcy) := by
    rw [List.append_assoc]
    exact List.perm_append_comm
  have h8 := List.Perm.append_left hc (List.Perm.append_left hsx h7)
  refine h8.trans ?_
  simp only [List.append_assoc]
  exact List.Perm.refl _
/-- append to elements that hang on what is not theirs. -/
theorem e_appendS (ho : o.op = .call { callee := .builtin .append, args := #[x, y], argTypes := #[t, t] }) (ht : SliceTy P t e d.sz bytes zv) (hz : zv.cells.size = d.sz) (hx : ρ x = v) (hy : ρ y = u)
    (hO : OwD e (shK d w0 hX) v xs h) (hk : L[k]? = some h) (hr : RdD w0 d u ys hX') (hs : Sub hX' (cat L)) (hs2 : Sub hX hX') (hm : Mem w0 w (cat L)) (hl : (xs.length + ys.length) * bytes ≤ 140737488355328) (h63 : xs.length + ys.length ≤ 9223372036854775807) :
    ∃ (p : Value × Hp) (w' : World), (execOp ρ o).run P w = .ok (.value p.1) w' ∧ (OwD e (shK d w0 hX') p.1 (xs ++ ys) p.2 ∧ Mem w0 w' (cat (L.set k p.2))) := by
  obtain ⟨ry, hry, hly, hrep⟩ := hr.raw
  obtain ⟨v', hc, hsx, w', hrun, hw, _, hm'⟩ := e_appendD0 (d := shK d w0 hX') ho ht hz hx hy (hO.shm hs2) hk hm hry hs hly hrep hl h63
  refine ⟨(v', hc ++ (hsx ++ [])), w', hrun, hw _ (List.Perm.refl _), hm'.perm ?_⟩
  rw [List.append_nil]
  refine (List.Perm.of_eq ?_).trans (cat_set hk).symm
  simp
theorem reps_rep {a : α} {zc : List Value} (w0 : World) (hd : d.ow a zc []) : ∀ n, Reps d (List.replicate n a) ((List.replicate n zc).flatten) []
  | 0 => ⟨rfl, rfl⟩
  | n + 1 => ⟨zc, [], _, [], hd, d.olen w0 hd, d.oone w0 hd, reps_rep w0 hd n, rfl, rfl⟩
theorem e_makeD {a : α} {nn : Int} {zc : List Value} (ho : o.op = .makeSlice t x y) (ht : SliceTy P t e d.sz bytes zv) (hz : zv.cells = zc.toArray) (hd : d.ow a zc []) (hx : ρ x = .int .i64 nn) (hy : ρ y = .int .i64 nn) (h0 : 0 ≤ nn) (h1 : nn.toNat * bytes ≤ 140737488355328) (h63 : nn ≤ 9223372036854775807) (hm : Mem w0 w (cat L)) :
    ∃ (p : Value × Hp) (w' : World), (execOp ρ o).run P w = .ok (.value p.1) w' ∧ (OwD e d p.1 (List.replicate nn.toNat a) p.2 ∧ Mem w0 w' (cat (p.2 :: L))) := by
  obtain ⟨z, hzz⟩ : ∃ z : Raw d.sz, z.1 = zc := ⟨⟨zc, d.olen w0 hd, d.oone w0 hd⟩, rfl⟩
  obtain ⟨p, w', hrun, hO, hm'⟩ := e_make (d := rawK d.sz d.pos) (a := z) ho ht (by rw [hz, ← hzz]; rfl) hx hy h0 h1 h63 hm
  refine ⟨p, w', hrun, OwD.unraw (hs := []) hO ?_ (by rw [List.length_replicate, List.length_replicate]) (by simp), hm'⟩
  have : encs (rawK d.sz d.pos) (List.replicate nn.toNat z) = (List.replicate nn.toNat zc).flatten := by
    generalize nn.toNat = m
    induction m with
    | zero => rfl
    | succ m ih => rw [List.replicate_succ, List.replicate_succ, List.flatten_cons, ← ih, ← hzz]; rfl
  rw [this]
  exact reps_rep w0 hd _
theorem x_indexD (ho : o.op = .indexAddr t x y) (ht : SliceTy P t e sz bytes zv) (hx : ρ x = v) (hy : ρ y = .int ik i) (hr : IsSl v n) (ha : 0 < n → ∃ A c, v = .slice (some A) n c) (h0 : 0 ≤ i) (h1 : i < n) :
    (execOp ρ o).run P w = .ok (.value (.pointer (some ((slA v).add (i.toNat * sz))))) w := by
  obtain ⟨A, c, hv⟩ := ha (by omega)
  subst hv
  simp [execOp, ho, hx, hy, Instr.indexAt, asIntOf, run_underlying ht.un, h0, h1, run_sizeOf ht.size, slA]
theorem RdD.some (hr : RdD w0 d v xs h) : 0 < xs.length → ∃ A c, v = .slice (some A) xs.length c := fun hp => by
  obtain ⟨c, hv, _⟩ := hr.addr hp
  exact ⟨_, c, hv⟩
theorem OwD.some (hO : OwD T d v xs h) : 0 < xs.length → ∃ A c, v = .slice (some A) xs.length c := fun hp => by
  rcases hO with ⟨_, rfl, _⟩ | ⟨g, cap, fr, pre, cells, post, hs', rfl, _⟩
  · simp at hp
  · exact ⟨_, cap, rfl⟩
/-- An element of an array. -/
theorem x_indexA {A : Addr} (ho : o.op = .indexAddr t x y) (ht : ArrTy P t n e sz) (hx : ρ x = .pointer (some A)) (hy : ρ y = .int ik i) (h0 : 0 ≤ i) (h1 : i < n) :
    (execOp ρ o).run P w = .ok (.value (.pointer (some (A.add (i.toNat * sz))))) w := by
  simp [execOp, ho, hx, hy, Instr.indexAt, asIntOf, run_underlying ht.1, h0, h1, run_sizeOf ht.2, Instr.sureAddr]
/- cuts of rows, by the size of an element -/
theorem y_slice_lh {a b : Int} {ik' : IntKind} (ho : o.op = .slice t x (some y) (some z) none) (ht : SliceTy P t e sz bytes zv) (hx : ρ x = v) (hy : ρ y = .int ik a) (hz : ρ z = .int ik' b) (hv : IsSl v n) (h0 : 0 ≤ a) (h1 : a ≤ b) (h2 : b ≤ n) :
    (execOp ρ o).run P w = .ok (.value (cutV v a.toNat b.toNat sz)) w := by
  obtain ⟨A, c, rfl, hc⟩ := hv
  have hb := run_bound (P := P) (w := w) (ik := ik') (i := b) (c := c) (code := .sliceAcap) (by omega) (by omega)
  have ha := run_bound (P := P) (w := w) (ik := ik) (i := a) (c := b.toNat) (code := .sliceB) h0 (by omega)
  simp [execOp, ho, hx, hy, hz, Instr.sliceAt, run_underlying ht.un, Instr.slice, Instr.sliceBounds, hb, ha, run_sizeOf ht.size, cutV]
theorem y_slice_l {a : Int} (ho : o.op = .slice t x (some y) none none) (ht : SliceTy P t e sz bytes zv) (hx : ρ x = v) (hy : ρ y = .int ik a) (hv : IsSl v n) (h0 : 0 ≤ a) (h1 : a ≤ n) :
    (execOp ρ o).run P w = .ok (.value (cutV v a.toNat n sz)) w := by
  obtain ⟨A, c, rfl, hc⟩ := hv
  have ha := run_bound (P := P) (w := w) (ik := ik) (i := a) (c := n) (code := .sliceB) h0 h1
  simp [execOp, ho, hx, hy, Instr.sliceAt, run_underlying ht.un, Instr.slice, Instr.sliceBounds, ha, run_sizeOf ht.size, cutV]
theorem y_slice_h {b : Int} (ho : o.op = .slice t x none (some z) none) (ht : SliceTy P t e sz bytes zv) (hx : ρ x = v) (hz : ρ z = .int ik b) (hv : IsSl v n) (h0 : 0 ≤ b) (h1 : b ≤ n) :
    (execOp ρ o).run P w = .ok (.value (cutV v 0 b.toNat sz)) w := by
  obtain ⟨A, c, rfl, hc⟩ := hv
  have hb := run_bound (P := P) (w := w) (ik := ik) (i := b) (c := c) (code := .sliceAcap) h0 (by omega)
  simp [execOp, ho, hx, hz, Instr.sliceAt, run_underlying ht.un, Instr.slice, Instr.sliceBounds, hb, run_sizeOf ht.size, cutV]
theorem y_slice_n (ho : o.op = .slice t x none none none) (ht : SliceTy P t e sz bytes zv) (hx : ρ x = v) (hv : IsSl v n) :
    (execOp ρ o).run P w = .ok (.value (cutV v 0 n sz)) w := by
  obtain ⟨A, c, rfl, hc⟩ := hv
  simp [execOp, ho, hx, Instr.sliceAt, run_underlying ht.un, Instr.slice, Instr.sliceBounds, run_sizeOf ht.size, cutV]
/- cuts of texts -/
abbrev slS (l : List UInt8) (a b : Nat) : List UInt8 := (l.drop a).take (b - a)
theorem slS_eq (l : List UInt8) (a b : Nat) : (⟨⟨l⟩⟩ : ByteArray).extract a b = ⟨⟨slS l a b⟩⟩ := extract_mk l a b
theorem x_sslice_lh {l : List UInt8} {a b : Int} {ik' : IntKind} (ho : o.op = .slice t x (some y) (some z) none) (hu : P.underlying t = some .string) (hx : ρ x = S l) (hy : ρ y = .int ik a) (hz : ρ z = .int ik' b) (h0 : 0 ≤ a) (h1 : a ≤ b) (h2 : b ≤ l.length) :
    (execOp ρ o).run P w = .ok (.value (S (slS l a.toNat b.toNat))) w := by
  have hb := run_bound (P := P) (w := w) (ik := ik') (i := b) (c := l.length) (code := .sliceAlen) (by omega) (by omega)
  have ha := run_bound (P := P) (w := w) (ik := ik) (i := a) (c := b.toNat) (code := .sliceB) h0 (by omega)
  simp [execOp, ho, hx, hy, hz, S, Instr.sliceAt, run_underlying hu, Instr.slice, Instr.sliceBounds, size_mk, hb, ha, extract_mk]
theorem x_sslice_l {l : List UInt8} {a : Int} (ho : o.op = .slice t x (some y) none none) (hu : P.underlying t = some .string) (hx : ρ x = S l) (hy : ρ y = .int ik a) (h0 : 0 ≤ a) (h1 : a ≤ l.length) :
    (execOp ρ o).run P w = .ok (.value (S (slS l a.toNat l.length))) w := by
  have ha := run_bound (P := P) (w := w) (ik := ik) (i := a) (c := l.length) (code := .sliceB) h0 (by omega)
  simp [execOp, ho, hx, hy, S, Instr.sliceAt, run_underlying hu, Instr.slice, Instr.sliceBounds, size_mk, ha, extract_mk]
theorem x_sslice_h {l : List UInt8} {b : Int} (ho : o.op = .slice t x none (some z) none) (hu : P.underlying t = some .string) (hx : ρ x = S l) (hz : ρ z = .int ik b) (h0 : 0 ≤ b) (h1 : b ≤ l.length) :
    (execOp ρ o).run P w = .ok (.value (S (slS l 0 b.toNat))) w := by
  have hb := run_bound (P := P) (w := w) (ik := ik) (i := b) (c := l.length) (code := .sliceAlen) (by omega) (by omega)
  simp [execOp, ho, hx, hz, S, Instr.sliceAt, run_underlying hu, Instr.slice, Instr.sliceBounds, size_mk, hb, extract_mk]
theorem len63 {a b k : Nat} (h : (a + b) * k ≤ 140737488355328) (hk : Nat.blt 0 k = true) : a + b ≤ 9223372036854775807 := by
  have h1 : 0 < k := by simpa using hk
  have h2 : a + b ≤ (a + b) * k := Nat.le_mul_of_pos_right _ h1
  omega
/-- An array's row. -/
theorem e_arr {α : Type} [Inhabited α] {d : FK α} {a : α} {n : Nat} {zv : Value} (ho : o.op = .alloc t) (hz : ZeroTy P t zv) (hv : zv.cells = (encs d (List.replicate n a)).toArray) (hn : n ≤ maxLen) (hm : Mem w0 w (cat L)) :
    ∃ (p : Value × Hp) (w' : World), (execOp ρ o).run P w = .ok (.value (.pointer (some (slA p.1)))) w' ∧ (OwF t d p.1 (List.replicate n a) p.2 ∧ Mem w0 w' (cat (p.2 :: L))) := by
  obtain ⟨g, w', h1, h2⟩ := e_alloc (vs := encs d (List.replicate n a)) ho hz hv hm
  exact ⟨(.slice (some ⟨g, 0, none⟩) n n, sg g t (0, 0) [] (encs d (List.replicate n a)) []), w', h1, OwF.lit g _ n (by simp) hn, h2⟩
end
end Go.Proofs.Gw
