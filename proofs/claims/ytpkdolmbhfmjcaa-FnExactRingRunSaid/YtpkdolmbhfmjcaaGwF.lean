/- What a walk is put together with: peeling of what was computed, joins, conditions inside a region, results. -/
import Derived.Test.YtpkdolmbhfmjcaaGwE
set_option linter.unusedVariables false
set_option linter.unusedSimpArgs false
set_option linter.unusedSectionVars false
namespace Go.Proofs.Gw
open Go.RowKit

/-! ### 1. What is computed -/
def gd {α : Type} (p : Prop) [Decidable p] (x : Option α) : Option α := if p then x else none
inductive Fl (α σ : Type) where
  | out (a : α)
  | go (s : σ)
def Fl.on {α σ : Type} : Fl α σ → (σ → Option α) → Option α
  | .out a, _ => some a
  | .go s, k => k s
section
variable {α β σ : Type} {r : α} {x y : Option α} {p : Bool}
theorem gdE {p : Prop} [Decidable p] (h : gd p x = some r) : p ∧ x = some r := by
  unfold gd at h
  by_cases hp : p
  · rw [if_pos hp] at h; exact ⟨hp, h⟩
  · rw [if_neg hp] at h; cases h
theorem bindE {x : Option β} {k : β → Option α} (h : x.bind k = some r) : ∃ a, x = some a ∧ k a = some r := by
  cases x with
  | none => cases h
  | some a => exact ⟨a, rfl, h⟩
theorem bifT (h : (bif p then x else y) = some r) (hp : p = true) : x = some r := by rw [hp] at h; exact h
theorem bifF (h : (bif p then x else y) = some r) (hp : p = false) : y = some r := by rw [hp] at h; exact h
theorem and_l {p q : Bool} (h : (p && q) = true) : p = true := by cases p <;> simp_all
theorem and_r {p q : Bool} (h : (p && q) = true) : q = true := by cases p <;> simp_all
theorem not_f {p : Bool} (h : (!p) = true) : p = false := by cases p <;> simp_all
theorem none_no {r : α} {C : Prop} (h : (none : Option α) = some r) : C := by cases h
end

/-! ### 2. Conditions inside a region -/
/-- A value behind a condition. -/
def cv (p : Bool) (v : Value) : Value := bif p then v else undef
theorem on_c {p : Bool} {v : Value} (h : p = true) : cv p v = v := by rw [h]; rfl
section
variable {P : Program} {ops : Array Oper} {Q : Exit → Act → World → Prop} {rest : List Oper} {o : Oper} {n d j : Nat} {f : Nat → Value} {w w' : World} {v : Value} {oj : Oper} {t : Tmp} {p q : Bool} {ρ : Operand → Value} {x y z : Operand}
theorem x_pick {a b : Bool} (ho : o.op = .pick x y z) (hx : ρ x = .bool p) (hy : p = true → ρ y = .bool a) (hz : p = false → ρ z = .bool b) : (execOp ρ o).run P w = .ok (.value (.bool (bif p then a else b))) w := by
  cases p
  · exact x_pick_f ho hx (hz rfl)
  · exact x_pick_t ho hx (hy rfl)
theorem x_pick_and {a : Bool} (ho : o.op = .pick x y z) (hx : ρ x = .bool p) (hy : p = true → ρ y = .bool a) (hz : ρ z = .bool false) : (execOp ρ o).run P w = .ok (.value (.bool (p && a))) w := by
  cases p
  · exact x_pick_f ho hx hz
  · exact x_pick_t ho hx (hy rfl)
theorem x_pick_or {b : Bool} (ho : o.op = .pick x y z) (hx : ρ x = .bool p) (hy : ρ y = .bool true) (hz : p = false → ρ z = .bool b) : (execOp ρ o).run P w = .ok (.value (.bool (p || b))) w := by
  cases p
  · exact x_pick_f ho hx (hz rfl)
  · exact x_pick_t ho hx hy
theorem won_t (hg : o.guard = some (j, true)) (hj : ops[j]? = some oj) (hd : oj.dst = some t) (hn : Nat.blt t n = true) (hv : f t = .bool q) :
    Region.wanted o (yielded ops (fr n f).tmps) = q := by
  have h := yielded_of (ops := ops) (a := fr n f) hj hd (by rw [fr_get n f t (by simpa using hn), hv])
  cases q <;> simp [Region.wanted, hg, h]
theorem won_f (hg : o.guard = some (j, false)) (hj : ops[j]? = some oj) (hd : oj.dst = some t) (hn : Nat.blt t n = true) (hv : f t = .bool q) :
    Region.wanted o (yielded ops (fr n f).tmps) = !q := by
  have h := yielded_of (ops := ops) (a := fr n f) hj hd (by rw [fr_get n f t (by simpa using hn), hv])
  cases q <;> simp [Region.wanted, hg, h]
theorem yielded_undef {a : Act} (hj : ops[j]? = some oj) (hd : oj.dst = some t) (hv : a.tmps[t]? = some undef) : yielded ops a.tmps j = none := by
  simp [yielded, hj, hd, hv, undef]
theorem won_ct (hg : o.guard = some (j, true)) (hj : ops[j]? = some oj) (hd : oj.dst = some t) (hn : Nat.blt t n = true) (hv : f t = cv p (.bool q)) :
    Region.wanted o (yielded ops (fr n f).tmps) = (p && q) := by
  cases p
  · have h := yielded_undef (ops := ops) (a := fr n f) hj hd (by rw [fr_get n f t (by simpa using hn), hv]; rfl)
    simp [Region.wanted, hg, h]
  · exact won_t hg hj hd hn hv
theorem won_cf (hg : o.guard = some (j, false)) (hj : ops[j]? = some oj) (hd : oj.dst = some t) (hn : Nat.blt t n = true) (hv : f t = cv p (.bool q)) :
    Region.wanted o (yielded ops (fr n f).tmps) = (p && !q) := by
  cases p
  · have h := yielded_undef (ops := ops) (a := fr n f) hj hd (by rw [fr_get n f t (by simpa using hn), hv]; rfl)
    simp [Region.wanted, hg, h]
  · exact won_f hg hj hd hn hv
theorem s_cval (hw : Region.wanted o (yielded ops (fr n f).tmps) = p) (hd : o.dst = some d) (hn : Nat.blt d n = true)
    (he : p = true → (execOp (fr n f).eval o).run P w = .ok (.value v) w) (h : wpList P ops Q rest (fr n (upd f d (cv p v))) w) : wpList P ops Q (o :: rest) (fr n f) w := by
  cases p
  · exact s_off hw hd hn h
  · exact s_val hw hd hn (he rfl) h
/-- A call behind a condition: J: what holds of the world behind it. -/
theorem s_ccall {fid : FuncId} {args : Array Value} {J : World → Prop} (hw : Region.wanted o (yielded ops (fr n f).tmps) = p) (hd : o.dst = some d) (hn : Nat.blt d n = true)
    (he : p = true → (execOp (fr n f).eval o).run P w = .ok (.enter fid args) w) (hc : p = true → Calls P fid args w (fun e w' => e = .returned v ∧ J w')) (hJ : J w)
    (h : ∀ w2, J w2 → wpList P ops Q rest (fr n (upd f d (cv p v))) w2) : wpList P ops Q (o :: rest) (fr n f) w := by
  cases p
  · exact s_off hw hd hn (h w hJ)
  · exact s_call hw hd hn (he rfl) (hc rfl) (fun e w2 hR => ⟨v, hR.1, h w2 hR.2⟩)
end

/-! ### 3. Joins, exits -/
section
variable {P : Program} {c y : Code} {Q : Exit → Act → World → Prop} {J : Act → World → Prop} {a : Act} {w : World} {id k : Nat}
theorem wp_seqJ (J : Act → World → Prop) (h : c.wp P (Exit.then J Q) a w) (hJ : ∀ a w, J a w → y.wp P Q a w) : (Code.seq c y).wp P Q a w :=
  wp_seq (Code.wp_mono (fun e a w q => by cases e <;> first | exact q | exact hJ a w q) h)
theorem nx (h : J a w) : Exit.then J Q .normal a w := h
theorem xs (h : Q (.exit k) a w) : Exit.then J Q (.exit k) a w := h
theorem xr (h : Q .ret a w) : Exit.then J Q .ret a w := h
theorem nb (h : Q .normal a w) : Exit.inBlock id Q .normal a w := h
theorem rb (h : Q .ret a w) : Exit.inBlock id Q .ret a w := h
theorem xb (h : Q .normal a w) : Exit.inBlock id Q (.exit id) a w := by simpa [Exit.inBlock] using h
theorem xn (hk : Nat.beq k id = false) (h : Q (.exit k) a w) : Exit.inBlock id Q (.exit k) a w := by
  have : k ≠ id := by intro e; subst e; simp at hk
  simpa [Exit.inBlock, this] using h
end

/-! ### 4. Results -/
inductive RVs (P : Program) (f : Nat → Value) (n : Nat) (w : World) : List ResultVar → List Value → Prop where
  | nil : RVs P f n w [] []
  | tmp {t : Tmp} {v : Value} {rs : List ResultVar} {vs : List Value} (hn : Nat.blt t n = true) (ht : f t = v) (h : RVs P f n w rs vs) : RVs P f n w (.tmp t :: rs) (v :: vs)
  | cell {t : Tmp} {ty : TypeId} {ad : Addr} {cs : List Value} {rs : List ResultVar} {vs : List Value} (hn : Nat.blt t n = true) (ht : f t = .pointer (some ad)) (hty : TyN P ty cs.length)
      (hc : ∀ j u, cs[j]? = some u → w.cell? (ad.add j) = some u) (h : RVs P f n w rs vs) : RVs P f n w (.cell t ty :: rs) (.agg cs.toArray :: vs)
  | cell1 {t : Tmp} {ty : TypeId} {ad : Addr} {v : Value} {rs : List ResultVar} {vs : List Value} (hn : Nat.blt t n = true) (ht : f t = .pointer (some ad)) (hty : Ty1 P ty)
      (hc : w.cell? ad = some v) (h : RVs P f n w rs vs) : RVs P f n w (.cell t ty :: rs) (v :: vs)
section
variable {P : Program} {f : Nat → Value} {n : Nat} {w : World} {fn : Func} {rs : List ResultVar} {vs : List Value}
theorem rvs_run (hv : RVs P f n w rs vs) (F : ResultVar → Sem Value) (hf : ∀ u, F (.tmp u) = pure ((fr n f).tmps.getD u undef)) (hc : ∀ a t, F (.cell a t) = (do loadVar t (← asAddr ((fr n f).tmps.getD a undef)))) :
    (rs.mapM F).run P w = .ok vs w := by
  induction hv with
  | nil => simp
  | tmp hn ht h ih =>
    have := ev (n := n) (f := f) hn ht
    simp only [List.mapM_cons, Sem.run_bind, hf, Sem.run_pure, Result.andThen_ok, ih]
    rw [show (fr n f).tmps.getD _ undef = _ from this]
  | cell hn ht hty hcc h ih =>
    have := ev (n := n) (f := f) hn ht
    obtain ⟨d, h1, h2, h3⟩ := hty
    have h4 := run_loadCells_list (P := P) w _ _ hcc
    simp only [List.mapM_cons, Sem.run_bind, hc, ih]
    rw [show (fr n f).tmps.getD _ undef = _ from this]
    simp [asAddr, loadVar, run_isAgg h1, h2, run_sizeOf h3, h4, ih]
  | cell1 hn ht hty hcc h ih =>
    have := ev (n := n) (f := f) hn ht
    obtain ⟨d, h1, h2, h3⟩ := hty
    simp only [List.mapM_cons, Sem.run_bind, hc, ih]
    rw [show (fr n f).tmps.getD _ undef = _ from this]
    simp [asAddr, loadVar, run_isAgg h1, h2, hcc, ih]
theorem rv_list (h : fn.results = rs.toArray) (hl : Nat.beq vs.length 1 = false) (hv : RVs P f n w rs vs) : (results fn (fr n f).tmps).run P w = .ok (.tuple vs.toArray) w := by
  have hl' : vs.length ≠ 1 := by intro e; rw [e] at hl; cases hl
  unfold results
  rw [h, List.mapM_toArray]
  simp only [Sem.run_bind, Sem.run_map]
  rw [rvs_run hv]
  · simp [hl']
  · intro u; rfl
  · intro a t; rfl
theorem rv_one {r : ResultVar} {v : Value} (h : fn.results = #[r]) (hv : RVs P f n w [r] [v]) : (results fn (fr n f).tmps).run P w = .ok v w := by
  unfold results
  rw [show fn.results = [r].toArray from h, List.mapM_toArray]
  simp only [Sem.run_bind, Sem.run_map]
  rw [rvs_run hv]
  · simp
  · intro u; rfl
  · intro a t; rfl
end

/-! ### 5. Facts of types, by a look at them -/
def fieldAtB (P : Program) (t i off : Nat) : Bool := match P.underlying t with
  | some (.struct fields) => (match fields[i]? with
    | some fl => Nat.beq fl.offset off && (match P.info? fl.type with
      | some inf => Nat.blt 0 inf.size
      | none => false)
    | none => false)
  | _ => false
theorem FieldAt.of {P : Program} {t i off : Nat} (h : fieldAtB P t i off = true) : FieldAt P t i off := by
  unfold fieldAtB at h
  split at h
  · rename_i fields hu
    split at h
    · rename_i fl hfl
      simp only [Bool.and_eq_true] at h
      obtain ⟨h1, h2⟩ := h
      split at h2
      · rename_i inf hi
        refine ⟨fields, fl, inf.size - 1, hu, hfl, Nat.eq_of_beq_eq_true h1, ?_⟩
        have : 0 < inf.size := by simpa using h2
        simp [hi]; omega
      · cases h2
    · cases h
  · cases h
def ty1B (P : Program) (t : TypeId) : Bool := match P.underlying t with
  | some d => !aggD d && (match P.info? t with
    | some inf => Nat.beq inf.size 1
    | none => false)
  | none => false
theorem Ty1.of {P : Program} {t : TypeId} (h : ty1B P t = true) : Ty1 P t := by
  unfold ty1B at h
  split at h
  · rename_i d hu
    simp only [Bool.and_eq_true, Bool.not_eq_true'] at h
    obtain ⟨h1, h2⟩ := h
    split at h2
    · rename_i inf hi
      exact ⟨d, hu, h1, by simp [hi, Nat.eq_of_beq_eq_true h2]⟩
    · cases h2
  · cases h
def tyNB (P : Program) (t : TypeId) (n : Nat) : Bool := match P.underlying t with
  | some d => aggD d && (match P.info? t with
    | some inf => Nat.beq inf.size n
    | none => false)
  | none => false
theorem TyN.of {P : Program} {t : TypeId} {n : Nat} (h : tyNB P t n = true) : TyN P t n := by
  unfold tyNB at h
  split at h
  · rename_i d hu
    simp only [Bool.and_eq_true] at h
    obtain ⟨h1, h2⟩ := h
    split at h2
    · rename_i inf hi
      exact ⟨d, hu, h1, by simp [hi, Nat.eq_of_beq_eq_true h2]⟩
    · cases h2
  · cases h
def callableB (P : Program) (f : FuncId) : Bool := match P.funcs[f]? with
  | some fn => !fn.body.isNone && !(fn.name == "runtime.NumGoroutine")
  | none => false
theorem Callable.of {P : Program} {f : FuncId} (h : callableB P f = true) : Callable P f := by
  unfold callableB at h
  split at h
  · rename_i fn hf
    simp only [Bool.and_eq_true, Bool.not_eq_true'] at h
    exact ⟨fn, hf, h.1, h.2⟩
  · cases h

/-! ### 6. Memory in another order -/
section
variable {w0 w : World} {L : List Hp} {H : Hp}
theorem Mem.to (is : List Nat) (hi : decide is.Nodup = true) (hm : Mem w0 w (cat L)) (he : cat (is.map fun i => L.getD i []) = H) : Mem w0 w H := he ▸ hm.pick is hi
theorem cat1 (h : Hp) : cat [h] = h := List.append_nil h
theorem sub_cat : ∀ {A : List Hp}, (∀ h ∈ A, Sub h (cat L)) → Sub (cat A) (cat L)
  | [], _ => fun _ h => by cases h
  | a :: r, hh => fun c hc => by
    rcases List.mem_append.1 hc with hc | hc
    · exact hh a (List.mem_cons_self ..) c hc
    · exact sub_cat (fun h hm => hh h (List.mem_cons_of_mem _ hm)) c hc
theorem sub0 : Sub (cat []) (cat L) := fun _ h => by cases h
theorem sub1 {k : Nat} {h : Hp} {A : List Hp} (hk : L[k]? = some h) (ha : Sub (cat A) (cat L)) : Sub (cat (h :: A)) (cat L) := fun c hc => by
  rcases List.mem_append.1 hc with hc | hc
  · exact mem_cat hk hc
  · exact ha c hc
end
end Go.Proofs.Gw
namespace Go.Proofs.Gw
open Go.RowKit
abbrev slc {α : Type} (xs : List α) (a b : Nat) : List α := (xs.drop a).take (b - a)
section
variable {P : Program} {ops : Array Oper} {Q : Exit → Act → World → Prop} {rest : List Oper} {o : Oper} {n d : Nat} {f : Nat → Value} {w w' w0 : World} {v : Value} {ρ : Operand → Value} {x : Operand} {t e sz bytes : Nat} {zv : Value} {L A B : List Hp} {h H a : Hp} {R : Ending → World → Prop}
theorem s_exw {α : Type} {W : α → World → Prop} (hw : Region.wanted o (yielded ops (fr n f).tmps) = true) (hd : o.dst = none)
    (he : ∃ (x : α) (w' : World), (execOp (fr n f).eval o).run P w = .ok .skip w' ∧ W x w') (h : ∀ x w', W x w' → wpList P ops Q rest (fr n f) w') : wpList P ops Q (o :: rest) (fr n f) w := by
  obtain ⟨x, w', h1, h2⟩ := he
  exact s_skip hw hd h1 (h x w' h2)
theorem pmap_lit {l : List (Nat × Operand)} {vs : List (Nat × Value)} (h : (l.map fun (i, x) => (i, ρ x)) = vs) : (l.toArray.map fun (i, x) => (i, ρ x)) = vs.toArray := by simp [h]
theorem pmap_cons {l : List (Nat × Operand)} {vs : List (Nat × Value)} {i : Nat} (hx : ρ x = v) (h : (l.map fun (i, x) => (i, ρ x)) = vs) : (((i, x) :: l).map fun (i, x) => (i, ρ x)) = (i, v) :: vs := by simp [hx, h]
theorem pmap_nil : (([] : List (Nat × Operand)).map fun (i, x) => (i, ρ x)) = [] := rfl
theorem e_litp {cells : List Value} {parts : Array (Nat × Operand)} {ps : List (Nat × Value)} (ho : o.op = .buildSlice t n parts) (ht : SliceTy P t e sz bytes zv) (hps : (parts.map fun (i, x) => (i, ρ x)) = ps.toArray)
    (hp : ∀ w1 : World, (Instr.buildSlice t n ps.toArray).run P w1 = .ok (.slice (some ⟨w1.heap.size, 0, none⟩) n n) (w1.alloc (.cells cells.toArray e))) (hm : Mem w0 w (cat L)) :
    ∃ (g : Nat) (w' : World), (execOp ρ o).run P w = .ok (.value (.slice (some ⟨g, 0, none⟩) n n)) w' ∧ Mem w0 w' (cat (sg g e (0, 0) [] cells [] :: L)) :=
  e_lit ho ht (by rw [hps]; exact hp) hm
theorem x_funcc {fn : Fn} {captured : Array Operand} {caps : List Value} (ho : o.op = .makeFunc fn #[] captured) (hv : captured.map ρ = caps.toArray) : (execOp ρ o).run P w = .ok (.value (.func fn #[] caps.toArray)) w :=
  x_func ho (by rw [hv, map0])
theorem Mem.one (hm : Mem w0 w H) : Mem w0 w (cat [H]) := by rw [cat1]; exact hm
theorem Mem.un (hm : Mem w0 w (cat [H])) : Mem w0 w H := by rw [cat1] at hm; exact hm
theorem subc (h1 : Sub a H) (h2 : Sub (cat A) H) : Sub (cat (a :: A)) H := fun c hc => by
  rcases List.mem_append.1 hc with hc | hc
  · exact h1 c hc
  · exact h2 c hc
theorem subn : Sub (cat []) H := fun _ h => by cases h
theorem outE {α σ : Type} {x : α} {r : α} {k : σ → Option α} (h : (Fl.out x : Fl α σ).on k = some r) : some x = some r := h
theorem goE {α σ : Type} {s : σ} {r : α} {k : σ → Option α} (h : (Fl.go s : Fl α σ).on k = some r) : k s = some r := h
end
end Go.Proofs.Gw
namespace Go.Proofs.Gw
open Go.RowKit
section
variable {P : Program} {w w' w0 : World} {v : Value} {t e sz bytes n : Nat} {zv : Value}
theorem IsSl.cells (h : IsSl v n) : v.cells = [v].toArray := by
  obtain ⟨A, c, rfl, _⟩ := h
  rfl
theorem IsSl.one (h : IsSl v n) : v.oneCell' = true := by
  obtain ⟨A, c, rfl, _⟩ := h
  rfl
theorem one_nil : (([] : List Value).all fun u => u.oneCell') = true := rfl
theorem one_cons {vs : List Value} (h : v.oneCell' = true) (hr : (vs.all fun u => u.oneCell') = true) : ((v :: vs).all fun u => u.oneCell') = true := by simp [h, hr]
theorem fill_nil {place : Nat → Option (Nat × Nat)} {cells : List Value} : Instr.fill place cells.toArray [] = some cells.toArray := rfl
theorem fill_fold (off : Nat) : ∀ (cs : List Value) (k : Nat) (cells : List Value), off + k + cs.length ≤ cells.length →
    (cs.zipIdx k).foldl (fun (a : Array Value) (p : Value × Nat) => a.setIfInBounds (off + p.2) p.1) cells.toArray = (splice cells (off + k) cs).toArray
  | [], k, cells, _ => by simp [splice]
  | c :: r, k, cells, h => by
    simp only [List.length_cons] at h
    simp only [List.zipIdx_cons, List.foldl_cons, List.setIfInBounds_toArray]
    rw [fill_fold off r (k + 1) (cells.set (off + k) c) (by simp; omega)]
    congr 1
    simp only [splice, List.length_cons]
    rw [show off + (k + 1) = off + k + 1 by omega]
    rw [List.take_set, List.drop_set_of_lt (by omega)]
    have hk : off + k < cells.length := by omega
    rw [List.take_succ_eq_append_getElem hk, List.set_append_right _ _ (by simp; omega)]
    simp [Nat.min_eq_left (Nat.le_of_lt hk)]
    congr 1
    omega
theorem fill_cons {place : Nat → Option (Nat × Nat)} {cells cs : List Value} {i off : Nat} {rest : List (Nat × Value)} {R : Option (Array Value)} (hp : place i = some (off, cs.length)) (hv : v.cells = cs.toArray)
    (hl : Nat.ble (off + cs.length) cells.length = true) (h : Instr.fill place (splice cells off cs).toArray rest = R) : Instr.fill place cells.toArray ((i, v) :: rest) = R := by
  have hl' : off + cs.length ≤ cells.length := by simpa using hl
  have h2 := fill_fold off cs 0 cells (by simpa using hl')
  unfold Instr.fill
  rw [hp]
  simp only [hv]
  have hn : ¬ ((decide (cs.toArray.size ≠ cs.length) || decide (off + cs.toArray.size > cells.toArray.size)) = true) := by simp; omega
  rw [if_neg hn]
  have h3 : Array.foldl (fun (a : Array Value) (p : Value × Nat) => a.setIfInBounds (off + p.2) p.1) cells.toArray cs.toArray.zipIdx = (splice cells off cs).toArray := by
    rw [Nat.add_zero] at h2
    rw [← h2]; simp
  have h4 : Array.foldl (fun (cs : Array Value) (x : Value × Nat) => cs.setIfInBounds (off + x.snd) x.fst) cells.toArray cs.toArray.zipIdx = (splice cells off cs).toArray := h3
  rw [h4]
  exact h
theorem run_bslicez {cells zs : List Value} {ps : List (Nat × Value)} {zc : List Value} (ht : SliceTy P t e sz bytes zv) (hz : zv.cells = zc.toArray) (hb : decide (n * sz ≤ 2 ^ 24) = true)
    (h0 : ((Array.range (n * sz)).map (zc.toArray[· % zc.toArray.size]!)) = zs.toArray) (hf : Instr.fill (fun i => some (i * sz, sz)) zs.toArray ps = some cells.toArray)
    (hn : n * sz ≠ 0) : (Instr.buildSlice t n ps.toArray).run P w = .ok (.slice (some ⟨w.heap.size, 0, none⟩) n n) (w.alloc (.cells cells.toArray e)) :=
  run_bslice ht hz hb (by rw [h0]; exact hf) hn
end
end Go.Proofs.Gw
/-! ### 7. Regions of open order, op for op as in text order -/
namespace Go.Proofs.Gw
open Go.RowKit
theorem and_i {p q : Bool} (h : p = true) (k : q = true) : (p && q) = true := by rw [h, k]; rfl
theorem not_i {p : Bool} (h : p = false) : (!p) = true := by rw [h]; rfl
section
variable {P : Program} {ops : Array Oper} {Q : Exit → Act → World → Prop} {o : Oper} {i n d : Nat} {ks : List (Nat × Nat)} {vs f : Nat → Value} {b : Nat → Bool} {w w' w0 : World} {v : Value} {K : Act → World → Prop} {t j k : Nat} {L A B : List Hp} {h h' E : Hp}
theorem sel_on {p : Nat × Nat} (hf : ks.find? (fun p => Nat.beq p.2 t) = some p) (hb : b p.1 = true) : sel b ks vs f t = vs p.1 := by
  simp only [sel, hf, hb, cond_true]
theorem sel_off {p : Nat × Nat} (hf : ks.find? (fun p => Nat.beq p.2 t) = some p) (hb : b p.1 = false) : sel b ks vs f t = f t := by
  simp only [sel, hf, hb, cond_false]
theorem sel_no (hf : ks.find? (fun p => Nat.beq p.2 t) = none) : sel b ks vs f t = f t := by
  simp only [sel, hf]
theorem later {oj : Oper} (hc : ∀ d od, ops[d]? = some od → b d = true → ∀ j, (od.after.any fun e => Region.binds .any e && Nat.beq e.on j) = true → b j = true) (hj : ops[j]? = some oj)
    (hi : (oj.after.any fun e => Region.binds .any e && Nat.beq e.on i) = true) (hb : b i = false) : b j = false := by
  cases h : b j with
  | false => rfl
  | true => rw [hc j oj hj h i hi] at hb; cases hb
theorem ab {p : Bool} {C : Prop} (h : p = false) (k : p = true) : C := by rw [h] at k; cases k
theorem sel_new (hbi : b i = false) : sel b ks vs f = sel b ks (upd vs i v) f := by
  refine sel_vs fun j hj => ?_
  unfold upd
  cases hb : Nat.beq j i with
  | false => rfl
  | true => rw [Nat.eq_of_beq_eq_true hb, hbi] at hj; cases hj
theorem upd_self {vs : Nat → Value} : upd vs i v i = v := by simp [upd]
theorem put_new (hbi : b i = false) (hn : Nat.blt d n = true) (hf : ks.find? (fun p => Nat.beq p.2 d) = some (i, d)) (hu : (ks.all fun p => !(Nat.beq p.1 i) || Nat.beq p.2 d) = true) :
    (fr n (sel b ks vs f)).put (some d) v = fr n (sel (up b i) ks (upd vs i v) f) := by
  rw [put_fr hn, sel_new (v := v) hbi]
  have : v = upd vs i v i := upd_self.symm
  rw [show upd (sel b ks (upd vs i v) f) d v = upd (sel b ks (upd vs i v) f) d (upd vs i v i) by rw [← this], sel_up hf hu]
theorem sel_none (hu : (ks.all fun p => !(Nat.beq p.1 i)) = true) : sel (up b i) ks vs f = sel b ks vs f := by
  funext t; unfold sel
  cases hq : ks.find? (fun p => Nat.beq p.2 t) with
  | none => rfl
  | some p =>
    have h2 := List.all_eq_true.1 hu p (List.mem_of_find?_eq_some hq)
    have hp : p.1 ≠ i := by
      rintro rfl
      simp at h2
    simp only [up_ne hp]
section
variable (hbi : b i = false) (hf : ks.find? (fun p => Nat.beq p.2 d) = some (i, d)) (hu : (ks.all fun p => !(Nat.beq p.1 i) || Nat.beq p.2 d) = true)
include hbi hf hu
theorem e_val (hw : Region.wanted o (yielded ops (fr n (sel b ks vs f)).tmps) = true) (hd : o.dst = some d) (hn : Nat.blt d n = true)
    (he : (execOp (fr n (sel b ks vs f)).eval o).run P w = .ok (.value v) w') (h : K (fr n (sel (up b i) ks (upd vs i v) f)) w') : DG P ops Q o (fr n (sel b ks vs f)) w K := by
  unfold DG
  rw [if_pos hw]
  unfold Oper.wp
  rw [he, Oper.upon_value, hd, put_new hbi hn hf hu]
  exact h
theorem e_off (hw : Region.wanted o (yielded ops (fr n (sel b ks vs f)).tmps) = false) (hd : o.dst = some d) (hn : Nat.blt d n = true)
    (h : K (fr n (sel (up b i) ks (upd vs i undef) f)) w) : DG P ops Q o (fr n (sel b ks vs f)) w K := by
  unfold DG
  rw [if_neg (by simp [hw]), hd, put_new hbi hn hf hu]
  exact h
theorem e_cval {p : Bool} (hw : Region.wanted o (yielded ops (fr n (sel b ks vs f)).tmps) = p) (hd : o.dst = some d) (hn : Nat.blt d n = true)
    (he : p = true → (execOp (fr n (sel b ks vs f)).eval o).run P w = .ok (.value v) w) (h : K (fr n (sel (up b i) ks (upd vs i (cv p v)) f)) w) : DG P ops Q o (fr n (sel b ks vs f)) w K := by
  cases p
  · exact e_off hbi hf hu hw hd hn h
  · exact e_val hbi hf hu hw hd hn (he rfl) h
theorem e_call {fid : FuncId} {args : Array Value} {R : Ending → World → Prop} (hw : Region.wanted o (yielded ops (fr n (sel b ks vs f)).tmps) = true) (hd : o.dst = some d) (hn : Nat.blt d n = true)
    (he : (execOp (fr n (sel b ks vs f)).eval o).run P w = .ok (.enter fid args) w') (hc : Calls P fid args w' R)
    (h : ∀ e w2, R e w2 → ∃ v, e = .returned v ∧ K (fr n (sel (up b i) ks (upd vs i v) f)) w2) : DG P ops Q o (fr n (sel b ks vs f)) w K := by
  unfold DG
  rw [if_pos hw]
  unfold Oper.wp
  rw [he, Oper.upon_enter]
  refine hc.mono fun e w2 hR => ?_
  obtain ⟨v, rfl, hv⟩ := h e w2 hR
  show K ((fr n (sel b ks vs f)).put o.dst v) w2
  rw [hd, put_new hbi hn hf hu]
  exact hv
theorem e_ccall {p : Bool} {fid : FuncId} {args : Array Value} {J : World → Prop} (hw : Region.wanted o (yielded ops (fr n (sel b ks vs f)).tmps) = p) (hd : o.dst = some d) (hn : Nat.blt d n = true)
    (he : p = true → (execOp (fr n (sel b ks vs f)).eval o).run P w = .ok (.enter fid args) w) (hc : p = true → Calls P fid args w (fun e w' => e = .returned v ∧ J w')) (hJ : J w)
    (h : ∀ w2, J w2 → K (fr n (sel (up b i) ks (upd vs i (cv p v)) f)) w2) : DG P ops Q o (fr n (sel b ks vs f)) w K := by
  cases p
  · exact e_off hbi hf hu hw hd hn (h w hJ)
  · exact e_call hbi hf hu hw hd hn (he rfl) (hc rfl) (fun e w2 hR => ⟨v, hR.1, h w2 hR.2⟩)
theorem e_exv {α : Type} {val : α → Value} {W : α → World → Prop} (hw : Region.wanted o (yielded ops (fr n (sel b ks vs f)).tmps) = true) (hd : o.dst = some d) (hn : Nat.blt d n = true)
    (he : ∃ (x : α) (w' : World), (execOp (fr n (sel b ks vs f)).eval o).run P w = .ok (.value (val x)) w' ∧ W x w') (h : ∀ x w', W x w' → K (fr n (sel (up b i) ks (upd vs i (val x)) f)) w') : DG P ops Q o (fr n (sel b ks vs f)) w K := by
  obtain ⟨x, w', h1, h2⟩ := he
  exact e_val hbi hf hu hw hd hn h1 (h x w' h2)
end
section
variable (hbi : b i = false) (hu : (ks.all fun p => !(Nat.beq p.1 i)) = true)
include hbi hu
theorem e_skip (hw : Region.wanted o (yielded ops (fr n (sel b ks vs f)).tmps) = true) (hd : o.dst = none)
    (he : (execOp (fr n (sel b ks vs f)).eval o).run P w = .ok .skip w') (h : K (fr n (sel (up b i) ks vs f)) w') : DG P ops Q o (fr n (sel b ks vs f)) w K := by
  unfold DG
  rw [if_pos hw]
  unfold Oper.wp
  rw [he, Oper.upon_skip, hd]
  rw [sel_none hu] at h
  exact h
theorem e_calln {fid : FuncId} {args : Array Value} {R : Ending → World → Prop} (hw : Region.wanted o (yielded ops (fr n (sel b ks vs f)).tmps) = true) (hd : o.dst = none)
    (he : (execOp (fr n (sel b ks vs f)).eval o).run P w = .ok (.enter fid args) w') (hc : Calls P fid args w' R)
    (h : ∀ e w2, R e w2 → ∃ v, e = .returned v ∧ K (fr n (sel (up b i) ks vs f)) w2) : DG P ops Q o (fr n (sel b ks vs f)) w K := by
  unfold DG
  rw [if_pos hw]
  unfold Oper.wp
  rw [he, Oper.upon_enter]
  refine hc.mono fun e w2 hR => ?_
  obtain ⟨v, rfl, hv⟩ := h e w2 hR
  show K ((fr n (sel b ks vs f)).put o.dst v) w2
  rw [hd]
  rw [sel_none hu] at hv
  exact hv
theorem e_exs {W : World → Prop} (hw : Region.wanted o (yielded ops (fr n (sel b ks vs f)).tmps) = true) (hd : o.dst = none)
    (he : ∃ (w' : World), (execOp (fr n (sel b ks vs f)).eval o).run P w = .ok .skip w' ∧ W w') (h : ∀ w', W w' → K (fr n (sel (up b i) ks vs f)) w') : DG P ops Q o (fr n (sel b ks vs f)) w K := by
  obtain ⟨w', h1, h2⟩ := he
  exact e_skip hbi hu hw hd h1 (h w' h2)
theorem e_exw {α : Type} {W : α → World → Prop} (hw : Region.wanted o (yielded ops (fr n (sel b ks vs f)).tmps) = true) (hd : o.dst = none)
    (he : ∃ (x : α) (w' : World), (execOp (fr n (sel b ks vs f)).eval o).run P w = .ok .skip w' ∧ W x w') (h : ∀ x w', W x w' → K (fr n (sel (up b i) ks vs f)) w') : DG P ops Q o (fr n (sel b ks vs f)) w K := by
  obtain ⟨x, w', h1, h2⟩ := he
  exact e_skip hbi hu hw hd h1 (h x w' h2)
end
theorem wp_drawF {id : Nat} {l : List Oper} (I : (Nat → Value) → (Nat → Bool) → Act → World → Prop) (hm : P.follows .mixedOrders = true) (he : earlier l = true)
    (h0 : I f (fun _ => false) (fr n f) w.drew) (hs : StepsI P l.toArray Q (I f) 0 l) (hend : ∀ b a w, (∀ j, Nat.blt j l.length = true → b j = true) → I f b a w → Q .normal a w) :
    (Code.region id l.toArray true).wp P Q (fr n f) w := wp_draw (I f) hm he h0 hs hend
theorem cat_cons {x y : Hp} {A B : List Hp} (h : x = y) (k : A = B) : (x :: A) = (y :: B) := by rw [h, k]
theorem Mem.cg (h : A = B) (hm : Mem w0 w (cat A)) : Mem w0 w (cat B) := h ▸ hm
theorem Mem.gc (h : B = A) (hm : Mem w0 w (cat A)) : Mem w0 w (cat B) := h ▸ hm
end
end Go.Proofs.Gw
namespace Go.Proofs.Gw
open Go.RowKit
theorem steps_cons {P : Program} {ops : Array Oper} {Q : Exit → Act → World → Prop} {I : (Nat → Bool) → Act → World → Prop} {i : Nat} {o : Oper} {r : List Oper} (h1 : StepI P ops Q I i o) (h2 : StepsI P ops Q I (i + 1) r) : StepsI P ops Q I i (o :: r) := ⟨h1, h2⟩
theorem steps_nil {P : Program} {ops : Array Oper} {Q : Exit → Act → World → Prop} {I : (Nat → Bool) → Act → World → Prop} {i : Nat} : StepsI P ops Q I i [] := trivial
theorem fno {C : Prop} (h : false = true) : C := by cases h
end Go.Proofs.Gw
namespace Go.Proofs.Gw
open Go.RowKit
theorem da {o : Oper} {j : Nat} (h : (o.after.toList.any fun e => Region.binds .any e && Nat.beq e.on j) = true) : (o.after.any fun e => Region.binds .any e && Nat.beq e.on j) = true := by
  rw [← Array.any_toList]; exact h
end Go.Proofs.Gw
