/- Frames as functions, one step at a time, loops by their rounds, regions of open order: plain lemmas over the kit's rules. -/
import Derived.WalkKit
import Derived.Orders
import Derived.Below
import Derived.KernelRfl
set_option linter.unusedVariables false
set_option linter.unusedSimpArgs false
set_option linter.unusedSectionVars false
namespace Go.Proofs.Gw
open Go.RowKit

/-! ### 1. Frames -/
def upd (f : Nat → Value) (d : Nat) (v : Value) : Nat → Value := fun t => bif Nat.beq t d then v else f t
def fr (n : Nat) (f : Nat → Value) : Act := ⟨Array.ofFn (n := n) fun i => f i.val, []⟩
def argF : List Value → Nat → Value
  | [], _ => undef
  | v :: _, 0 => v
  | _ :: r, t + 1 => argF r t

theorem fr_get (n : Nat) (f : Nat → Value) (t : Nat) (h : t < n) : (fr n f).tmps[t]? = some (f t) := by
  simp [fr, h]
theorem ev {n t : Nat} {f : Nat → Value} {v : Value} (hn : Nat.blt t n = true) (h : f t = v) : (fr n f).eval (.tmp t) = v := by
  have hn' : t < n := by simpa using hn
  show (fr n f).tmps.getD t undef = v
  rw [Array.getD_eq_getD_getElem?, fr_get n f t hn', h]; rfl
theorem ec {a : Act} {v : Value} : a.eval (.const v) = v := rfl
theorem put_fr {n d : Nat} {f : Nat → Value} {v : Value} (hn : Nat.blt d n = true) : (fr n f).put (some d) v = fr n (upd f d v) := by
  have hn' : d < n := by simpa using hn
  unfold fr Act.put
  simp only [Act.mk.injEq, and_true]
  apply Array.ext
  · simp
  · intro i h1 h2
    simp only [Array.size_setIfInBounds, Array.size_ofFn] at h1
    rw [Array.getElem_setIfInBounds (by simpa using h1)]
    simp only [Array.getElem_ofFn, upd]
    by_cases h : d = i
    · subst h; simp
    · have : Nat.beq i d = false := by
        cases hb : Nat.beq i d with
        | false => rfl
        | true => exact absurd (Nat.eq_of_beq_eq_true hb).symm h
      simp [h, this]
theorem argF_get : ∀ (l : List Value) (t : Nat), argF l t = l.getD t undef
  | [], t => by simp [argF]
  | v :: r, 0 => by simp [argF]
  | v :: r, t + 1 => by simp [argF, argF_get r t]
theorem enter_fr (l : List Value) (n : Nat) (h : Nat.ble l.length n = true) :
    ({ tmps := l.toArray ++ Array.replicate (n - l.toArray.size) undef, defers := [] } : Act) = fr n (argF l) := by
  have h' : l.length ≤ n := by simpa using h
  unfold fr
  simp only [Act.mk.injEq, and_true]
  apply Array.ext
  · simp; omega
  · intro i h1 h2
    simp only [Array.size_ofFn] at h2
    rw [Array.getElem_ofFn, argF_get]
    by_cases hi : i < l.length
    · rw [Array.getElem_append_left (by simpa using hi)]
      simp [List.getD_eq_getElem?_getD, hi]
    · rw [Array.getElem_append_right (by simpa using hi)]
      have h3 : l[i]? = none := List.getElem?_eq_none (by omega)
      rw [List.getD_eq_getElem?_getD]
      show _ = (l[i]?).getD undef
      rw [h3]
      simp
theorem calls_fr {P : Program} {fid : FuncId} {fn : Func} {c : Code} {l : List Value} {w : World} {R : Ending → World → Prop} {n : Nat}
    (hf : P.funcs[fid]? = some fn) (hb : fn.body = some c) (hn : fn.ntmps = n) (hl : Nat.ble l.length n = true)
    (h : c.wp P (bodyPost P fn R) (fr n (argF l)) w) : Calls P fid l.toArray w R := by
  refine calls_of_wp hf hb ?_
  rw [hn, enter_fr l n hl]; exact h

/-! ### 2. Operations one by one -/
section
variable {P : Program} {ops : Array Oper} {Q : Exit → Act → World → Prop} {rest : List Oper} {o : Oper} {n d : Nat} {f : Nat → Value} {w w' : World} {v : Value}
theorem won {a : Act} (hg : o.guard = none) : Region.wanted o (yielded ops a.tmps) = true := by simp [Region.wanted, hg]
theorem yielded_of {a : Act} {j : Nat} {oj : Oper} {t : Tmp} {b : Bool} (hj : ops[j]? = some oj) (hd : oj.dst = some t) (hv : a.tmps[t]? = some (.bool b)) : yielded ops a.tmps j = some b := by
  simp [yielded, hj, hd, hv]
theorem won_on {f : Nat → Value} {j : Nat} {oj : Oper} {t : Tmp} {b : Bool} (hg : o.guard = some (j, b)) (hj : ops[j]? = some oj) (hd : oj.dst = some t) (hn : Nat.blt t n = true) (hv : f t = .bool b) :
    Region.wanted o (yielded ops (fr n f).tmps) = true := by
  have h := yielded_of (ops := ops) (a := fr n f) hj hd (by rw [fr_get n f t (by simpa using hn), hv])
  simp [Region.wanted, hg, h]
theorem won_off {f : Nat → Value} {j : Nat} {oj : Oper} {t : Tmp} {b : Bool} (hg : o.guard = some (j, b)) (hj : ops[j]? = some oj) (hd : oj.dst = some t) (hn : Nat.blt t n = true) (hv : f t = .bool (!b)) :
    Region.wanted o (yielded ops (fr n f).tmps) = false := by
  have h := yielded_of (ops := ops) (a := fr n f) hj hd (by rw [fr_get n f t (by simpa using hn), hv])
  simp [Region.wanted, hg, h]
theorem s_val (hw : Region.wanted o (yielded ops (fr n f).tmps) = true) (hd : o.dst = some d) (hn : Nat.blt d n = true)
    (he : (execOp (fr n f).eval o).run P w = .ok (.value v) w') (h : wpList P ops Q rest (fr n (upd f d v)) w') : wpList P ops Q (o :: rest) (fr n f) w := by
  refine wpList_step fun K hK => ?_
  rw [if_pos hw]
  unfold Oper.wp
  rw [he, Oper.upon_value, hd, put_fr hn]
  exact hK _ _ h
theorem s_skip (hw : Region.wanted o (yielded ops (fr n f).tmps) = true) (hd : o.dst = none)
    (he : (execOp (fr n f).eval o).run P w = .ok .skip w') (h : wpList P ops Q rest (fr n f) w') : wpList P ops Q (o :: rest) (fr n f) w := by
  refine wpList_step fun K hK => ?_
  rw [if_pos hw]
  unfold Oper.wp
  rw [he, Oper.upon_skip, hd]
  exact hK _ _ h
theorem s_vnone (hw : Region.wanted o (yielded ops (fr n f).tmps) = true) (hd : o.dst = none)
    (he : (execOp (fr n f).eval o).run P w = .ok (.value v) w') (h : wpList P ops Q rest (fr n f) w') : wpList P ops Q (o :: rest) (fr n f) w := by
  refine wpList_step fun K hK => ?_
  rw [if_pos hw]
  unfold Oper.wp
  rw [he, Oper.upon_value, hd]
  exact hK _ _ h
theorem s_off (hw : Region.wanted o (yielded ops (fr n f).tmps) = false) (hd : o.dst = some d) (hn : Nat.blt d n = true)
    (h : wpList P ops Q rest (fr n (upd f d undef)) w) : wpList P ops Q (o :: rest) (fr n f) w := by
  refine wpList_step fun K hK => ?_
  rw [if_neg (by simp [hw]), hd, put_fr hn]
  exact hK _ _ h
theorem s_offn (hw : Region.wanted o (yielded ops (fr n f).tmps) = false) (hd : o.dst = none)
    (h : wpList P ops Q rest (fr n f) w) : wpList P ops Q (o :: rest) (fr n f) w := by
  refine wpList_step fun K hK => ?_
  rw [if_neg (by simp [hw]), hd]
  exact hK _ _ h
theorem s_call {fid : FuncId} {args : Array Value} {R : Ending → World → Prop} (hw : Region.wanted o (yielded ops (fr n f).tmps) = true) (hd : o.dst = some d) (hn : Nat.blt d n = true)
    (he : (execOp (fr n f).eval o).run P w = .ok (.enter fid args) w') (hc : Calls P fid args w' R)
    (h : ∀ e w2, R e w2 → ∃ v, e = .returned v ∧ wpList P ops Q rest (fr n (upd f d v)) w2) : wpList P ops Q (o :: rest) (fr n f) w := by
  refine wpList_step fun K hK => ?_
  rw [if_pos hw]
  unfold Oper.wp
  rw [he, Oper.upon_enter]
  refine hc.mono fun e w2 hR => ?_
  obtain ⟨v, rfl, hv⟩ := h e w2 hR
  show K ((fr n f).put o.dst v) w2
  rw [hd, put_fr hn]
  exact hK _ _ hv
theorem s_calln {fid : FuncId} {args : Array Value} {R : Ending → World → Prop} (hw : Region.wanted o (yielded ops (fr n f).tmps) = true) (hd : o.dst = none)
    (he : (execOp (fr n f).eval o).run P w = .ok (.enter fid args) w') (hc : Calls P fid args w' R)
    (h : ∀ e w2, R e w2 → ∃ v, e = .returned v ∧ wpList P ops Q rest (fr n f) w2) : wpList P ops Q (o :: rest) (fr n f) w := by
  refine wpList_step fun K hK => ?_
  rw [if_pos hw]
  unfold Oper.wp
  rw [he, Oper.upon_enter]
  refine hc.mono fun e w2 hR => ?_
  obtain ⟨v, rfl, hv⟩ := h e w2 hR
  show K ((fr n f).put o.dst v) w2
  rw [hd]
  exact hK _ _ hv
end

/-! ### 3. Loops by a number of rounds -/
theorem least (p : Nat → Prop) (h : ∃ k, p k) : ∃ m, p m ∧ ∀ j, p j → m ≤ j := by
  obtain ⟨k, hk⟩ := h
  induction k using Nat.strongRecOn with
  | _ k ih =>
    by_cases hj : ∃ j, j < k ∧ p j
    · obtain ⟨j, hlt, hp⟩ := hj
      exact ih j hlt hp
    · exact ⟨k, hk, fun j hp => by
        rcases Nat.lt_or_ge j k with h1 | h1
        · exact absurd ⟨j, h1, hp⟩ hj
        · exact h1⟩
theorem wp_fuel {P : Program} {c : Code} {Q : Exit → Act → World → Prop} (I : Nat → Act → World → Prop) (k : Nat) (a : Act) (w : World) (h0 : I k a w)
    (zero : ∀ a w, ¬ I 0 a w) (round : ∀ k a w, I (k + 1) a w → c.wp P (Exit.then (fun a' w' => I k a' w') Q) a w) : (Code.loop c).wp P Q a w := by
  classical
  refine wp_loop (fun a w => ∃ k, I k a w) (fun a w => if h : ∃ k, I k a w then (least _ h).choose else 0) ⟨k, h0⟩ ?_
  intro a w hI
  have hk := (least _ hI).choose_spec.1
  generalize hm : (least _ hI).choose = m at hk
  cases m with
  | zero => exact absurd hk (zero a w)
  | succ m =>
    refine Code.wp_mono ?_ (round m a w hk)
    intro e a' w' q
    cases e with
    | normal =>
      refine ⟨⟨m, q⟩, ?_⟩
      have h1 : ∃ k, I k a' w' := ⟨m, q⟩
      rw [dif_pos h1, dif_pos hI, hm]
      exact Nat.lt_succ_of_le ((least _ h1).choose_spec.2 m q)
    | exit id => exact q
    | goto l => exact q
    | ret => exact q
    | panic c => exact q
    | outgrown => exact q

/-! ### 4. Regions of open order: one relation over what is listed so far -/
def up (b : Nat → Bool) (i : Nat) : Nat → Bool := fun j => bif Nat.beq j i then true else b j
theorem up_self (b : Nat → Bool) (i : Nat) : up b i i = true := by simp [up]
theorem up_ne {b : Nat → Bool} {i j : Nat} (h : j ≠ i) : up b i j = b j := by
  have : Nat.beq j i = false := by
    cases hb : Nat.beq j i with
    | false => rfl
    | true => exact absurd (Nat.eq_of_beq_eq_true hb) h
  simp [up, this]
/-- Slots behind a choice b of listed operations: ks: (operation, slot). -/
def sel (b : Nat → Bool) (ks : List (Nat × Nat)) (vs f : Nat → Value) : Nat → Value := fun t =>
  match ks.find? (fun p => Nat.beq p.2 t) with
  | some p => bif b p.1 then vs p.1 else f t
  | none => f t
theorem sel_false (ks : List (Nat × Nat)) (vs f : Nat → Value) : sel (fun _ => false) ks vs f = f := by
  funext t; unfold sel; split <;> rfl
theorem sel_up {b : Nat → Bool} {ks : List (Nat × Nat)} {vs f : Nat → Value} {i t : Nat} (hf : ks.find? (fun p => Nat.beq p.2 t) = some (i, t)) (hu : (ks.all fun p => !(Nat.beq p.1 i) || Nat.beq p.2 t) = true) :
    upd (sel b ks vs f) t (vs i) = sel (up b i) ks vs f := by
  funext s
  unfold upd sel
  by_cases hs : s = t
  · subst hs
    rw [hf]
    simp [up_self]
  · have h1 : Nat.beq s t = false := by
      cases hb : Nat.beq s t with
      | false => rfl
      | true => exact absurd (Nat.eq_of_beq_eq_true hb) hs
    rw [h1]
    simp only [cond_false]
    cases hq : ks.find? (fun p => Nat.beq p.2 s) with
    | none => rfl
    | some p =>
      have hp : p.1 ≠ i := by
        intro e
        have hm := List.mem_of_find?_eq_some hq
        have h2 := List.all_eq_true.1 hu p hm
        have h3 : Nat.beq p.2 s = true := by have := List.find?_some hq; simpa using this
        rw [e] at h2
        simp at h2 h3
        exact hs (by omega)
      simp only [up_ne hp]
theorem sel_vs {b : Nat → Bool} {ks : List (Nat × Nat)} {vs vs' f : Nat → Value} (h : ∀ i, b i = true → vs i = vs' i) : sel b ks vs f = sel b ks vs' f := by
  funext t; unfold sel
  split
  · rename_i p _
    cases hb : b p.1
    · rfl
    · simp [h _ hb]
  · rfl
theorem on_ {α : Type} {b : Bool} {x y v : α} (h : b = true) (hv : x = v) : (bif b then x else y) = v := by rw [h]; exact hv
theorem off_ {α : Type} {b : Bool} {x y v : α} (h : b = false) (hv : y = v) : (bif b then x else y) = v := by rw [h]; exact hv

section
variable {P : Program} {ops : Array Oper} {Q : Exit → Act → World → Prop}
/-- One operation of a region, or its being passed over. -/
def DG (P : Program) (ops : Array Oper) (Q : Exit → Act → World → Prop) (o : Oper) (a : Act) (w : World) (K : Act → World → Prop) : Prop :=
  if Region.wanted o (yielded ops a.tmps) = true then o.wp P a w K Q else K (a.put o.dst undef) w
/-- The step of operation i. -/
def StepI (P : Program) (ops : Array Oper) (Q : Exit → Act → World → Prop) (I : (Nat → Bool) → Act → World → Prop) (i : Nat) (o : Oper) : Prop :=
  ∀ b a w, I b a w → b i = false → (∀ j, (o.after.any fun e => Region.binds .any e && Nat.beq e.on j) = true → b j = true) →
    (∀ d od, ops[d]? = some od → b d = true → ∀ j, (od.after.any fun e => Region.binds .any e && Nat.beq e.on j) = true → b j = true) →
    ∀ K : Act → World → Prop, (∀ a' w', I (up b i) a' w' → K a' w') → DG P ops Q o a w K
def StepsI (P : Program) (ops : Array Oper) (Q : Exit → Act → World → Prop) (I : (Nat → Bool) → Act → World → Prop) : Nat → List Oper → Prop
  | _, [] => True
  | i, o :: r => StepI P ops Q I i o ∧ StepsI P ops Q I (i + 1) r
theorem stepsI_get {I : (Nat → Bool) → Act → World → Prop} : ∀ (l : List Oper) (k : Nat), StepsI P ops Q I k l → ∀ j o, l[j]? = some o → StepI P ops Q I (k + j) o
  | [], _, _, j, o, h => by simp at h
  | x :: r, k, hs, 0, o, h => by simp at h; subst h; exact hs.1
  | x :: r, k, hs, j + 1, o, h => by
    have := stepsI_get r (k + 1) hs.2 j o (by simpa using h)
    rwa [Nat.add_assoc, Nat.add_comm 1 j] at this
/-- Every edge that binds goes to an earlier operation. -/
def earlier (l : List Oper) : Bool := (List.range l.length).all fun i => match l[i]? with
  | some o => o.after.all fun e => !Region.binds .any e || Nat.blt e.on i
  | none => true
theorem region_all (hm : P.follows .mixedOrders = true) (I : (Nat → Bool) → Act → World → Prop) (he : ∀ i o, ops[i]? = some o → ∀ e ∈ o.after, Region.binds .any e = true → e.on < i)
    (hs : ∀ i o, ops[i]? = some o → StepI P ops Q I i o) (hend : ∀ b a w, (∀ j, j < ops.size → b j = true) → I b a w → Q .normal a w) :
    ∀ (m : Nat) (b : Nat → Bool) (listed : Array Bool) (a : Act) (w : World), listed.size = ops.size → (∀ j, j < ops.size → listed.getD j true = b j) →
      ((List.range ops.size).filter fun j => !b j).length ≤ m →
      (∀ d od, ops[d]? = some od → b d = true → ∀ j, (od.after.any fun e => Region.binds .any e && Nat.beq e.on j) = true → b j = true) →
      I b a w → wpAny P .any ops Q m listed a w := by
  have done : ∀ (b : Nat → Bool) (listed : Array Bool), listed.size = ops.size → (∀ j, j < ops.size → listed.getD j true = b j) → Region.ready .any ops listed = [] → ∀ j, j < ops.size → b j = true := by
    intro b listed hsz hl hr j
    induction j using Nat.strongRecOn with
    | _ j ih =>
      intro hj
      cases hb : b j with
      | true => rfl
      | false =>
        have hoj : ops[j]? = some ops[j] := Array.getElem?_eq_getElem hj
        have hin : j ∈ Region.ready .any ops listed := by
          refine mem_ready.2 ⟨by rw [hl j hj, hb], ops[j], hoj, fun e hee hbe => ?_⟩
          have hlt := he j _ hoj e hee hbe
          have hlo : e.on < ops.size := Nat.lt_trans hlt hj
          have h1 := ih e.on hlt hlo
          have h2 := hl e.on hlo
          rw [h1] at h2
          have h3 : e.on < listed.size := by omega
          simp [h3] at h2 ⊢
          exact h2
        rw [hr] at hin
        cases hin
  intro m
  induction m with
  | zero =>
    intro b listed a w hsz hl hmm hc hI
    have hall : ∀ j, j < ops.size → b j = true := by
      intro j hj
      cases hb : b j with
      | true => rfl
      | false =>
        have : j ∈ (List.range ops.size).filter fun j => !b j := List.mem_filter.2 ⟨List.mem_range.2 hj, by simp [hb]⟩
        have h9 := List.eq_nil_of_length_eq_zero (Nat.eq_zero_of_le_zero hmm)
        rw [h9] at this
        cases this
    refine ⟨?_, hend b a w hall hI⟩
    refine List.eq_nil_iff_forall_not_mem.2 (fun i hi => ?_)
    obtain ⟨h1, o, ho, _⟩ := mem_ready.1 hi
    have hlt := (Array.getElem?_eq_some_iff.1 ho).1
    rw [hl i hlt, hall i hlt] at h1
    cases h1
  | succ m ih =>
    intro b listed a w hsz hl hmm hc hI
    refine ⟨fun hr => hend b a w (done b listed hsz hl hr) hI, fun i hi => ?_⟩
    obtain ⟨h1, o, ho, hall⟩ := mem_ready.1 hi
    have hlt := (Array.getElem?_eq_some_iff.1 ho).1
    have hbi : b i = false := by rw [← hl i hlt]; exact h1
    have hneed : ∀ j, (o.after.any fun e => Region.binds .any e && Nat.beq e.on j) = true → b j = true := by
      intro j hj
      obtain ⟨e, hee, h2⟩ := Array.any_eq_true'.1 hj
      simp only [Bool.and_eq_true] at h2
      have h3 := hall e hee h2.1
      have hej : e.on = j := by simpa using h2.2
      have hlo : e.on < ops.size := Nat.lt_trans (he i o ho e hee h2.1) hlt
      have h4 := hl e.on hlo
      have h5 : e.on < listed.size := by omega
      simp [h5] at h3 h4
      rw [h3] at h4
      rw [← hej]; exact h4.symm
    have hst := hs i o ho b a w hI hbi hneed hc (wpAny P .any ops Q m (listed.setIfInBounds i true)) (fun a' w' hI' => by
      refine ih (up b i) _ a' w' (by simpa using hsz) ?_ ?_ ?_ hI'
      · intro j hj
        by_cases hji : j = i
        · subst hji
          rw [up_self]
          have : j < listed.size := by omega
          simp [this]
        · rw [up_ne hji, getD_set_ne true (fun e => hji e.symm)]
          exact hl j hj
      · have h6 : ((List.range ops.size).filter fun j => !up b i j).length + 1 ≤ ((List.range ops.size).filter fun j => !b j).length := by
          have h7 : ((List.range ops.size).filter fun j => !up b i j) = ((List.range ops.size).filter fun j => !b j).filter fun j => decide (j ≠ i) := by
            rw [List.filter_filter]
            refine List.filter_congr fun j _ => ?_
            by_cases hji : j = i
            · subst hji; simp [up_self]
            · simp [up_ne hji, hji]
          rw [h7]
          have hmem : i ∈ (List.range ops.size).filter fun j => !b j := List.mem_filter.2 ⟨List.mem_range.2 hlt, by simp [hbi]⟩
          have := List.length_filter_lt_length_iff_exists (l := (List.range ops.size).filter fun j => !b j) (p := fun j => decide (j ≠ i)) |>.2 ⟨i, hmem, by simp⟩
          omega
        omega
      · intro d od hod hbd j hj
        by_cases hdi : d = i
        · subst hdi
          rw [ho] at hod
          cases hod
          have := hneed j hj
          by_cases hji : j = d
          · subst hji; exact up_self b j
          · rw [up_ne hji]; exact this
        · rw [up_ne hdi] at hbd
          have := hc d od hod hbd j hj
          by_cases hji : j = i
          · subst hji; exact up_self b j
          · rw [up_ne hji]; exact this)
    unfold DG at hst
    unfold wpOp
    rw [ho]
    simp only []
    split
    · rename_i hw
      rw [if_pos hw] at hst
      exact .inl hst
    · rename_i hw
      rw [if_neg hw] at hst
      exact hst
theorem wp_draw {id : Nat} {l : List Oper} {a : Act} {w : World} (I : (Nat → Bool) → Act → World → Prop) (hm : P.follows .mixedOrders = true) (he : earlier l = true)
    (h0 : I (fun _ => false) a w.drew) (hs : StepsI P l.toArray Q I 0 l) (hend : ∀ b a w, (∀ j, Nat.blt j l.length = true → b j = true) → I b a w → Q .normal a w) :
    (Code.region id l.toArray true).wp P Q a w := by
  refine wp_region_any hm ?_
  refine region_all hm I ?_ ?_ ?_ _ (fun _ => false) _ a _ (by simp) ?_ ?_ ?_ h0
  · intro i o ho e hee hbe
    have hlt : i < l.length := by have := (Array.getElem?_eq_some_iff.1 ho).1; simpa using this
    have ho' : l[i]? = some o := by simpa using ho
    have h1 := List.all_eq_true.1 he i (List.mem_range.2 hlt)
    rw [ho'] at h1
    have h2 := Array.all_eq_true_iff_forall_mem.1 h1 e hee
    rw [hbe] at h2
    simpa using h2
  · intro i o ho
    have := stepsI_get l 0 hs i o (by simpa using ho)
    rwa [Nat.zero_add] at this
  · intro b a w hall hI
    exact hend b a w (fun j hj => hall j (by simpa using hj)) hI
  · intro j hj
    have : j < l.length := by simpa using hj
    simp [this]
  · exact Nat.le_trans (List.length_filter_le _ _) (by simp)
  · intro d od _ hbd
    cases hbd
variable {o : Oper} {I : (Nat → Bool) → Act → World → Prop} {i n d : Nat} {ks : List (Nat × Nat)} {vs f g : Nat → Value} {b : Nat → Bool} {w w' : World} {v : Value} {K : Act → World → Prop}
theorem d_val (hw : Region.wanted o (yielded ops (fr n (sel b ks vs f)).tmps) = true) (hd : o.dst = some d) (hn : Nat.blt d n = true) (hf : ks.find? (fun p => Nat.beq p.2 d) = some (i, d)) (hu : (ks.all fun p => !(Nat.beq p.1 i) || Nat.beq p.2 d) = true)
    (he : (execOp (fr n (sel b ks vs f)).eval o).run P w = .ok (.value (vs i)) w')
    (hI : I (up b i) (fr n (sel (up b i) ks vs f)) w') (hK : ∀ a' w', I (up b i) a' w' → K a' w') :
    if Region.wanted o (yielded ops (fr n (sel b ks vs f)).tmps) = true then o.wp P (fr n (sel b ks vs f)) w K Q else K ((fr n (sel b ks vs f)).put o.dst undef) w := by
  rw [if_pos hw]
  unfold Oper.wp
  rw [he, Oper.upon_value, hd, put_fr hn, sel_up hf hu]
  exact hK _ _ hI
theorem d_skip (hw : Region.wanted o (yielded ops (fr n (sel b ks vs f)).tmps) = true) (hd : o.dst = none) (hu : (ks.all fun p => !(Nat.beq p.1 i)) = true)
    (he : (execOp (fr n (sel b ks vs f)).eval o).run P w = .ok .skip w')
    (hI : I (up b i) (fr n (sel (up b i) ks vs f)) w') (hK : ∀ a' w', I (up b i) a' w' → K a' w') :
    if Region.wanted o (yielded ops (fr n (sel b ks vs f)).tmps) = true then o.wp P (fr n (sel b ks vs f)) w K Q else K ((fr n (sel b ks vs f)).put o.dst undef) w := by
  rw [if_pos hw]
  unfold Oper.wp
  rw [he, Oper.upon_skip, hd]
  have : sel (up b i) ks vs f = sel b ks vs f := by
    funext t; unfold sel
    cases hq : ks.find? (fun p => Nat.beq p.2 t) with
    | none => rfl
    | some p =>
      have h2 := List.all_eq_true.1 hu p (List.mem_of_find?_eq_some hq)
      have hp : p.1 ≠ i := by
        rintro rfl
        simp at h2
      simp only [up_ne hp]
  rw [this] at hI
  exact hK _ _ hI
theorem d_off (hw : Region.wanted o (yielded ops (fr n (sel b ks vs f)).tmps) = false) (hd : o.dst = some d) (hn : Nat.blt d n = true) (hf : ks.find? (fun p => Nat.beq p.2 d) = some (i, d)) (hu : (ks.all fun p => !(Nat.beq p.1 i) || Nat.beq p.2 d) = true)
    (hv : vs i = undef) (hI : I (up b i) (fr n (sel (up b i) ks vs f)) w) (hK : ∀ a' w', I (up b i) a' w' → K a' w') :
    if Region.wanted o (yielded ops (fr n (sel b ks vs f)).tmps) = true then o.wp P (fr n (sel b ks vs f)) w K Q else K ((fr n (sel b ks vs f)).put o.dst undef) w := by
  rw [if_neg (by simp [hw]), hd, put_fr hn, ← hv, sel_up hf hu]
  exact hK _ _ hI
theorem d_call {fid : FuncId} {args : Array Value} {R : Ending → World → Prop} (hw : Region.wanted o (yielded ops (fr n (sel b ks vs f)).tmps) = true) (hd : o.dst = some d) (hn : Nat.blt d n = true) (hf : ks.find? (fun p => Nat.beq p.2 d) = some (i, d)) (hu : (ks.all fun p => !(Nat.beq p.1 i) || Nat.beq p.2 d) = true)
    (he : (execOp (fr n (sel b ks vs f)).eval o).run P w = .ok (.enter fid args) w') (hc : Calls P fid args w' R)
    (h : ∀ e w2, R e w2 → ∃ vs' : Nat → Value, (∀ j, b j = true → vs' j = vs j) ∧ e = .returned (vs' i) ∧ I (up b i) (fr n (sel (up b i) ks vs' f)) w2) (hK : ∀ a' w', I (up b i) a' w' → K a' w') :
    if Region.wanted o (yielded ops (fr n (sel b ks vs f)).tmps) = true then o.wp P (fr n (sel b ks vs f)) w K Q else K ((fr n (sel b ks vs f)).put o.dst undef) w := by
  rw [if_pos hw]
  unfold Oper.wp
  rw [he, Oper.upon_enter]
  refine hc.mono fun e w2 hR => ?_
  obtain ⟨vs', h1, rfl, hI⟩ := h e w2 hR
  simp only []
  rw [hd, put_fr hn, sel_vs (vs' := vs') (fun j hj => (h1 j hj).symm), sel_up hf hu]
  exact hK _ _ hI
end

/-! ### 5. Code -/
section
variable {P : Program} {Q : Exit → Act → World → Prop} {w : World} {n : Nat} {f : Nat → Value}
theorem c_true {c x y : _} {t : Nat} (hn : Nat.blt t n = true) {p : Bool} (hc : c = Operand.tmp t) (hv : f t = .bool p) (hp : p = true) (h : Code.wp P x Q (fr n f) w) : (Code.cond c x y).wp P Q (fr n f) w :=
  wp_cond_true (by rw [hc, ev hn hv, hp]) h
theorem c_false {c x y : _} {t : Nat} (hn : Nat.blt t n = true) {p : Bool} (hc : c = Operand.tmp t) (hv : f t = .bool p) (hp : p = false) (h : Code.wp P y Q (fr n f) w) : (Code.cond c x y).wp P Q (fr n f) w :=
  wp_cond_false (by rw [hc, ev hn hv, hp]) h
theorem r_ret {fn : Func} {R : Ending → World → Prop} {a : Act} {v : Value} (hr : (results fn a.tmps).run P w = .ok v w) (hd : a.defers = []) (h : R (.returned v) w) : bodyPost P fn R .ret a w := bodyPost_ret hr hd h
end
end Go.Proofs.Gw
