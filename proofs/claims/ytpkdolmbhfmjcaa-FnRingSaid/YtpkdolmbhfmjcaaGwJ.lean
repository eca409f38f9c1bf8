/- Regions of open order by one walk in one fitting order: what is written lies in a chain, what is read hangs on what stays. -/
import Derived.Test.YtpkdolmbhfmjcaaGwI
set_option linter.unusedVariables false
set_option linter.unusedSimpArgs false
set_option linter.unusedSectionVars false
namespace Go.Proofs.Gw
open Go.RowKit
/-- What an operation that may write comes to: a value, nothing, or a call that comes back. -/
def SW (P : Program) (o : Oper) (a : Act) (K : Act → World → Prop) : Result Next → Prop
  | .ok (.value v) w' => K (a.put o.dst v) w'
  | .ok .skip w' => K (a.put o.dst undef) w'
  | .ok (.enter f args) w' => Calls P f args w' (fun e w'' => ∃ v, e = .returned v ∧ K (a.put o.dst v) w'')
  | _ => False
/-- One operation: 0: its value hangs on nothing but what Inv tells of the world; 1: it reads the world as it is; else: it may write. -/
def SG (P : Program) (ops : Array Oper) (Inv : World → Prop) (k : Nat) (o : Oper) (a : Act) (w : World) (K : Act → World → Prop) : Prop :=
  if Region.wanted o (yielded ops a.tmps) = true then
    match k with
    | 0 => ∃ v, (∀ w', Inv w' → (execOp a.eval o).run P w' = .ok (.value v) w') ∧ K (a.put o.dst v) w
    | 1 => ∃ v, (execOp a.eval o).run P w = .ok (.value v) w ∧ K (a.put o.dst v) w
    | _ => SW P o a (fun a' w' => Inv w' ∧ K a' w') ((execOp a.eval o).run P w)
  else K (a.put o.dst undef) w
def wl (P : Program) (ops : Array Oper) (Inv : World → Prop) (Q : Exit → Act → World → Prop) : List (Nat × Nat × Oper) → Act → World → Prop
  | [], a, w => Q .normal a w
  | x :: r, a, w => SG P ops Inv x.2.1 x.2.2 a w (wl P ops Inv Q r)
section
variable {P : Program} {ops : Array Oper} {Inv : World → Prop} {Q : Exit → Act → World → Prop} {k ki kk : Nat} {o oi ok : Oper} {a : Act} {w : World} {K K' : Act → World → Prop}
theorem SW.mono (h : ∀ u w', K (a.put o.dst u) w' → K' (a.put o.dst u) w') : ∀ {r : Result Next}, SW P o a K r → SW P o a K' r
  | .ok (.value v) w', hs => h _ _ hs
  | .ok .skip w', hs => h _ _ hs
  | .ok (.enter f args) w', hs => by
    refine Calls.mono hs ?_
    rintro e w'' ⟨v, he, hk⟩
    exact ⟨v, he, h _ _ hk⟩
  | .ok (.defer d) w', hs => hs.elim
  | .ok (.row _ _) w', hs => hs.elim
  | .ok (.round ..) w', hs => hs.elim
  | .ok (.spawn ..) w', hs => hs.elim
  | .ok (.comm ..) w', hs => hs.elim
  | .halt x w', hs => hs.elim
theorem SG.mono (hi : Inv w) (h : ∀ a' w', Inv w' → K a' w' → K' a' w') (hs : SG P ops Inv k o a w K) : SG P ops Inv k o a w K' := by
  unfold SG at *
  split
  · rename_i hw
    rw [if_pos hw] at hs
    match k, hs with
    | 0, ⟨v, h1, h2⟩ => exact ⟨v, h1, h _ _ hi h2⟩
    | 1, ⟨v, h1, h2⟩ => exact ⟨v, h1, h _ _ hi h2⟩
    | n + 2, hs => exact hs.mono fun u w' hh => ⟨hh.1, h _ _ hh.1 hh.2⟩
  · rename_i hw
    rw [if_neg hw] at hs
    exact h _ _ hi hs
theorem SW.wp (hs : SW P o a K ((execOp a.eval o).run P w)) : o.wp P a w K Q := by
  unfold Oper.wp
  generalize (execOp a.eval o).run P w = r at hs
  match r, hs with
  | .ok (.value v) w', hs => exact hs
  | .ok .skip w', hs => exact hs
  | .ok (.enter f args) w', hs =>
    rw [Oper.upon_enter]
    refine Calls.mono hs ?_
    rintro e w'' ⟨v, rfl, hk⟩
    exact hk
theorem SG.dg (hi : Inv w) (hs : SG P ops Inv k o a w K) : DG P ops Q o a w K := by
  unfold SG at hs
  unfold DG
  split
  · rename_i hw
    rw [if_pos hw] at hs
    match k, hs with
    | 0, ⟨v, h1, h2⟩ => unfold Oper.wp; rw [h1 w hi, Oper.upon_value]; exact h2
    | 1, ⟨v, h1, h2⟩ => unfold Oper.wp; rw [h1, Oper.upon_value]; exact h2
    | n + 2, hs => exact SW.wp (SW.mono (fun u w' hh => hh.2) hs)
  · rename_i hw
    rw [if_neg hw] at hs
    exact hs
theorem SW.swap {d : Option Tmp} {u : Value} (hd : ∀ t, d = some t → o.dst ≠ some t) : ∀ {r : Result Next}, SW P o (a.put d u) K r → SW P o a (fun a' w' => K (a'.put d u) w') r
  | .ok (.value v) w', hs => by show K _ _; rw [← Act.put_comm a u v hd]; exact hs
  | .ok .skip w', hs => by show K _ _; rw [← Act.put_comm a u undef hd]; exact hs
  | .ok (.enter f args) w', hs => by
    refine Calls.mono hs ?_
    rintro e w'' ⟨v, he, hk⟩
    exact ⟨v, he, by show K _ _; rw [← Act.put_comm a u v hd]; exact hk⟩
  | .ok (.defer d) w', hs => hs.elim
  | .ok (.row _ _) w', hs => hs.elim
  | .ok (.round ..) w', hs => hs.elim
  | .ok (.spawn ..) w', hs => hs.elim
  | .ok (.comm ..) w', hs => hs.elim
  | .halt x w', hs => hs.elim
/-- Which pairs may come the other way round. -/
def mayB (ki kk : Nat) : Bool := Nat.beq ki 0 || (Nat.ble ki 1 && Nat.ble kk 1)
theorem SG.swap (hsel : ∀ cs b, oi.op ≠ .select cs b) (hsel2 : ∀ cs b, ok.op ≠ .select cs b) (hap : oi.apart ops ok = true) (hmay : mayB ki kk = true) (hi : Inv w)
    (h : SG P ops Inv ki oi a w (fun a w => SG P ops Inv kk ok a w K)) : SG P ops Inv kk ok a w (fun a w => SG P ops Inv ki oi a w K) := by
  obtain ⟨h1, h2, h3⟩ := Oper.apart_spec hap
  -- what the first one does to the frame changes nothing for the second, and the other way round
  have e1 : ∀ v, execOp (a.put oi.dst v).eval ok = execOp a.eval ok := fun v => execOp_put (ops := ops) ok hsel2 a oi.dst v h1
  have w1 : ∀ v, Region.wanted ok (yielded ops (a.put oi.dst v).tmps) = Region.wanted ok (yielded ops a.tmps) := fun v => wanted_put ok a oi.dst v h1
  have e2 : ∀ v, execOp (a.put ok.dst v).eval oi = execOp a.eval oi := fun v => execOp_put (ops := ops) oi hsel a ok.dst v h3
  have w2 : ∀ v, Region.wanted oi (yielded ops (a.put ok.dst v).tmps) = Region.wanted oi (yielded ops a.tmps) := fun v => wanted_put oi a ok.dst v h3
  have pc : ∀ v u, (a.put oi.dst v).put ok.dst u = (a.put ok.dst u).put oi.dst v := fun v u => Act.put_comm a v u h2
  -- the first one is quiet: a value, whatever world of the kind
  have key : ∀ (v : Value), (∀ (b : Act) (w' : World), (∃ u, b = a.put ok.dst u) → Inv w' → (ki = 0 ∨ w' = w) → K (b.put oi.dst v) w' → SG P ops Inv ki oi b w' K) → SG P ops Inv kk ok (a.put oi.dst v) w K → (ki = 0 ∨ kk ≤ 1) → SG P ops Inv kk ok a w (fun a w => SG P ops Inv ki oi a w K) := by
    intro v hv hh hq
    unfold SG at hh ⊢
    rw [w1] at hh
    split
    · rename_i hw
      rw [if_pos hw] at hh
      match kk, hh, hq with
      | 0, ⟨u, h4, h5⟩, _ => exact ⟨u, fun w' hw' => by rw [← e1 v]; exact h4 w' hw', hv _ _ ⟨u, rfl⟩ hi (.inr rfl) (by rw [← pc]; exact h5)⟩
      | 1, ⟨u, h4, h5⟩, _ => exact ⟨u, by rw [← e1 v]; exact h4, hv _ _ ⟨u, rfl⟩ hi (.inr rfl) (by rw [← pc]; exact h5)⟩
      | n + 2, hh, hq =>
        have hq0 : ki = 0 := by rcases hq with hq | hq <;> omega
        rw [e1] at hh
        have h8 := SW.swap (K := fun a' w' => Inv w' ∧ K a' w') (d := oi.dst) (u := v) h2 hh
        exact SW.mono (fun u w' hk => ⟨hk.1, hv _ _ ⟨u, rfl⟩ hk.1 (.inl hq0) hk.2⟩) h8
    · rename_i hw
      rw [if_neg hw] at hh
      exact hv _ _ ⟨undef, rfl⟩ hi (.inr rfl) (by rw [← pc]; exact hh)
  have hq : ki = 0 ∨ kk ≤ 1 := by
    simp only [mayB, Bool.or_eq_true, Bool.and_eq_true] at hmay
    rcases hmay with h | h
    · exact .inl (Nat.eq_of_beq_eq_true h)
    · exact .inr (Nat.le_of_ble_eq_true h.2)
  have hk1 : ki ≤ 1 := by
    simp only [mayB, Bool.or_eq_true, Bool.and_eq_true] at hmay
    rcases hmay with h | h
    · have := Nat.eq_of_beq_eq_true h; omega
    · exact Nat.le_of_ble_eq_true h.1
  unfold SG at h
  split at h
  · rename_i hw
    match ki, h, hk1 with
    | 0, ⟨v, h4, h5⟩, _ =>
      refine key v ?_ h5 hq
      rintro b w' ⟨u, rfl⟩ hi' _ hK
      unfold SG
      rw [w2, if_pos hw]
      exact ⟨v, fun w'' hw'' => by rw [e2]; exact h4 w'' hw'', hK⟩
    | 1, ⟨v, h4, h5⟩, _ =>
      refine key v ?_ h5 hq
      rintro b w' ⟨u, rfl⟩ hi' hww hK
      unfold SG
      rw [w2, if_pos hw]
      rcases hww with hww | hww
      · cases hww
      · subst hww
        exact ⟨v, by rw [e2]; exact h4, hK⟩
  · rename_i hw
    refine key undef ?_ h hq
    rintro b w' ⟨u, rfl⟩ hi' _ hK
    unfold SG
    rw [w2, if_neg hw]
    exact hK
/-- What an operation waits for, however far back. -/
def ancB (ops : Array Oper) : Nat → Nat → Nat → Bool
  | 0, _, _ => false
  | n + 1, i, x => match ops[i]? with
    | some o => o.after.any fun e => Region.binds .any e && (Nat.beq e.on x || ancB ops n e.on x)
    | none => false
theorem anc_listed {listed : Array Bool} (hc : ∀ j o, ops[j]? = some o → listed.getD j false = true → ∀ e ∈ o.after, Region.binds .any e = true → listed.getD e.on false = true) :
    ∀ (n i x : Nat), (∀ o, ops[i]? = some o → ∀ e ∈ o.after, Region.binds .any e = true → listed.getD e.on false = true) → ancB ops n i x = true → listed.getD x false = true
  | 0, i, x, _, h => by cases h
  | n + 1, i, x, hi, h => by
    unfold ancB at h
    split at h
    · rename_i o ho
      obtain ⟨e, he, h2⟩ := Array.any_eq_true'.1 h
      simp only [Bool.and_eq_true, Bool.or_eq_true] at h2
      have h3 := hi o ho e he h2.1
      rcases h2.2 with h4 | h4
      · rw [← Nat.eq_of_beq_eq_true h4]; exact h3
      · exact anc_listed hc n e.on x (fun o' ho' => hc e.on o' ho' h3) h4
    · cases h
def pairB (ops : Array Oper) (x y : Nat × Nat × Oper) : Bool := ancB ops ops.size y.1 x.1 || (x.2.2.apart ops y.2.2 && mayB x.2.1 y.2.1)
def pairsB (ops : Array Oper) : List (Nat × Nat × Oper) → Bool
  | [] => true
  | x :: r => r.all (pairB ops x) && pairsB ops r
/-- Each operation stands behind those that it waits for; the numbers are right. -/
def ordB (ops : Array Oper) : List Nat → List (Nat × Nat × Oper) → Bool
  | _, [] => true
  | done, x :: r => (match ops[x.1]? with
    | some o => o.after.all fun e => !Region.binds .any e || done.contains e.on
    | none => false) && ordB ops (x.1 :: done) r
structure Rem (ops : Array Oper) (l : List (Nat × Nat × Oper)) (listed : Array Bool) : Prop where
  size : listed.size = ops.size
  at_ : ∀ x ∈ l, ops[x.1]? = some x.2.2
  nodup : (l.map (·.1)).Nodup
  un : ∀ i, i < ops.size → (listed.getD i true = false ↔ i ∈ l.map (·.1))
  closed : ∀ j o, ops[j]? = some o → listed.getD j false = true → ∀ e ∈ o.after, Region.binds .any e = true → listed.getD e.on false = true
theorem wl_front : ∀ (l1 : List (Nat × Nat × Oper)) {y : Nat × Nat × Oper} {l2 : List (Nat × Nat × Oper)} {a : Act} {w : World}, Inv w → (∀ x ∈ l1, x.2.2.apart ops y.2.2 = true ∧ mayB x.2.1 y.2.1 = true) → (∀ x ∈ l1, ∀ cs b, x.2.2.op ≠ .select cs b) → (∀ cs b, y.2.2.op ≠ .select cs b) →
    wl P ops Inv Q (l1 ++ y :: l2) a w → SG P ops Inv y.2.1 y.2.2 a w (wl P ops Inv Q (l1 ++ l2))
  | [], y, l2, a, w, _, _, _, _, h => h
  | x :: r, y, l2, a, w, hi, hp, hs, hy, h => by
    have h1 := h.mono (K' := fun a w => SG P ops Inv y.2.1 y.2.2 a w (wl P ops Inv Q (r ++ l2))) hi (fun a' w' hi' hh => wl_front r hi' (fun z hz => hp z (List.mem_cons_of_mem _ hz)) (fun z hz => hs z (List.mem_cons_of_mem _ hz)) hy hh)
    have := hp x List.mem_cons_self
    exact SG.swap (hs x List.mem_cons_self) hy this.1 this.2 hi h1
theorem pairs_mid : ∀ (l1 : List (Nat × Nat × Oper)) {y : Nat × Nat × Oper} {l2 : List (Nat × Nat × Oper)}, pairsB ops (l1 ++ y :: l2) = true → (∀ x ∈ l1, pairB ops x y = true) ∧ pairsB ops (l1 ++ l2) = true
  | [], y, l2, h => ⟨fun x hx => absurd hx List.not_mem_nil, by
    rw [List.nil_append] at h ⊢
    unfold pairsB at h
    exact and_r h⟩
  | x :: r, y, l2, h => by
    simp only [List.cons_append, pairsB, Bool.and_eq_true] at h ⊢
    obtain ⟨h1, h2⟩ := pairs_mid r h.2
    have h3 := List.all_eq_true.1 h.1
    refine ⟨fun z hz => ?_, List.all_eq_true.2 fun z hz => h3 z ?_, h2⟩
    · rcases List.mem_cons.1 hz with rfl | hz
      · exact h3 y (by simp)
      · exact h1 z hz
    · rcases List.mem_append.1 hz with hz | hz
      · exact List.mem_append_left _ hz
      · exact List.mem_append_right _ (List.mem_cons_of_mem _ hz)
theorem getD_ft {listed : Array Bool} {i : Nat} (h : listed.getD i true = false) : listed.getD i false = false := by
  rcases Nat.lt_or_ge i listed.size with h' | h'
  · simp [h'] at h ⊢; exact h
  · simp [Array.getElem?_eq_none h'] at h
theorem wl_any (hsel : Region.noSelect ops = true) : ∀ (m : Nat) (l : List (Nat × Nat × Oper)) (listed : Array Bool) (a : Act) (w : World), l.length ≤ m → Rem ops l listed → (l = [] ∨ ∃ x ∈ l, x.1 ∈ Region.ready .any ops listed) →
    (∀ (l' : List (Nat × Nat × Oper)) (listed' : Array Bool), List.Sublist l' l → Rem ops l' listed' → l' = [] ∨ ∃ x ∈ l', x.1 ∈ Region.ready .any ops listed') →
    pairsB ops l = true → Inv w → wl P ops Inv Q l a w → wpAny P .any ops Q m listed a w
  | 0, l, listed, a, w, hm, hr, _, _, _, _, h => by
    have hl : l = [] := List.eq_nil_of_length_eq_zero (by omega)
    subst hl
    refine ⟨List.eq_nil_iff_forall_not_mem.2 fun i hi => ?_, h⟩
    obtain ⟨h1, o, ho, _⟩ := mem_ready.1 hi
    have := (hr.un i (Array.getElem?_eq_some_iff.1 ho).1).1 h1
    cases this
  | m + 1, l, listed, a, w, hm, hr, hne, hsub, hp, hi, h => by
    refine ⟨fun h0 => ?_, fun i hir => ?_⟩
    · rcases hne with rfl | ⟨x, _, hx⟩
      · exact h
      · rw [h0] at hx; cases hx
    · obtain ⟨h1, o, ho, hall⟩ := mem_ready.1 hir
      have hlt := (Array.getElem?_eq_some_iff.1 ho).1
      obtain ⟨y, hy, hyi⟩ := List.mem_map.1 ((hr.un i hlt).1 h1)
      obtain ⟨l1, l2, rfl⟩ := List.append_of_mem hy
      have hyo : y.2.2 = o := by have := hr.at_ y hy; rw [hyi, ho] at this; exact (Option.some.inj this).symm
      obtain ⟨hp1, hp2⟩ := pairs_mid l1 hp
      have hun : ∀ x ∈ l1, listed.getD x.1 false = false := fun x hx => by
        have hxm : x ∈ l1 ++ y :: l2 := List.mem_append_left _ hx
        have hxl := (Array.getElem?_eq_some_iff.1 (hr.at_ x hxm)).1
        exact getD_ft ((hr.un x.1 hxl).2 (List.mem_map.2 ⟨x, hxm, rfl⟩))
      have hf := wl_front (P := P) (Q := Q) l1 (l2 := l2) (y := y) (a := a) (w := w) hi (fun x hx => by
        have h2 := hp1 x hx
        unfold pairB at h2
        simp only [Bool.or_eq_true, Bool.and_eq_true] at h2
        rcases h2 with h2 | h2
        · have h3 := anc_listed hr.closed ops.size y.1 x.1 (fun o' ho' e he hb => by
            rw [hyi, ho] at ho'; cases ho'; exact hall e he hb) h2
          rw [hun x hx] at h3; cases h3
        · exact h2) (fun x hx cs b => Region.noSelect_spec hsel x.1 _ cs b (hr.at_ x (List.mem_append_left _ hx))) (fun cs b => Region.noSelect_spec hsel y.1 _ cs b (hr.at_ y hy)) h
      rw [hyo] at hf
      have hsubl : List.Sublist (l1 ++ l2) (l1 ++ y :: l2) := List.Sublist.append (List.Sublist.refl _) (List.sublist_cons_self ..)
      have hrem : Rem ops (l1 ++ l2) (listed.setIfInBounds i true) := by
        refine ⟨by simp [hr.size], fun x hx => hr.at_ x (hsubl.mem hx), (hsubl.map _).nodup hr.nodup, fun j hj => ?_, fun j o' ho' hl e he hb => ?_⟩
        · have hnd := hr.nodup
          rw [List.map_append, List.map_cons] at hnd
          have hni : i ∉ (l1 ++ l2).map (·.1) := by
            rw [List.map_append, ← hyi]
            intro hmem
            have h5 := List.nodup_append.1 hnd
            rcases List.mem_append.1 hmem with h6 | h6
            · exact h5.2.2 _ h6 _ List.mem_cons_self rfl
            · exact (List.nodup_cons.1 h5.2.1).1 h6
          by_cases hji : j = i
          · subst hji
            have : j < listed.size := by rw [hr.size]; exact hj
            constructor
            · intro h5; simp [this] at h5
            · intro h5; exact absurd h5 hni
          · rw [getD_set_ne true (fun e => hji e.symm), hr.un j hj]
            simp only [List.map_append, List.map_cons, List.mem_append, List.mem_cons, hyi]
            constructor
            · rintro (h6 | h6 | h6)
              · exact .inl h6
              · exact absurd h6 hji
              · exact .inr h6
            · rintro (h6 | h6)
              · exact .inl h6
              · exact .inr (.inr h6)
        · by_cases hji : j = i
          · subst hji
            rw [ho] at ho'; cases ho'
            exact getD_set_true (hall e he hb)
          · rw [getD_set_ne false (fun e => hji e.symm)] at hl
            exact getD_set_true (hr.closed j o' ho' hl e he hb)
      have hst := SG.dg (Q := Q) hi (hf.mono (K' := wpAny P .any ops Q m (listed.setIfInBounds i true)) hi (fun a' w' hi' hh =>
        wl_any hsel m (l1 ++ l2) _ a' w' (by simp at hm ⊢; omega) hrem (hsub _ _ hsubl hrem) (fun l' listed' hs' hr' => hsub l' listed' (hs'.trans hsubl) hr') hp2 hi' hh))
      unfold DG at hst
      unfold wpOp
      rw [ho]
      simp only []
      split
      · rename_i hw
        rw [if_pos hw] at hst
        exact .inl hst
      · rename_i hw
        rw [if_neg hw] at hst
        exact hst
/-- The first of what is left is ready. -/
theorem ord_ready : ∀ (l0 : List (Nat × Nat × Oper)) (done : List Nat), ordB ops done l0 = true → ∀ (l' : List (Nat × Nat × Oper)) (listed : Array Bool), List.Sublist l' l0 → Rem ops l' listed → (∀ j ∈ done, listed.getD j false = true) → (∀ x ∈ l0, x ∉ l' → listed.getD x.1 false = true) → l' = [] ∨ ∃ x ∈ l', x.1 ∈ Region.ready .any ops listed
  | [], done, _, l', listed, hs, _, _, _ => .inl (List.sublist_nil.1 hs)
  | x :: r, done, ho, l', listed, hs, hr, hd, hl => by
    simp only [ordB, Bool.and_eq_true] at ho
    by_cases hx : x ∈ l'
    · refine .inr ⟨x, hx, mem_ready.2 ?_⟩
      have hox := hr.at_ x hx
      have hlt := (Array.getElem?_eq_some_iff.1 hox).1
      refine ⟨(hr.un x.1 hlt).2 (List.mem_map.2 ⟨x, hx, rfl⟩), x.2.2, hox, fun e he hb => ?_⟩
      have h1 := ho.1
      rw [hox] at h1
      have h2 := Array.all_eq_true_iff_forall_mem.1 h1 e he
      rw [hb] at h2
      exact hd _ (by simpa using h2)
    · have hs' : List.Sublist l' r := by
        cases hs with
        | cons _ h => exact h
        | cons_cons _ h => exact absurd List.mem_cons_self hx
      refine ord_ready r (x.1 :: done) ho.2 l' listed hs' hr (fun j hj => ?_) (fun z hz hn => hl z (List.mem_cons_of_mem _ hz) hn)
      rcases List.mem_cons.1 hj with rfl | hj
      · exact hl x List.mem_cons_self hx
      · exact hd j hj
/-- The numbers of a list: each operation once. -/
def allB (ops : Array Oper) (l : List Nat) : Bool := decide l.Nodup && (List.range ops.size).all (l.contains ·) && l.all (fun i => Nat.blt i ops.size)
def mk3 (l : List Oper) : List (Nat × Nat) → List (Nat × Nat × Oper)
  | [] => []
  | (i, k) :: r => match l[i]? with
    | some o => (i, k, o) :: mk3 l r
    | none => mk3 l r
theorem mk3_at (l : List Oper) : ∀ (ks : List (Nat × Nat)) x, x ∈ mk3 l ks → l[x.1]? = some x.2.2
  | [], x, h => by cases h
  | (i, k) :: r, x, h => by
    unfold mk3 at h
    split at h
    · rename_i o ho
      rcases List.mem_cons.1 h with rfl | h
      · exact ho
      · exact mk3_at l r x h
    · exact mk3_at l r x h
theorem mk3_map (l : List Oper) : ∀ (ks : List (Nat × Nat)), (ks.all fun p => Nat.blt p.1 l.length) = true → (mk3 l ks).map (·.1) = ks.map (·.1)
  | [], _ => rfl
  | (i, k) :: r, h => by
    simp only [List.all_cons, Bool.and_eq_true] at h
    have hi : i < l.length := by simpa using h.1
    unfold mk3
    rw [List.getElem?_eq_getElem hi]
    simp only [List.map_cons, mk3_map l r h.2]
def fitB (l : List Oper) (ks : List (Nat × Nat)) : Bool :=
  Region.noSelect l.toArray && (ks.all fun p => Nat.blt p.1 l.length) && decide (ks.map (·.1)).Nodup && ((List.range l.length).all fun i => (ks.map (·.1)).contains i) && pairsB l.toArray (mk3 l ks) && ordB l.toArray [] (mk3 l ks)
theorem wp_fit {id : Nat} {l : List Oper} {a : Act} {w : World} (ks : List (Nat × Nat)) (Inv : World → Prop) (hm : P.follows .mixedOrders = true) (hB : fitB l ks = true) (hi : Inv w.drew)
    (h : wl P l.toArray Inv Q (mk3 l ks) a w.drew) : (Code.region id l.toArray true).wp P Q a w := by
  simp only [fitB, Bool.and_eq_true] at hB
  obtain ⟨⟨⟨⟨⟨hsel, hlt⟩, hnd⟩, hall⟩, hpr⟩, hord⟩ := hB
  have hmap := mk3_map l ks hlt
  have hlen : (mk3 l ks).length = ks.length := by have := congrArg List.length hmap; simpa using this
  have hnd' : (ks.map (·.1)).Nodup := of_decide_eq_true hnd
  have hle : ks.length ≤ l.length := by
    have h1 : (ks.map (·.1)).length ≤ (List.range l.length).length := List.Nodup.length_le_of_subset hnd' (fun i hi => by
      obtain ⟨p, hp, rfl⟩ := List.mem_map.1 hi
      have := List.all_eq_true.1 hlt p hp
      exact List.mem_range.2 (by simpa using this))
    simpa using h1
  have hmem : ∀ i, i < l.length → i ∈ (mk3 l ks).map (·.1) := fun i hi => by
    rw [hmap]
    have := List.all_eq_true.1 hall i (List.mem_range.2 hi)
    simpa using this
  have gf : ∀ j, (Array.replicate l.toArray.size false).getD j false = false := fun j => by
    rcases Nat.lt_or_ge j l.toArray.size with h | h <;> simp [Array.getD]
  have hrem : Rem l.toArray (mk3 l ks) (Array.replicate l.toArray.size false) := by
    refine ⟨by simp, fun x hx => by simpa using mk3_at l ks x hx, by rw [hmap]; exact hnd', fun i hi => ⟨fun _ => hmem i (by simpa using hi), fun _ => by have hi' : i < l.length := by { simpa using hi }; simp [hi']⟩, fun j o _ hl => by rw [gf] at hl; cases hl⟩
  have hsub : ∀ (l' : List (Nat × Nat × Oper)) (listed' : Array Bool), List.Sublist l' (mk3 l ks) → Rem l.toArray l' listed' → l' = [] ∨ ∃ x ∈ l', x.1 ∈ Region.ready .any l.toArray listed' := by
    intro l' listed' hs hr
    refine ord_ready (mk3 l ks) [] hord l' listed' hs hr (fun j hj => by cases hj) (fun x hx hn => ?_)
    have hxo : l.toArray[x.1]? = some x.2.2 := by simpa using mk3_at l ks x hx
    have hxl := (Array.getElem?_eq_some_iff.1 hxo).1
    have hxs : x.1 < listed'.size := by rw [hr.size]; exact hxl
    cases hq : listed'.getD x.1 true with
    | true => simp [hxs] at hq ⊢; exact hq
    | false =>
      obtain ⟨y, hy, hyx⟩ := List.mem_map.1 ((hr.un x.1 hxl).1 hq)
      have hyo := hr.at_ y hy
      have hym := hs.mem hy
      -- one number, one place
      have : y = x := by
        have h1 : ∀ {L : List (Nat × Nat × Oper)}, (L.map (·.1)).Nodup → x ∈ L → y ∈ L → y.1 = x.1 → y = x := by
          intro L
          induction L with
          | nil => intro _ h; cases h
          | cons z r ih =>
            intro hn h3 h4 h5
            rw [List.map_cons, List.nodup_cons] at hn
            rcases List.mem_cons.1 h3 with rfl | h3 <;> rcases List.mem_cons.1 h4 with h4 | h4
            · exact h4
            · exact absurd (List.mem_map.2 ⟨y, h4, h5⟩) hn.1
            · rw [h4] at h5; exact absurd (List.mem_map.2 ⟨x, h3, h5.symm⟩) hn.1
            · exact ih hn.2 h3 h4 h5
        exact h1 (by rw [hmap]; exact hnd') hx hym hyx
      subst this
      exact absurd hy hn
  refine wp_region_any hm ?_
  exact wl_any hsel _ (mk3 l ks) _ a _ (by rw [hlen]; simpa using hle) hrem (hsub _ _ (List.Sublist.refl _) hrem) hsub hpr hi h
end
end Go.Proofs.Gw
