/- Operations that make memory: append, literals, make, conversions. -/
import Derived.Test.YtpkdolmbhfmjcaaGwD
import Derived.IntWalk
import Derived.Laws.BytesArg
import Derived.Lib.ConvBytes
set_option linter.unusedVariables false
set_option linter.unusedSimpArgs false
set_option linter.unusedSectionVars false
namespace Go.Proofs.Gw
open Go.RowKit
section
variable {P : Program} {o : Oper} {ρ : Operand → Value} {w w0 w' : World} {x y z : Operand} {v u : Value} {t t' e : TypeId} {L : List Hp} {k k' T : Nat} {ik : IntKind} {α : Type} {d : FK α} {xs ys : List α} {h hS : Hp} {i : Int} {sz bytes n : Nat} {zv : Value} {ad : Addr}
/-- append(v, ys...) -/
theorem e_append (ho : o.op = .call { callee := .builtin .append, args := #[x, y], argTypes := #[t, t] }) (ht : SliceTy P t e d.sz bytes zv) (hz : zv.cells.size = d.sz) (hx : ρ x = v) (hy : ρ y = u)
    (hO : OwF e d v xs h) (hk : L[k]? = some h) (hr : RdF w0 d u ys hS) (hs : Sub hS (cat L)) (hm : Mem w0 w (cat L)) (hl : (xs.length + ys.length) * bytes ≤ 140737488355328) (h63 : xs.length + ys.length ≤ 9223372036854775807) :
    ∃ (p : Value × Hp) (w' : World), (execOp ρ o).run P w = .ok (.value p.1) w' ∧ (OwF e d p.1 (xs ++ ys) p.2 ∧ Mem w0 w' (cat (L.set k p.2))) := by
  obtain ⟨A, c, rfl, _, hn⟩ := hr
  obtain ⟨p, w', hrun, ⟨ys', he, hO'⟩, hm'⟩ := run_append (P := P) (u := .slice A ys.length c) (m := ys.length) (news := encs d ys) (xt := t) (.inl ht.un) ht hz hO hk hm (by simp [Builtin.lenOf])
    (fun w1 hw1 => run_first (encs_len d ys) (fun hp => by
      obtain ⟨ad, ha, hcell⟩ := hn hp
      exact ⟨ad, ha, fun j u hu => by rw [hw1]; exact (hcell j u hu).now hm hs⟩)) ⟨ys, rfl, rfl, hl, h63⟩ o.type
  have hys : encs d (xs ++ ys') = encs d (xs ++ ys) := by rw [encs_append, encs_append, he]
  have hlen : ys'.length = ys.length := by
    have h1 : (encs d ys).length = (encs d ys').length := by rw [he]
    rw [encs_len, encs_len] at h1
    exact (Nat.eq_of_mul_eq_mul_right d.pos h1).symm
  refine ⟨p, w', ?_, ?_, hm'⟩
  · simp [execOp, ho, resolve, invoke, builtin, hx, hy, hrun]
  · rcases hO' with ⟨h1, h2, h3⟩ | ⟨g, cap, fr, pre, post, h1, h2, h3, h4, h5⟩
    · left
      have : xs = [] ∧ ys' = [] := by simpa using h2
      have hy0 : ys = [] := List.eq_nil_of_length_eq_zero (by rw [← hlen, this.2]; rfl)
      exact ⟨h1, by rw [this.1, hy0]; rfl, h3⟩
    · right
      have hll : (xs ++ ys').length = (xs ++ ys).length := by simp [hlen]
      exact ⟨g, cap, fr, pre, post, by rw [h1, hll], by rw [h2, hys], by rw [← hll]; exact h3, h4, by rw [← hll]; exact h5⟩
/-- append([]byte, string...) -/
def sBytes (s : List UInt8) : List Int := s.map fun c => (c.toNat : Int)
theorem encs_bytes (s : List UInt8) : encs (FK.int .u8) (sBytes s) = s.map fun c => Value.int .u8 (c.toNat : Int) := by
  induction s with
  | nil => rfl
  | cons c r ih => simp only [encs, sBytes, List.map_cons, List.flatMap_cons] at ih ⊢; rw [ih]; rfl
theorem e_appends {xs : List Int} {s : List UInt8} (ho : o.op = .call { callee := .builtin .append, args := #[x, y], argTypes := #[t, t'] }) (ht : SliceTy P t e 1 1 (.int .u8 0)) (hu : P.underlying t' = some .string) (hx : ρ x = v) (hy : ρ y = S s)
    (hO : OwF e (FK.int .u8) v xs h) (hk : L[k]? = some h) (hm : Mem w0 w (cat L)) (hl : xs.length + s.length ≤ 140737488355328) :
    ∃ (p : Value × Hp) (w' : World), (execOp ρ o).run P w = .ok (.value p.1) w' ∧ (OwF e (FK.int .u8) p.1 (xs ++ sBytes s) p.2 ∧ Mem w0 w' (cat (L.set k p.2))) := by
  obtain ⟨p, w', hrun, ⟨ys', he, hO'⟩, hm'⟩ := run_append (P := P) (d := FK.int .u8) (u := S s) (m := s.length) (news := encs (FK.int .u8) (sBytes s)) (xt := t') (.inr hu) ht rfl hO hk hm (by simp [Builtin.lenOf, S, size_mk])
    (fun w1 hw1 => by
      have : (ByteArray.mk (Array.mk s)).extract 0 s.length = ⟨⟨s⟩⟩ := by rw [extract_mk]; simp
      simp [Builtin.firstCells, S, this, encs_bytes]) ⟨sBytes s, rfl, by simp [sBytes], by omega, by omega⟩ o.type
  have hy' : ys' = sBytes s := by
    have h1 : ∀ a b : List Int, encs (FK.int .u8) a = encs (FK.int .u8) b → a = b := by
      intro a
      induction a with
      | nil => intro b hb; cases b with
        | nil => rfl
        | cons q r => simp [encs, FK.int] at hb
      | cons q r ih => intro b hb; cases b with
        | nil => simp [encs, FK.int] at hb
        | cons q' r' =>
          simp only [encs, List.flatMap_cons, FK.int, List.singleton_append, List.cons.injEq, Value.int.injEq, true_and] at hb
          rw [hb.1, ih r' hb.2]
    exact (h1 _ _ he).symm
  subst hy'
  exact ⟨p, w', by simp [execOp, ho, resolve, invoke, builtin, hx, hy, hrun], hO', hm'⟩
/-- A slice literal whose cells are told. -/
theorem e_lit {cells : List Value} {parts : Array (Nat × Operand)} (ho : o.op = .buildSlice t n parts) (ht : SliceTy P t e sz bytes zv) (hp : ∀ w1 : World, (Instr.buildSlice t n (parts.map fun (i, x) => (i, ρ x))).run P w1 = .ok (.slice (some ⟨w1.heap.size, 0, none⟩) n n) (w1.alloc (.cells cells.toArray e))) (hm : Mem w0 w (cat L)) :
    ∃ (g : Nat) (w' : World), (execOp ρ o).run P w = .ok (.value (.slice (some ⟨g, 0, none⟩) n n)) w' ∧ Mem w0 w' (cat (sg g e (0, 0) [] cells [] :: L)) := by
  refine ⟨w.heap.size, _, ?_, hm.alloc e cells⟩
  simp only [execOp, ho, Sem.run_bind, hp w, Result.andThen_ok, Sem.run_pure]
theorem run_bslice {cells : List Value} {ps : Array (Nat × Value)} {zc : List Value} (ht : SliceTy P t e sz bytes zv) (hz : zv.cells = zc.toArray) (hb : decide (n * sz ≤ 2 ^ 24) = true) (hf : Instr.fill (fun i => some (i * sz, sz)) ((Array.range (n * sz)).map (zc.toArray[· % zc.toArray.size]!)) ps.toList = some cells.toArray)
    (hn : n * sz ≠ 0) : (Instr.buildSlice t n ps).run P w = .ok (.slice (some ⟨w.heap.size, 0, none⟩) n n) (w.alloc (.cells cells.toArray e)) := by
  obtain ⟨i0, hi1, hi2⟩ := Option.map_eq_some_iff.1 ht.2
  simp only [Prod.mk.injEq] at hi2
  obtain ⟨hi3, hi4, hi5⟩ := hi2
  have hb' : ¬ (n * sz > 2 ^ 24) := by have := of_decide_eq_true hb; omega
  unfold Instr.buildSlice
  simp only [Sem.run_bind, run_underlying ht.un, Result.andThen_ok, run_sizeOf ht.size, if_neg hb', if_neg hn, zeroValue, typeInfo, run_program, hi1, hi3, Sem.run_pure, hz, hf, newRow, newObj]
  rfl
theorem run_bslice0 (ht : SliceTy P t e sz bytes zv) : (Instr.buildSlice t 0 #[]).run P w = .ok (.slice (some ⟨w.heap.size, 0, none⟩) 0 0) (w.alloc (.cells ([] : List Value).toArray e)) := by
  obtain ⟨i0, hi1, hi2⟩ := Option.map_eq_some_iff.1 ht.2
  simp only [Prod.mk.injEq] at hi2
  obtain ⟨hi3, hi4, hi5⟩ := hi2
  simp [Instr.buildSlice, run_underlying ht.un, sizeOf, typeInfo, hi1, hi4, Instr.fill, newRow]
  have : (Array.range 0).map (fun _ : Nat => (default : Value)) = #[] := by simp
  rw [this]
/-- A struct literal. -/
theorem x_build {fields : Array Field} {parts : Array (Nat × Operand)} {cells : List Value} {zc : List Value} {sizes : List (Nat × Nat)} (ho : o.op = .build t parts) (hz : ZeroTy P t zv) (hzc : zv.cells = zc.toArray) (hu : P.underlying t = some (.struct fields))
    (hs : (fields.toList.map fun f => (f.offset, ((P.info? f.type).map (·.size)))) = sizes.map fun p => (p.1, some p.2)) {ps : List (Nat × Value)} (hps : (parts.map fun (i, x) => (i, ρ x)) = ps.toArray)
    (hf : Instr.fill (sizes[·]?) zc.toArray ps = some cells.toArray) : (execOp ρ o).run P w = .ok (.value (.agg cells.toArray)) w := by
  obtain ⟨i0, hi1, hi2⟩ := Option.map_eq_some_iff.1 hz
  have hpl : ∀ (l : List Field) (sizes : List (Nat × Nat)), (l.map fun f => (f.offset, ((P.info? f.type).map (·.size)))) = sizes.map (fun p => (p.1, some p.2)) → (l.mapM fun f => (do pure (f.offset, ← sizeOf f.type) : Sem (Nat × Nat))).run P w = .ok sizes w := by
    intro l
    induction l with
    | nil => intro sizes h; cases sizes with
      | nil => simp
      | cons p r => simp at h
    | cons f r ih => intro sizes h; cases sizes with
      | nil => simp at h
      | cons p q =>
        simp only [List.map_cons, List.cons.injEq, Prod.mk.injEq] at h
        obtain ⟨⟨h1, h2⟩, h3⟩ := h
        rw [List.mapM_cons]
        simp only [Sem.run_bind, run_sizeOf h2, Result.andThen_ok, Sem.run_pure, ih q h3, h1]
  have h1 := hpl fields.toList sizes hs
  have h2 : (fields.mapM fun f => (do pure (f.offset, ← sizeOf f.type) : Sem (Nat × Nat))).run P w = .ok sizes.toArray w := by
    obtain ⟨l⟩ := fields
    rw [List.mapM_toArray]
    simp only [Sem.run_map]
    rw [h1]; rfl
  simp only [execOp, ho, hps, Instr.build, zeroValue, typeInfo, Sem.run_bind, run_program, Result.andThen_ok, hi1, Sem.run_pure, hi2, run_underlying hu, h2, hzc]
  have h3 : Instr.fill (fun x => sizes.toArray[x]?) zc.toArray ps = some cells.toArray := by
    rw [← hf]; simp
  simp only [List.getElem?_toArray] at h3 ⊢
  rw [h3]
  rfl
/-- make([]T, n) -/
theorem encs_rep (d : FK α) (a : α) : ∀ n, encs d (List.replicate n a) = (List.range (n * d.sz)).map (fun j => (d.enc a)[j % d.sz]!)
  | 0 => by simp [encs]
  | n + 1 => by
    have ih := encs_rep d a n
    have h1 : List.replicate (n + 1) a = List.replicate n a ++ [a] := List.replicate_succ'
    rw [h1, encs_append, ih, Nat.succ_mul, List.range_add, List.map_append]
    congr 1
    simp only [encs, List.flatMap_cons, List.flatMap_nil, List.append_nil, List.map_map]
    apply List.ext_getElem
    · simp [d.len]
    · intro j h2 h3
      have hj : j < d.sz := by rwa [d.len] at h2
      simp [Nat.mul_add_mod_of_lt, Nat.mul_comm n, hj, h2]
      rw [Nat.mod_eq_of_lt hj]
      simp [h2]
theorem e_make {a : α} {nn : Int} (ho : o.op = .makeSlice t x y) (ht : SliceTy P t e d.sz bytes zv) (hz : zv.cells = (d.enc a).toArray) (hx : ρ x = .int .i64 nn) (hy : ρ y = .int .i64 nn) (h0 : 0 ≤ nn) (h1 : nn.toNat * bytes ≤ 140737488355328) (h63 : nn ≤ 9223372036854775807) (hm : Mem w0 w (cat L)) :
    ∃ (p : Value × Hp) (w' : World), (execOp ρ o).run P w = .ok (.value p.1) w' ∧ (OwF e d p.1 (List.replicate nn.toNat a) p.2 ∧ Mem w0 w' (cat (p.2 :: L))) := by
  obtain ⟨i0, hi1, hi2⟩ := Option.map_eq_some_iff.1 ht.2
  simp only [Prod.mk.injEq] at hi2
  obtain ⟨hi3, hi4, hi5⟩ := hi2
  obtain ⟨m, rfl⟩ := Int.eq_ofNat_of_zero_le h0
  simp only [Int.toNat_natCast] at h1 ⊢
  have hw : IntKind.i64.wrap (m : Int) = (m : Int) := IntWalk.i64_in _ (by omega)
  have hb : ¬ ((281474976710656 : Int) < (bytes : Int) * (m : Int)) := by
    have : ((m * bytes : Nat) : Int) ≤ 140737488355328 := by omega
    rw [Int.natCast_mul] at this
    have h2 : (m : Int) * (bytes : Int) = (bytes : Int) * (m : Int) := Int.mul_comm _ _
    omega
  have hcells : ((Array.range (m * d.sz)).map ((d.enc a).toArray[· % (d.enc a).toArray.size]!)) = (encs d (List.replicate m a)).toArray := by
    rw [encs_rep]
    apply Array.ext'
    simp [d.len]
  have hcells0 : m * d.sz = 0 → (encs d (List.replicate m a)).toArray = #[] := by
    intro h
    have h2 : m = 0 := by
      rcases Nat.mul_eq_zero.1 h with h | h
      · exact h
      · have := d.pos; omega
    subst h2; rfl
  refine ⟨(.slice (some ⟨w.heap.size, 0, none⟩) m m, sg w.heap.size e (0, 0) [] (encs d (List.replicate m a)) []), _, ?_, OwF.lit _ _ m (by simp) (by simp only [maxLen]; omega), hm.alloc e (encs d (List.replicate m a))⟩
  by_cases hmz : m * d.sz = 0
  · have h5 := hcells0 hmz
    have hm0 : m = 0 := by
      rcases Nat.mul_eq_zero.1 hmz with h | h
      · exact h
      · have := d.pos; omega
    subst hm0
    simp [execOp, ho, hx, hy, Instr.makeSlice, run_underlying ht.un, asInt, asIntOf, typeInfo, hi1, hi5, newRow, sizeOf, encs, IntWalk.i64_in]
    have : (Array.range 0).map (fun _ : Nat => (default : Value)) = #[] := by simp
    rw [this]
  · have hmz' : ¬ (m = 0 ∨ d.sz = 0) := by intro h; rcases h with h | h <;> simp [h] at hmz
    have hneg : ¬ ((m : Int) < 0) := by omega
    simp [execOp, ho, hx, hy, Instr.makeSlice, run_underlying ht.un, asInt, asIntOf, typeInfo, hi1, hi5, newRow, sizeOf, hi4, hw, hb, hneg, if_neg hmz, zeroValue, hi3, hz]
    rw [← hcells]
    simp
/-- string(b), []byte(s) -/
def bStr (xs : List Int) : List UInt8 := xs.map fun n => UInt8.ofNat n.toNat
theorem run_convert_bytes_any (src e : TypeId) (hs : P.underlying src = some (.slice e)) (he : P.underlying e = some (.int .u8)) (a : Addr) (len cap : Nat) (xs : List Int) (hlen : xs.length = len)
    (hcell : ∀ i, i < len → w.cell? (a.add i) = some (.int .u8 (xs.getD i 0))) (dst : TypeId) (hd : P.underlying dst = some .string) : (convert src dst (.slice (some a) len cap)).run P w = .ok (S (bStr xs)) w := by
  have hl : (loadCells a len).run P w = .ok (xs.map (Value.int .u8)).toArray w := by
    have := run_loadCells_list (P := P) w a (xs.map (Value.int .u8)) (fun j v hj => by
      have hjl : j < xs.length := by
        have := (List.getElem?_eq_some_iff.1 hj).1
        simpa using this
      rw [hcell j (by omega)]
      rw [List.getElem?_map, List.getElem?_eq_getElem hjl] at hj
      simp only [Option.map_some, Option.some.injEq] at hj
      rw [← hj, List.getD_eq_getElem?_getD, List.getElem?_eq_getElem hjl]
      rfl)
    rw [List.length_map, hlen] at this
    exact this
  have hgo : ∀ (F : Value → ByteArray → Sem (ForInStep ByteArray)), (∀ n r, F (.int .u8 n) r = pure (ForInStep.yield (r.push (UInt8.ofNat n.toNat)))) → ∀ (l : List Int) (s : ByteArray),
      (forIn (l.map (Value.int .u8)) s F).run P w = .ok (s ++ ⟨⟨bStr l⟩⟩) w := by
    intro F hF l
    induction l with
    | nil => intro s; simp only [List.map_nil, List.forIn_nil, Sem.run_pure]; congr 1; apply ByteArray.ext; simp [bStr]
    | cons n r ih =>
      intro s
      rw [List.map_cons, List.forIn_cons, hF]
      simp only [Sem.run_bind, Sem.run_pure, Result.andThen_ok, ih]
      congr 1
      apply ByteArray.ext
      simp [bStr]
  have h3 : ByteArray.empty ++ (⟨⟨bStr xs⟩⟩ : ByteArray) = ⟨⟨bStr xs⟩⟩ := by apply ByteArray.ext; simp
  simp only [convert, Sem.run_bind, run_underlying hs, run_underlying hd, run_underlying he, Result.andThen_ok, Conv.bytesToString, hl, S]
  rw [← Array.forIn_toList]
  rw [hgo _ (fun n r => rfl), h3]
  rfl
theorem x_bstr {xs : List Int} (ho : o.op = .convert t t' x) (ht : SliceTy P t e 1 1 (.int .u8 0)) (he : P.underlying e = some (.int .u8)) (hu : P.underlying t' = some .string) (hx : ρ x = v) (hr : RdF w0 (FK.int .u8) v xs h) (hm : Mem w0 w (cat L)) (hs : Sub h (cat L)) :
    (execOp ρ o).run P w = .ok (.value (S (bStr xs))) w := by
  obtain ⟨A, c, rfl, hf⟩ := RdF.first (P := P) hr hm hs
  have key : (convert t t' (.slice A xs.length c)).run P w = .ok (S (bStr xs)) w := by
    obtain ⟨A', c', hv, _, hn⟩ := hr
    injection hv with hv1 hv2 hv3
    subst hv1
    rcases Nat.eq_zero_or_pos xs.length with h0 | h0
    · have : xs = [] := List.eq_nil_of_length_eq_zero h0
      subst this
      cases A with
      | none => exact run_convert_bytes_nil (P := P) w t e ht.un he 0 c t' hu
      | some a =>
        have := run_convert_bytes_any (P := P) (w := w) t e ht.un he a 0 c [] rfl (fun i hi => absurd hi (Nat.not_lt_zero i)) t' hu
        exact this
    · obtain ⟨ad, rfl, hcell⟩ := hn h0
      exact run_convert_bytes_any (P := P) (w := w) t e ht.un he ad xs.length c xs rfl (fun i hi => by
        have h1 := (encs_get (FK.int .u8) (List.getElem?_eq_getElem hi) (show 0 < (FK.int .u8).sz from Nat.one_pos))
        have h2 := (hcell (i * 1 + 0) _ (h1.trans rfl)).now hm hs
        rw [List.getD_eq_getElem?_getD, List.getElem?_eq_getElem hi]
        simpa using h2) t' hu
  simp only [execOp, ho, hx, Sem.run_bind, key, Result.andThen_ok, Sem.run_pure]
theorem e_sbytes {s : List UInt8} (ho : o.op = .convert t t' x) (hs : P.underlying t = some .string) (ht : SliceTy P t' e 1 1 (.int .u8 0)) (he : P.underlying e = some (.int .u8)) (hx : ρ x = S s) (hl : s.length ≤ 9223372036854775807) (hm : Mem w0 w (cat L)) :
    ∃ (p : Value × Hp) (w' : World), (execOp ρ o).run P w = .ok (.value p.1) w' ∧ (OwF e (FK.int .u8) p.1 (sBytes s) p.2 ∧ Mem w0 w' (cat (p.2 :: L))) := by
  have hrun := Lib.run_convert_string_bytes (P := P) w t t' e (⟨⟨s⟩⟩ : ByteArray) hs ht.un he
  have hcap := grownCap_ge w s.length 0 e
  have hcap2 : grownCap w s.length 0 e ≤ maxLen := grownCap_le_maxLen w s.length 0 e (by simp only [maxLen]; omega)
  have hlen : (sBytes s).length = s.length := by simp [sBytes]
  have hcells : (Lib.bytesCells w e (⟨⟨s⟩⟩ : ByteArray)).toList = encs (FK.int .u8) (sBytes s) ++ List.replicate (grownCap w s.length 0 e - s.length) (.int .u8 0) := by
    rw [encs_bytes]
    simp [Lib.bytesCells, size_mk]
  have hnew := Lib.bytesWorld_at_new w e (⟨⟨s⟩⟩ : ByteArray)
  refine ⟨(.slice (some ⟨w.heap.size, 0, none⟩) s.length (grownCap w s.length 0 e), [⟨w.heap.size, e, ((Lib.bytesCells w e (⟨⟨s⟩⟩ : ByteArray)).size, (Lib.bytesCells w e (⟨⟨s⟩⟩ : ByteArray)).size + 1), (Lib.bytesCells w e (⟨⟨s⟩⟩ : ByteArray)).toList⟩]), Lib.bytesWorld w e ⟨⟨s⟩⟩, ?_, ?_, ?_⟩
  · simp only [execOp, ho, hx, Sem.run_bind, S, hrun, Result.andThen_ok, Sem.run_pure, size_mk]
  · right
    refine ⟨w.heap.size, grownCap w s.length 0 e, ((Lib.bytesCells w e (⟨⟨s⟩⟩ : ByteArray)).size, (Lib.bytesCells w e (⟨⟨s⟩⟩ : ByteArray)).size + 1), [], List.replicate (grownCap w s.length 0 e - s.length) (.int .u8 0), by rw [hlen]; rfl, ?_, by rw [hlen]; exact hcap, hcap2, by rw [hlen]; simp [FK.int]⟩
    simp only [sg, List.nil_append]
    rw [hcells]
  · have hold : ∀ j, j < w.heap.size → (Lib.bytesWorld w e (⟨⟨s⟩⟩ : ByteArray)).heap[j]? = w.heap[j]? := fun j hj => Lib.bytesWorld_at_old w e _ j hj
    have hsz : (Lib.bytesWorld w e (⟨⟨s⟩⟩ : ByteArray)).heap.size = w.heap.size + 1 := Lib.bytesWorld_size w e _
    have hb : Below w0.heap.size w0 (Lib.bytesWorld w e (⟨⟨s⟩⟩ : ByteArray)) :=
      hm.below.trans ⟨rfl, rfl, rfl, by rw [hsz]; omega, fun j hj => hold j (Nat.lt_of_lt_of_le hj hm.below.size)⟩
    have hm2 := hm.same hb hold
    refine ⟨hb, ?_, ?_⟩
    · simp only [cat, List.singleton_append, List.map_cons]
      refine List.nodup_cons.2 ⟨fun hmem => ?_, hm.nodup⟩
      obtain ⟨c, hc, he⟩ := List.mem_map.1 hmem
      have := hm.lt hc
      omega
    · intro c hc
      rcases List.mem_cons.1 (show c ∈ _ :: cat L from hc) with hc | hc
      · subst hc
        refine ⟨hm.below.size, ?_, .inr ?_⟩
        · simpa using hnew
        · simp
      · exact hm2.at_ c hc
end
end Go.Proofs.Gw
