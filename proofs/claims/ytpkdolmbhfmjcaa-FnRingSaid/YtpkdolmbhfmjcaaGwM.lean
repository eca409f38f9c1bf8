/- Structs of plain leaves that are compared. -/
import Derived.Test.YtpkdolmbhfmjcaaGwL
import Derived.Laws.StructEq
set_option linter.unusedVariables false
set_option linter.unusedSimpArgs false
set_option linter.unusedSectionVars false
namespace Go.Proofs.Gw
open Go.RowKit
def fkind (P : Program) (t : TypeId) : Nat := match P.underlying t with
  | some (.int _) => 1
  | some .bool => 2
  | some .string => 3
  | _ => 0
def leafOk : Nat → Value → Value → Bool
  | 1, .int k _, .int k' _ => decide (k = k')
  | 2, .bool _, .bool _ => true
  | 3, .string _, .string _ => true
  | _, _, _ => false
def leafEq : Value → Value → Bool
  | .int _ a, .int _ b => decide (a = b)
  | .bool a, .bool b => a == b
  | .string a, .string b => decide (a.data.toList = b.data.toList)
  | _, _ => false
def leavesEq : List Value → List Value → Bool
  | [], [] => true
  | a :: r, b :: s => leafEq a b && leavesEq r s
  | _, _ => false
theorem ix_set_self {α : Type} [Inhabited α] {xs : List α} {i : Int} {x : α} (h0 : 0 ≤ i) (h1 : i < xs.length) : ix (xs.set i.toNat x) i = x := by
  have h2 : i.toNat < xs.length := by omega
  simp [ix, List.getD_eq_getElem?_getD, h2]
/-- Fields of plain leaves, one a cell, in order. -/
def plainF (P : Program) : Nat → List Field → List Nat → Bool
  | _, [], [] => true
  | o, f :: fs, k :: ks => !(f.name == "_") && (Nat.beq f.offset o && (Nat.beq (fkind P f.type) k && (Nat.blt 0 k && plainF P (o + 1) fs ks)))
  | _, _, _ => false
def okAll : List Nat → List Value → List Value → Bool
  | [], [], [] => true
  | k :: ks, a :: r, b :: s => leafOk k a b && okAll ks r s
  | _, _, _ => false
section
variable {P : Program} {o : Oper} {ρ : Operand → Value} {w : World} {x y : Operand} {t t' : TypeId}
theorem run_leafEq {d k : Nat} {a b : Value} {ft : TypeId} (hk : fkind P ft = k) (h : leafOk k a b = true) : (Op.equalIn (d + 1) ft a b).run P w = .ok (leafEq a b) w := by
  unfold fkind at hk
  split at hk
  · rename_i q hu
    subst hk
    unfold leafOk at h
    split at h <;> first | (cases h; done) | skip
    all_goals first
      | (rename_i h1; simp at h1; done)
      | skip
    · rename_i k a k' b heq
      simp only [decide_eq_true_eq] at h
      subst h
      simp only [Op.equalIn, Sem.run_bind, run_underlying hu, Result.andThen_ok]
      simp [leafEq]
      rfl
    all_goals (rename_i h1; cases h1)
  · rename_i hu
    subst hk
    unfold leafOk at h
    split at h
    all_goals first
      | (rename_i h1; cases h1; done)
      | (cases h; done)
      | skip
    simp only [Op.equalIn, Sem.run_bind, run_underlying hu, Result.andThen_ok]
    simp [leafEq]
  · rename_i hu
    subst hk
    unfold leafOk at h
    split at h
    all_goals first
      | (rename_i h1; cases h1; done)
      | (cases h; done)
      | skip
    rename_i s1 s2 _
    simp only [Op.equalIn, Sem.run_bind, run_underlying hu, Result.andThen_ok]
    have : (s1 == s2) = decide (s1.data.toList = s2.data.toList) := by
      have h1 : ∀ q : ByteArray, q.toList = q.data.toList := fun q => ByteArray.toList_eq q
      rw [beq_toListBytes, h1, h1, Bool.eq_iff_iff]
      simp
    rw [this]; rfl
  · subst hk
    cases a <;> cases b <;> cases h
theorem run_eqFields {d : Nat} : ∀ (fs : List Field) (ks : List Nat) (off : Nat) (pa pb a b : List Value), pa.length = off → pb.length = off → plainF P off fs ks = true → okAll ks a b = true →
    (Op.eqFields (d + 1) (pa ++ a).toArray (pb ++ b).toArray fs).run P w = .ok (leavesEq a b) w
  | [], ks, off, pa, pb, a, b, _, _, hf, hk => by
    cases ks with
    | cons k ks => cases hf
    | nil =>
      cases a with
      | cons u a => cases hk
      | nil => cases b with
        | cons u b => cases hk
        | nil => simp [Op.eqFields, leavesEq]
  | f :: fs, ks, off, pa, pb, a, b, h1, h2, hf, hk => by
    cases ks with
    | nil => cases hf
    | cons k ks =>
      cases a with
      | nil => cases hk
      | cons u a => cases b with
        | nil => cases hk
        | cons v b =>
          simp only [plainF, Bool.and_eq_true, Bool.not_eq_true'] at hf
          obtain ⟨hn, ho, hkk, hpos, hr⟩ := hf
          simp only [okAll, Bool.and_eq_true] at hk
          have hkk' := Nat.eq_of_beq_eq_true hkk
          have ho' := Nat.eq_of_beq_eq_true ho
          have hn' : f.name ≠ "_" := by simpa using hn
          have hag : (isAgg f.type).run P w = .ok false w := by
            unfold fkind at hkk'
            split at hkk'
            · rename_i q hu; exact run_isAgg hu
            · rename_i hu; exact run_isAgg hu
            · rename_i hu; exact run_isAgg hu
            · subst hkk'; cases hpos
          have hp1 : (part f.type (pa ++ u :: a).toArray f.offset).run P w = .ok u w := by
            simp [part, hag, ho', ← h1]
          have hp2 : (part f.type (pb ++ v :: b).toArray f.offset).run P w = .ok v w := by
            simp [part, hag, ho', ← h2]
          have he := run_leafEq (P := P) (w := w) (d := d) hkk' hk.1
          have ih := run_eqFields (d := d) fs ks (off + 1) (pa ++ [u]) (pb ++ [v]) a b (by simp [h1]) (by simp [h2]) hr hk.2
          simp only [List.append_assoc, List.singleton_append] at ih
          rw [Op.eqFields]
          simp only [if_pos hn', Sem.run_bind, hp1, hp2, he, Result.andThen_ok, leavesEq]
          cases leafEq u v
          · simp
          · simpa using ih
theorem x_aeql {fs : Array Field} {ks : List Nat} {a b : List Value} (ho : o.op = .binOp .eql t x y t') (hu : P.underlying t = some (.struct fs)) (hp : P.stoodInHeld t = false) (hg : P.eqGuardType P.depth t = false) (hf : plainF P 0 fs.toList ks = true) (hx : ρ x = .agg a.toArray) (hy : ρ y = .agg b.toArray) (hk : okAll ks a b = true) :
    (execOp ρ o).run P w = .ok (.value (.bool (leavesEq a b))) w := by
  have h0 : P.fieldsOf t = fs := by simp [Program.fieldsOf, hu]
  have h1 : (Op.equalIn 10000 t (.agg a.toArray) (.agg b.toArray)).run P w = .ok (leavesEq a b) w := by
    rw [run_equalIn_struct (P := P) w 9999 t a.toArray b.toArray (by rw [h0]; exact hu) hp, h0]
    exact run_eqFields (d := 9998) fs.toList ks 0 [] [] a b rfl rfl hf hk
  have h2 : (Op.equal t (.agg a.toArray) (.agg b.toArray)).run P w = .ok (leavesEq a b) w := h1
  have h3 : (binOp .eql t (.agg a.toArray) (.agg b.toArray)).run P w = .ok (.bool (leavesEq a b)) w := by
    simp only [binOp, Sem.run_bind, h2, Result.andThen_ok, Sem.run_pure]
  simp only [execOp, ho, hx, hy, eqGuard, Sem.run_bind, Sem.run_pure, Result.andThen_ok, h3]
  simp [h3, hg]
theorem x_aneq {fs : Array Field} {ks : List Nat} {a b : List Value} (ho : o.op = .binOp .neq t x y t') (hu : P.underlying t = some (.struct fs)) (hp : P.stoodInHeld t = false) (hg : P.eqGuardType P.depth t = false) (hf : plainF P 0 fs.toList ks = true) (hx : ρ x = .agg a.toArray) (hy : ρ y = .agg b.toArray) (hk : okAll ks a b = true) :
    (execOp ρ o).run P w = .ok (.value (.bool (!leavesEq a b))) w := by
  have h0 : P.fieldsOf t = fs := by simp [Program.fieldsOf, hu]
  have h1 : (Op.equalIn 10000 t (.agg a.toArray) (.agg b.toArray)).run P w = .ok (leavesEq a b) w := by
    rw [run_equalIn_struct (P := P) w 9999 t a.toArray b.toArray (by rw [h0]; exact hu) hp, h0]
    exact run_eqFields (d := 9998) fs.toList ks 0 [] [] a b rfl rfl hf hk
  have h2 : (Op.equal t (.agg a.toArray) (.agg b.toArray)).run P w = .ok (leavesEq a b) w := h1
  have h3 : (binOp .neq t (.agg a.toArray) (.agg b.toArray)).run P w = .ok (.bool (!leavesEq a b)) w := by
    simp only [binOp, Sem.run_bind, h2, Result.andThen_ok, Sem.run_pure]
  simp only [execOp, ho, hx, hy, eqGuard, Sem.run_bind, Sem.run_pure, Result.andThen_ok, h3]
  simp [h3, hg]
theorem x_eqb {p q : Bool} {w' : World} (h : p = q) (he : (execOp ρ o).run P w = .ok (.value (.bool p)) w') : (execOp ρ o).run P w = .ok (.value (.bool q)) w' := h ▸ he
end
end Go.Proofs.Gw
