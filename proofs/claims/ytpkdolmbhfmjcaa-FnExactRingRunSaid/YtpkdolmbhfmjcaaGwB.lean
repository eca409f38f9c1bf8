/- What one operation comes to, where it asks nothing of memory. -/
import Derived.Test.YtpkdolmbhfmjcaaGwA
import Derived.WalkLawsBesides
set_option linter.unusedVariables false
set_option linter.unusedSimpArgs false
set_option linter.unusedSectionVars false
namespace Go.Proofs.Gw
open Go.RowKit

def S (l : List UInt8) : Value := .string ⟨⟨l⟩⟩
def bAnd (k : IntKind) (a b : Int) : Int := k.wrap ((BitVec.ofInt k.bits a &&& BitVec.ofInt k.bits b).toNat : Int)
def bOr (k : IntKind) (a b : Int) : Int := k.wrap ((BitVec.ofInt k.bits a ||| BitVec.ofInt k.bits b).toNat : Int)
def bXor (k : IntKind) (a b : Int) : Int := k.wrap ((BitVec.ofInt k.bits a ^^^ BitVec.ofInt k.bits b).toNat : Int)
def bShl (k : IntKind) (a b : Int) : Int := k.wrap (a * 2 ^ (min b.toNat k.bits))
def bShr (k : IntKind) (a b : Int) : Int := a.fdiv (2 ^ (min b.toNat k.bits))
def iMax (a b : Int) : Int := if b > a then b else a
def iMin (a b : Int) : Int := if b < a then b else a

section
variable {P : Program} {o : Oper} {ρ : Operand → Value} {w : World} {x y z : Operand} {v : Value} {k : IntKind} {a b : Int} {t t' : TypeId}
theorem x_move (ho : o.op = .move x) (hx : ρ x = v) : (execOp ρ o).run P w = .ok (.value v) w := by simp [execOp, ho, hx]
theorem x_assign (ho : o.op = .assign x) (hx : ρ x = v) : (execOp ρ o).run P w = .ok (.value v) w := by simp [execOp, ho, hx]
theorem x_pick_t (ho : o.op = .pick x y z) (hx : ρ x = .bool true) (hy : ρ y = v) : (execOp ρ o).run P w = .ok (.value v) w := by simp [execOp, ho, hx, hy, asBool]
theorem x_pick_f (ho : o.op = .pick x y z) (hx : ρ x = .bool false) (hz : ρ z = v) : (execOp ρ o).run P w = .ok (.value v) w := by simp [execOp, ho, hx, hz, asBool]
theorem x_not {p : Bool} (ho : o.op = .unOp .not t x) (hx : ρ x = .bool p) : (execOp ρ o).run P w = .ok (.value (.bool (!p))) w := by simp [execOp, ho, hx, Op.unary]
theorem x_neg (ho : o.op = .unOp .neg t x) (hx : ρ x = .int k a) : (execOp ρ o).run P w = .ok (.value (.int k (k.wrap (0 - a)))) w := by simp [execOp, ho, hx, Op.unary, Op.intArith]
theorem x_add (ho : o.op = .binOp .add t x y t') (hx : ρ x = .int k a) (hy : ρ y = .int k b) : (execOp ρ o).run P w = .ok (.value (.int k (k.wrap (a + b)))) w := by simp [execOp, ho, hx, hy, binOp, Op.intArith, eqGuard]
theorem x_sub (ho : o.op = .binOp .sub t x y t') (hx : ρ x = .int k a) (hy : ρ y = .int k b) : (execOp ρ o).run P w = .ok (.value (.int k (k.wrap (a - b)))) w := by simp [execOp, ho, hx, hy, binOp, Op.intArith, eqGuard]
theorem x_mul (ho : o.op = .binOp .mul t x y t') (hx : ρ x = .int k a) (hy : ρ y = .int k b) : (execOp ρ o).run P w = .ok (.value (.int k (k.wrap (a * b)))) w := by simp [execOp, ho, hx, hy, binOp, Op.intArith, eqGuard]
theorem x_quo (ho : o.op = .binOp .quo t x y t') (hx : ρ x = .int k a) (hy : ρ y = .int k b) (h : b ≠ 0) : (execOp ρ o).run P w = .ok (.value (.int k (k.wrap (a.tdiv b)))) w := by simp [execOp, ho, hx, hy, binOp, Op.intDiv, eqGuard, h]
theorem x_rem (ho : o.op = .binOp .rem t x y t') (hx : ρ x = .int k a) (hy : ρ y = .int k b) (h : b ≠ 0) : (execOp ρ o).run P w = .ok (.value (.int k (a.tmod b))) w := by simp [execOp, ho, hx, hy, binOp, Op.intDiv, eqGuard, h]
theorem x_and (ho : o.op = .binOp .and t x y t') (hx : ρ x = .int k a) (hy : ρ y = .int k b) : (execOp ρ o).run P w = .ok (.value (.int k (bAnd k a b))) w := by simp [execOp, ho, hx, hy, binOp, Op.intBits, eqGuard, bAnd]
theorem x_or (ho : o.op = .binOp .or t x y t') (hx : ρ x = .int k a) (hy : ρ y = .int k b) : (execOp ρ o).run P w = .ok (.value (.int k (bOr k a b))) w := by simp [execOp, ho, hx, hy, binOp, Op.intBits, eqGuard, bOr]
theorem x_xor (ho : o.op = .binOp .xor t x y t') (hx : ρ x = .int k a) (hy : ρ y = .int k b) : (execOp ρ o).run P w = .ok (.value (.int k (bXor k a b))) w := by simp [execOp, ho, hx, hy, binOp, Op.intBits, eqGuard, bXor]
theorem x_shl {k' : IntKind} (ho : o.op = .binOp .shl t x y t') (hx : ρ x = .int k a) (hy : ρ y = .int k' b) (h : 0 ≤ b) : (execOp ρ o).run P w = .ok (.value (.int k (bShl k a b))) w := by
  have h' : ¬ b < 0 := by omega
  simp [execOp, ho, hx, hy, binOp, Op.shift, eqGuard, bShl, h']
theorem x_shr {k' : IntKind} (ho : o.op = .binOp .shr t x y t') (hx : ρ x = .int k a) (hy : ρ y = .int k' b) (h : 0 ≤ b) : (execOp ρ o).run P w = .ok (.value (.int k (bShr k a b))) w := by
  have h' : ¬ b < 0 := by omega
  simp [execOp, ho, hx, hy, binOp, Op.shift, eqGuard, bShr, h']
theorem x_eql (ho : o.op = .binOp .eql t x y t') (hx : ρ x = .int k a) (hy : ρ y = .int k b) : (execOp ρ o).run P w = .ok (.value (.bool (decide (a = b)))) w := by
  simp [execOp, ho, hx, hy, binOp, Op.intCmp, eqGuard]; rfl
theorem x_neq (ho : o.op = .binOp .neq t x y t') (hx : ρ x = .int k a) (hy : ρ y = .int k b) : (execOp ρ o).run P w = .ok (.value (.bool (!decide (a = b)))) w := by
  simp [execOp, ho, hx, hy, binOp, Op.intCmp, eqGuard]; rfl
theorem x_lss (ho : o.op = .binOp .lss t x y t') (hx : ρ x = .int k a) (hy : ρ y = .int k b) : (execOp ρ o).run P w = .ok (.value (.bool (decide (a < b)))) w := by simp [execOp, ho, hx, hy, binOp, Op.intCmp, eqGuard]
theorem x_leq (ho : o.op = .binOp .leq t x y t') (hx : ρ x = .int k a) (hy : ρ y = .int k b) : (execOp ρ o).run P w = .ok (.value (.bool (decide (a ≤ b)))) w := by simp [execOp, ho, hx, hy, binOp, Op.intCmp, eqGuard]
theorem x_gtr (ho : o.op = .binOp .gtr t x y t') (hx : ρ x = .int k a) (hy : ρ y = .int k b) : (execOp ρ o).run P w = .ok (.value (.bool (decide (b < a)))) w := by simp [execOp, ho, hx, hy, binOp, Op.intCmp, eqGuard]
theorem x_geq (ho : o.op = .binOp .geq t x y t') (hx : ρ x = .int k a) (hy : ρ y = .int k b) : (execOp ρ o).run P w = .ok (.value (.bool (decide (b ≤ a)))) w := by simp [execOp, ho, hx, hy, binOp, Op.intCmp, eqGuard]
/- bools -/
theorem run_equalIn_bool (d : Nat) {p q : Bool} (hu : P.underlying t = some .bool) : (Op.equalIn (d + 1) t (.bool p) (.bool q)).run P w = .ok (p == q) w := by
  simp [Op.equalIn, run_underlying hu]
theorem x_beql {p q : Bool} (ho : o.op = .binOp .eql t x y t') (hu : P.underlying t = some .bool) (hx : ρ x = .bool p) (hy : ρ y = .bool q) : (execOp ρ o).run P w = .ok (.value (.bool (p == q))) w := by
  have h := run_equalIn_bool (w := w) 9999 (p := p) (q := q) hu
  have h2 : (Op.equal t (.bool p) (.bool q)).run P w = .ok (p == q) w := h
  have h3 : (binOp .eql t (.bool p) (.bool q)).run P w = .ok (.bool (p == q)) w := by
    simp only [binOp, Sem.run_bind, h2, Result.andThen_ok, Sem.run_pure]
  simp only [execOp, ho, hx, hy, eqGuard, Sem.run_bind, Sem.run_pure, Result.andThen_ok, h3]
  simp [h3]
theorem x_bneq {p q : Bool} (ho : o.op = .binOp .neq t x y t') (hu : P.underlying t = some .bool) (hx : ρ x = .bool p) (hy : ρ y = .bool q) : (execOp ρ o).run P w = .ok (.value (.bool (!(p == q)))) w := by
  have h := run_equalIn_bool (w := w) 9999 (p := p) (q := q) hu
  have h2 : (Op.equal t (.bool p) (.bool q)).run P w = .ok (p == q) w := h
  have h3 : (binOp .neq t (.bool p) (.bool q)).run P w = .ok (.bool (!(p == q))) w := by
    simp only [binOp, Sem.run_bind, h2, Result.andThen_ok, Sem.run_pure]
  simp only [execOp, ho, hx, hy, eqGuard, Sem.run_bind, Sem.run_pure, Result.andThen_ok, h3]
  simp [h3]
/- strings -/
theorem toList_mk (l : List UInt8) : (⟨⟨l⟩⟩ : ByteArray).toList = l := by
  have : (⟨⟨l⟩⟩ : ByteArray).toList = (⟨⟨l⟩⟩ : ByteArray).data.toList := by simp
  rw [this]
theorem append_mk (l m : List UInt8) : (⟨⟨l⟩⟩ : ByteArray) ++ ⟨⟨m⟩⟩ = ⟨⟨l ++ m⟩⟩ := by
  apply ByteArray.ext
  rw [ByteArray.data_append]
  simp
theorem size_mk (l : List UInt8) : (⟨⟨l⟩⟩ : ByteArray).size = l.length := rfl
theorem extract_mk (l : List UInt8) (i j : Nat) : (⟨⟨l⟩⟩ : ByteArray).extract i j = ⟨⟨(l.drop i).take (j - i)⟩⟩ := by
  apply ByteArray.ext
  rw [ByteArray.data_extract]
  apply Array.ext'
  simp [List.extract_eq_take_drop]
theorem x_sadd {l m : List UInt8} (ho : o.op = .binOp .add t x y t') (hx : ρ x = S l) (hy : ρ y = S m) (h : l.length + m.length ≤ 9223372036854775807) : (execOp ρ o).run P w = .ok (.value (S (l ++ m))) w := by
  have h' : ¬ (((l.length : Int) + (m.length : Int)) > 9223372036854775807) := by omega
  have h2 : ¬ (9223372036854775807 < ((l.length : Int) + (m.length : Int))) := by omega
  simp [execOp, ho, hx, hy, binOp, eqGuard, S, Op.stringOp, append_mk, size_mk, IntKind.max, IntKind.bits, IntKind.signed, h', h2]
theorem x_seql {l m : List UInt8} (ho : o.op = .binOp .eql t x y t') (hx : ρ x = S l) (hy : ρ y = S m) : (execOp ρ o).run P w = .ok (.value (.bool (decide (l = m)))) w := by
  simp [execOp, ho, hx, hy, binOp, eqGuard, S, Op.stringOp, toList_mk]
  rw [Bool.eq_iff_iff]; simp
theorem x_sneq {l m : List UInt8} (ho : o.op = .binOp .neq t x y t') (hx : ρ x = S l) (hy : ρ y = S m) : (execOp ρ o).run P w = .ok (.value (.bool (!decide (l = m)))) w := by
  simp [execOp, ho, hx, hy, binOp, eqGuard, S, Op.stringOp, toList_mk]
  rw [Bool.eq_iff_iff]; simp
theorem x_slss {l m : List UInt8} (ho : o.op = .binOp .lss t x y t') (hx : ρ x = S l) (hy : ρ y = S m) : (execOp ρ o).run P w = .ok (.value (.bool (Op.bytesLess l m))) w := by
  simp [execOp, ho, hx, hy, binOp, eqGuard, S, Op.stringOp, toList_mk]
def byteAt (l : List UInt8) (i : Int) : Int := ((l.getD i.toNat 0).toNat : Int)
theorem x_sindex {l : List UInt8} (ho : o.op = .index t x y) (hu : P.underlying t = some .string) (hx : ρ x = S l) (hy : ρ y = .int k a) (h0 : 0 ≤ a) (h1 : a < l.length) : (execOp ρ o).run P w = .ok (.value (.int .u8 (byteAt l a))) w := by
  have h2 : a.toNat < l.length := by omega
  have h3 : (ByteArray.mk (Array.mk l))[a.toNat]? = some (l[a.toNat]'h2) := by
    have : a.toNat < (ByteArray.mk (Array.mk l)).size := h2
    rw [getElem?_pos (ByteArray.mk (Array.mk l)) a.toNat this]; rfl
  simp [execOp, ho, hx, hy, S, Instr.index, asIntOf, run_underlying hu, h0, h3, byteAt, List.getD_eq_getElem?_getD, List.getElem?_eq_getElem h2]
theorem x_slen {l : List UInt8} (ho : o.op = .call { callee := .builtin .len, args := #[x], argTypes := #[t] }) (hu : P.underlying t = some .string) (hx : ρ x = S l) : (execOp ρ o).run P w = .ok (.value (.int .i64 l.length)) w := by
  simp [execOp, ho, hx, S, resolve, invoke, builtin, Builtin.len_, run_underlying hu, size_mk, goInt]
/- conversions of whole numbers -/
theorem x_conv {k' : IntKind} (ho : o.op = .convert t t' x) (hs : P.underlying t = some (.int k')) (hu : P.underlying t' = some (.int k)) (hx : ρ x = .int k' a) : (execOp ρ o).run P w = .ok (.value (.int k (k.wrap a))) w := by
  simp [execOp, ho, hx, convert, run_underlying hs, run_underlying hu, Conv.intToInt]
theorem x_sconv {l : List UInt8} (ho : o.op = .convert t t' x) (hs : P.underlying t = some .string) (hu : P.underlying t' = some .string) (hx : ρ x = S l) : (execOp ρ o).run P w = .ok (.value (S l)) w := by
  simp [execOp, ho, hx, S, convert, run_underlying hs, run_underlying hu]
theorem x_max (ho : o.op = .call { callee := .builtin .max, args := #[x, y], argTypes := #[t, t'] }) (hx : ρ x = .int k a) (hy : ρ y = .int k b) : (execOp ρ o).run P w = .ok (.value (.int k (iMax a b))) w := by
  simp [execOp, ho, hx, hy, resolve, invoke, builtin, Builtin.max_, Builtin.max2, iMax]
theorem x_min (ho : o.op = .call { callee := .builtin .min, args := #[x, y], argTypes := #[t, t'] }) (hx : ρ x = .int k a) (hy : ρ y = .int k b) : (execOp ρ o).run P w = .ok (.value (.int k (iMin a b))) w := by
  simp [execOp, ho, hx, hy, resolve, invoke, builtin, Builtin.min_, Builtin.min2, iMin]
theorem x_extract {vs : Array Value} {i : Nat} (ho : o.op = .extract x i) (hx : ρ x = .tuple vs) (hv : vs[i]? = some v) : (execOp ρ o).run P w = .ok (.value v) w := by
  simp [execOp, ho, hx, Instr.extract, hv]
theorem x_func {fn : Fn} {first captured : Array Operand} (ho : o.op = .makeFunc fn first captured) (hv : Value.func fn (first.map ρ) (captured.map ρ) = v) : (execOp ρ o).run P w = .ok (.value v) w := by
  subst hv
  simp [execOp, ho, Instr.makeFunc]
theorem x_nil {ad : Addr} (ho : o.op = .nilCheck x) (hx : ρ x = .pointer (some ad)) : (execOp ρ o).run P w = .ok (.value (.pointer (some ad))) w := by simp [execOp, ho, hx]
/- calls -/
def Callable (P : Program) (f : FuncId) : Prop := ∃ fn, P.funcs[f]? = some fn ∧ fn.body.isNone = false ∧ (fn.name == "runtime.NumGoroutine") = false
theorem run_callFunc {f : FuncId} {args : Array Value} (h : Callable P f) : (callFunc f args).run P w = .ok (.enter f args) w := by
  obtain ⟨fn, h1, h2, h3⟩ := h
  have h2' : fn.body ≠ none := by intro e; rw [e] at h2; cases h2
  simp only [callFunc, Sem.run_bind, run_program, Result.andThen_ok, h1, h3, h2]
  simp
theorem x_call {f : FuncId} {args : Array Operand} {ts : Array TypeId} {vs : List Value} (ho : o.op = .call { callee := .value (.func f), args := args, argTypes := ts }) (hf : ρ (.func f) = .func (.func f) #[] #[]) (hc : Callable P f) (hv : args.map ρ = vs.toArray) :
    (execOp ρ o).run P w = .ok (.enter f vs.toArray) w := by
  simp [execOp, ho, resolve, hf, Deferred.ofValue, invoke, hv, run_callFunc hc]
theorem x_calld {f : FuncId} {args : Array Operand} {ts : Array TypeId} {vs : List Value} {cap : List Value} (ho : o.op = .call { callee := .value x, args := args, argTypes := ts }) (hf : ρ x = .func (.func f) #[] cap.toArray) (hc : Callable P f) (hv : args.map ρ = vs.toArray) :
    (execOp ρ o).run P w = .ok (.enter f (vs ++ cap).toArray) w := by
  simp [execOp, ho, resolve, hf, Deferred.ofValue, invoke, hv, run_callFunc hc]
theorem map0 : (#[] : Array Operand).map ρ = ([] : List Value).toArray := by simp
theorem map_lit {l : List Operand} {vs : List Value} (h : l.map ρ = vs) : l.toArray.map ρ = vs.toArray := by simp [h]
theorem map_cons {l : List Operand} {vs : List Value} (hx : ρ x = v) (h : l.map ρ = vs) : (x :: l).map ρ = v :: vs := by simp [hx, h]
theorem map_nil : ([] : List Operand).map ρ = [] := rfl
end
end Go.Proofs.Gw
