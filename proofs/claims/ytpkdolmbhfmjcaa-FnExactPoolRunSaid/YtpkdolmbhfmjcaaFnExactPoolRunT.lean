/- Types of the program as Lean's, and facts of the program's table: printed. -/
import Derived.Test.YtpkdolmbhfmjcaaProg
import Derived.Test.YtpkdolmbhfmjcaaGwR
set_option linter.unusedVariables false
set_option linter.unusedSimpArgs false
set_option linter.unusedSectionVars false
namespace Go.Proofs.Ytpkdolmbhfmjcaa.FnExactPoolRun
open Go.RowKit Go.Proofs.Gw
attribute [local irreducible] wpList DG wpQuiet wl
structure impl_PoolAct where
  Kind : Int
  Owner : Int
  To : Int
  Buffer : Int
  deriving DecidableEq
instance : Inhabited impl_PoolAct := ⟨⟨0, 0, 0, 0⟩⟩
def impl_PoolAct.K : FK impl_PoolAct := ⟨4, fun x => [(.int .i64 x.Kind), (.int .i64 x.Owner), (.int .i64 x.To), (.int .i64 x.Buffer)], fun _ => rfl, fun x u h => by simp at h; rcases h with rfl | rfl | rfl | rfl <;> rfl, by decide⟩
structure impl_PoolReply where
  Code : Int
  Buffer : Int
  deriving DecidableEq
instance : Inhabited impl_PoolReply := ⟨⟨0, 0⟩⟩
def impl_PoolReply.K : FK impl_PoolReply := ⟨2, fun x => [(.int .i64 x.Code), (.int .i64 x.Buffer)], fun _ => rfl, fun x u h => by simp at h; rcases h with rfl | rfl <;> rfl, by decide⟩
structure impl_Pool where
  Free : (_root_.List Int)
  Owner : (_root_.List Int)
  deriving DecidableEq
instance : Inhabited impl_Pool := ⟨⟨[], []⟩⟩
def impl_Pool_D : DK impl_Pool where
  sz := 2
  pos := by decide
  rd := fun w0 h x cs => ∃ v0 v1, cs = [v0, v1] ∧ RdF w0 (FK.int .i64) v0 x.Free h ∧ RdF w0 (FK.int .i64) v1 x.Owner h
  ow := fun x cs h => ∃ v0 v1 h0 h1, cs = [v0, v1] ∧ OwF 3 (FK.int .i64) v0 x.Free h0 ∧ OwF 3 (FK.int .i64) v1 x.Owner h1 ∧ h = cat [h0, h1]
  rlen := fun _ _ _ _ h => by obtain ⟨v0, v1, e, H0, H1⟩ := h; subst e; rfl
  rone := fun _ _ x _ h => by obtain ⟨v0, v1, e, H0, H1⟩ := h; subst e; exact fun u hu => List.all_eq_true.1 ((one_cons (IsSl.one H0.sl) (one_cons (IsSl.one H1.sl) one_nil)) : (List.all [v0, v1] fun u => u.oneCell') = true) u hu
  ord := fun w0 _ _ _ h => by obtain ⟨v0, v1, h0, h1, e, H0, H1, e2⟩ := h; subst e2; exact ⟨v0, v1, e, (H0.rd w0).mono (Sub.at_ (k := 0) rfl), (H1.rd w0).mono (Sub.at_ (k := 1) rfl)⟩
  mono := fun _ _ _ _ _ h hs => by obtain ⟨v0, v1, e, H0, H1⟩ := h; exact ⟨v0, v1, e, H0.mono hs, H1.mono hs⟩
theorem impl_Pool_Kget {w0 : World} {h : Hp} {x : impl_Pool} {cs : List Value} (q : impl_Pool_D.rd w0 h x cs) : cs = [cs.getD 0 undef, cs.getD 1 undef] ∧ RdF w0 (FK.int .i64) (cs.getD 0 undef) x.Free h ∧ RdF w0 (FK.int .i64) (cs.getD 1 undef) x.Owner h := by
  obtain ⟨v0, v1, e, H0, H1⟩ := q; subst e; exact ⟨rfl, H0, H1⟩
theorem impl_Pool_Kown {x : impl_Pool} {cs : List Value} {h : Hp} (q : impl_Pool_D.ow x cs h) : ∃ v0 v1 h0 h1, cs = [v0, v1] ∧ OwF 3 (FK.int .i64) v0 x.Free h0 ∧ OwF 3 (FK.int .i64) v1 x.Owner h1 ∧ h = cat [h0, h1] := q
theorem impl_Pool_Kmk {x : impl_Pool} {cs : List Value} {h : Hp} (q : ∃ v0 v1 h0 h1, cs = [v0, v1] ∧ OwF 3 (FK.int .i64) v0 x.Free h0 ∧ OwF 3 (FK.int .i64) v1 x.Owner h1 ∧ h = cat [h0, h1]) : impl_Pool_D.ow x cs h := q
theorem impl_Pool_Kmkr {w0 : World} {x : impl_Pool} {cs : List Value} {h : Hp} (q : ∃ v0 v1, cs = [v0, v1] ∧ RdF w0 (FK.int .i64) v0 x.Free h ∧ RdF w0 (FK.int .i64) v1 x.Owner h) : impl_Pool_D.rd w0 h x cs := q
theorem slt_54 : SliceTy Try.prog 54 46 4 32 (.agg #[.int .i64 0, .int .i64 0, .int .i64 0, .int .i64 0]) := ⟨by kernel_rfl, by kernel_rfl⟩
theorem cl_26 : Callable Try.prog 26 := Callable.of (by kernel_rfl)
theorem slt_24 : SliceTy Try.prog 24 39 4 32 (.agg #[.int .i64 0, .int .i64 0, .int .i64 0, .int .i64 0]) := ⟨by kernel_rfl, by kernel_rfl⟩
theorem tyN_46 : TyN Try.prog 46 4 := TyN.of (by kernel_rfl)
theorem zt_39 : ZeroTy Try.prog 39 (.agg #[.int .i64 0, .int .i64 0, .int .i64 0, .int .i64 0]) := by unfold ZeroTy; kernel_rfl
theorem fa_46x0 : FieldAt Try.prog 46 0 0 := FieldAt.of (by kernel_rfl)
theorem ty1x3 : Ty1 Try.prog 3 := Ty1.of (by kernel_rfl)
theorem fa_39x0 : FieldAt Try.prog 39 0 0 := FieldAt.of (by kernel_rfl)
theorem sz_3 : (Try.prog.info? 3).map (·.size) = some 1 := by kernel_rfl
theorem fa_46x1 : FieldAt Try.prog 46 1 1 := FieldAt.of (by kernel_rfl)
theorem fa_39x1 : FieldAt Try.prog 39 1 1 := FieldAt.of (by kernel_rfl)
theorem fa_46x2 : FieldAt Try.prog 46 2 2 := FieldAt.of (by kernel_rfl)
theorem fa_39x2 : FieldAt Try.prog 39 2 2 := FieldAt.of (by kernel_rfl)
theorem fa_46x3 : FieldAt Try.prog 46 3 3 := FieldAt.of (by kernel_rfl)
theorem fa_39x3 : FieldAt Try.prog 39 3 3 := FieldAt.of (by kernel_rfl)
theorem tyN_39 : TyN Try.prog 39 4 := TyN.of (by kernel_rfl)
theorem sz_39 : (Try.prog.info? 39).map (·.size) = some 4 := by kernel_rfl
theorem cl_21 : Callable Try.prog 21 := Callable.of (by kernel_rfl)
theorem cl_27 : Callable Try.prog 27 := Callable.of (by kernel_rfl)
theorem zt_28 : ZeroTy Try.prog 28 (.agg #[.slice none 0 0, .slice none 0 0]) := by unfold ZeroTy; kernel_rfl
noncomputable def ufs_28 : Array Field := match Try.prog.underlying 28 with
  | some (.struct fs) => fs
  | _ => #[]
theorem uf_28 : Try.prog.underlying 28 = some (.struct (ufs_28)) := by kernel_rfl
theorem ufz_28 : ((ufs_28).toList.map fun f => (f.offset, ((Try.prog.info? f.type).map (·.size)))) = ([(0, 1), (1, 1)] : List (Nat × Nat)).map fun p => (p.1, some p.2) := by kernel_rfl
theorem slt_31 : SliceTy Try.prog 31 35 2 16 (.agg #[.int .i64 0, .int .i64 0]) := ⟨by kernel_rfl, by kernel_rfl⟩
theorem sz_28 : (Try.prog.info? 28).map (·.size) = some 2 := by kernel_rfl
theorem cl_87 : Callable Try.prog 87 := Callable.of (by kernel_rfl)
theorem fa_28x0 : FieldAt Try.prog 28 0 0 := FieldAt.of (by kernel_rfl)
theorem ty1x26 : Ty1 Try.prog 26 := Ty1.of (by kernel_rfl)
theorem slt_26 : SliceTy Try.prog 26 3 1 8 (.int .i64 0) := ⟨by kernel_rfl, by kernel_rfl⟩
theorem sz_26 : (Try.prog.info? 26).map (·.size) = some 1 := by kernel_rfl
theorem fa_28x1 : FieldAt Try.prog 28 1 1 := FieldAt.of (by kernel_rfl)
theorem tyN_28 : TyN Try.prog 28 2 := TyN.of (by kernel_rfl)
theorem cl_60 : Callable Try.prog 60 := Callable.of (by kernel_rfl)
theorem zt_35 : ZeroTy Try.prog 35 (.agg #[.int .i64 0, .int .i64 0]) := by unfold ZeroTy; kernel_rfl
noncomputable def ufs_35 : Array Field := match Try.prog.underlying 35 with
  | some (.struct fs) => fs
  | _ => #[]
theorem uf_35 : Try.prog.underlying 35 = some (.struct (ufs_35)) := by kernel_rfl
theorem ufz_35 : ((ufs_35).toList.map fun f => (f.offset, ((Try.prog.info? f.type).map (·.size)))) = ([(0, 1), (1, 1)] : List (Nat × Nat)).map fun p => (p.1, some p.2) := by kernel_rfl
theorem sz_35 : (Try.prog.info? 35).map (·.size) = some 2 := by kernel_rfl
theorem fa_35x0 : FieldAt Try.prog 35 0 0 := FieldAt.of (by kernel_rfl)
theorem fa_35x1 : FieldAt Try.prog 35 1 1 := FieldAt.of (by kernel_rfl)
theorem tyN_35 : TyN Try.prog 35 2 := TyN.of (by kernel_rfl)
theorem mixed : Try.prog.follows .mixedOrders = true := by kernel_rfl
theorem cl_62 : Callable Try.prog 62 := Callable.of (by kernel_rfl)
theorem cl_88 : Callable Try.prog 88 := Callable.of (by kernel_rfl)
theorem cl_61 : Callable Try.prog 61 := Callable.of (by kernel_rfl)
theorem cl_13 : Callable Try.prog 13 := Callable.of (by kernel_rfl)
theorem cl_58 : Callable Try.prog 58 := Callable.of (by kernel_rfl)
theorem cl_11 : Callable Try.prog 11 := Callable.of (by kernel_rfl)
theorem cl_64 : Callable Try.prog 64 := Callable.of (by kernel_rfl)
theorem cl_95 : Callable Try.prog 95 := Callable.of (by kernel_rfl)
theorem cl_85 : Callable Try.prog 85 := Callable.of (by kernel_rfl)
theorem cl_65 : Callable Try.prog 65 := Callable.of (by kernel_rfl)
theorem cl_86 : Callable Try.prog 86 := Callable.of (by kernel_rfl)
theorem cl_59 : Callable Try.prog 59 := Callable.of (by kernel_rfl)
theorem cl_12 : Callable Try.prog 12 := Callable.of (by kernel_rfl)
theorem cl_69 : Callable Try.prog 69 := Callable.of (by kernel_rfl)
theorem cl_22 : Callable Try.prog 22 := Callable.of (by kernel_rfl)
theorem cl_23 : Callable Try.prog 23 := Callable.of (by kernel_rfl)
theorem cl_28 : Callable Try.prog 28 := Callable.of (by kernel_rfl)
theorem cl_72 : Callable Try.prog 72 := Callable.of (by kernel_rfl)
theorem cl_29 : Callable Try.prog 29 := Callable.of (by kernel_rfl)
theorem cl_30 : Callable Try.prog 30 := Callable.of (by kernel_rfl)
theorem cl_70 : Callable Try.prog 70 := Callable.of (by kernel_rfl)
theorem cl_24 : Callable Try.prog 24 := Callable.of (by kernel_rfl)
theorem cl_31 : Callable Try.prog 31 := Callable.of (by kernel_rfl)
theorem cl_71 : Callable Try.prog 71 := Callable.of (by kernel_rfl)
theorem cl_25 : Callable Try.prog 25 := Callable.of (by kernel_rfl)
theorem cl_32 : Callable Try.prog 32 := Callable.of (by kernel_rfl)
end Go.Proofs.Ytpkdolmbhfmjcaa.FnExactPoolRun
