/- Types of the program as Lean's, and facts of the program's table: printed. -/
import Derived.Test.YtpkdolmbhfmjcaaProg
import Derived.Test.YtpkdolmbhfmjcaaGwR
set_option linter.unusedVariables false
set_option linter.unusedSimpArgs false
set_option linter.unusedSectionVars false
namespace Go.Proofs.Ytpkdolmbhfmjcaa.FnPool
open Go.RowKit Go.Proofs.Gw
attribute [local irreducible] wpList DG wpQuiet wl
structure spec_l00Src where
  code : (_root_.List Int)
  at_ : Int
  seed : Int
  deriving DecidableEq
instance : Inhabited spec_l00Src := ⟨⟨[], 0, 0⟩⟩
def spec_l00Src_D : DK spec_l00Src where
  sz := 3
  pos := by decide
  rd := fun w0 h x cs => ∃ v0, cs = [v0, (.int .i64 x.at_), (.int .i64 x.seed)] ∧ RdF w0 (FK.int .u8) v0 x.code h
  ow := fun x cs h => ∃ v0 h0, cs = [v0, (.int .i64 x.at_), (.int .i64 x.seed)] ∧ OwF 5 (FK.int .u8) v0 x.code h0 ∧ h = cat [h0]
  rlen := fun _ _ _ _ h => by obtain ⟨v0, e, H0⟩ := h; subst e; rfl
  rone := fun _ _ x _ h => by obtain ⟨v0, e, H0⟩ := h; subst e; exact fun u hu => List.all_eq_true.1 ((one_cons (IsSl.one H0.sl) (one_cons rfl (one_cons rfl one_nil))) : (List.all [v0, (.int .i64 x.at_), (.int .i64 x.seed)] fun u => u.oneCell') = true) u hu
  ord := fun w0 _ _ _ h => by obtain ⟨v0, h0, e, H0, e2⟩ := h; subst e2; exact ⟨v0, e, (H0.rd w0).mono (Sub.at_ (k := 0) rfl)⟩
  mono := fun _ _ _ _ _ h hs => by obtain ⟨v0, e, H0⟩ := h; exact ⟨v0, e, H0.mono hs⟩
theorem spec_l00Src_Kget {w0 : World} {h : Hp} {x : spec_l00Src} {cs : List Value} (q : spec_l00Src_D.rd w0 h x cs) : cs = [cs.getD 0 undef, (.int .i64 x.at_), (.int .i64 x.seed)] ∧ RdF w0 (FK.int .u8) (cs.getD 0 undef) x.code h := by
  obtain ⟨v0, e, H0⟩ := q; subst e; exact ⟨rfl, H0⟩
theorem spec_l00Src_Kown {x : spec_l00Src} {cs : List Value} {h : Hp} (q : spec_l00Src_D.ow x cs h) : ∃ v0 h0, cs = [v0, (.int .i64 x.at_), (.int .i64 x.seed)] ∧ OwF 5 (FK.int .u8) v0 x.code h0 ∧ h = cat [h0] := q
theorem spec_l00Src_Kmk {x : spec_l00Src} {cs : List Value} {h : Hp} (q : ∃ v0 h0, cs = [v0, (.int .i64 x.at_), (.int .i64 x.seed)] ∧ OwF 5 (FK.int .u8) v0 x.code h0 ∧ h = cat [h0]) : spec_l00Src_D.ow x cs h := q
theorem spec_l00Src_Kmkr {w0 : World} {x : spec_l00Src} {cs : List Value} {h : Hp} (q : ∃ v0, cs = [v0, (.int .i64 x.at_), (.int .i64 x.seed)] ∧ RdF w0 (FK.int .u8) v0 x.code h) : spec_l00Src_D.rd w0 h x cs := q
structure impl_PoolAct where
  Kind : Int
  Owner : Int
  To : Int
  Buffer : Int
  deriving DecidableEq
instance : Inhabited impl_PoolAct := ⟨⟨0, 0, 0, 0⟩⟩
def impl_PoolAct.K : FK impl_PoolAct := ⟨4, fun x => [(.int .i64 x.Kind), (.int .i64 x.Owner), (.int .i64 x.To), (.int .i64 x.Buffer)], fun _ => rfl, fun x u h => by simp at h; rcases h with rfl | rfl | rfl | rfl <;> rfl, by decide⟩
structure impl_Pool where
  Free : (_root_.List Int)
  Owner : (_root_.List Int)
  deriving DecidableEq
instance : Inhabited impl_Pool := ⟨⟨[], []⟩⟩
def impl_Pool_D : DK impl_Pool where
  sz := 2
  pos := by decide
  rd := fun w0 h x cs => ∃ v0 v1, cs = [v0, v1] ∧ RdF w0 (FK.int .i64) v0 x.Free h ∧ RdF w0 (FK.int .i64) v1 x.Owner h
  ow := fun x cs h => ∃ v0 v1 h0 h1, cs = [v0, v1] ∧ OwF 3 (FK.int .i64) v0 x.Free h0 ∧ OwF 3 (FK.int .i64) v1 x.Owner h1 ∧ h = cat [h0, h1]
  rlen := fun _ _ _ _ h => by obtain ⟨v0, v1, e, H0, H1⟩ := h; subst e; rfl
  rone := fun _ _ x _ h => by obtain ⟨v0, v1, e, H0, H1⟩ := h; subst e; exact fun u hu => List.all_eq_true.1 ((one_cons (IsSl.one H0.sl) (one_cons (IsSl.one H1.sl) one_nil)) : (List.all [v0, v1] fun u => u.oneCell') = true) u hu
  ord := fun w0 _ _ _ h => by obtain ⟨v0, v1, h0, h1, e, H0, H1, e2⟩ := h; subst e2; exact ⟨v0, v1, e, (H0.rd w0).mono (Sub.at_ (k := 0) rfl), (H1.rd w0).mono (Sub.at_ (k := 1) rfl)⟩
  mono := fun _ _ _ _ _ h hs => by obtain ⟨v0, v1, e, H0, H1⟩ := h; exact ⟨v0, v1, e, H0.mono hs, H1.mono hs⟩
theorem impl_Pool_Kget {w0 : World} {h : Hp} {x : impl_Pool} {cs : List Value} (q : impl_Pool_D.rd w0 h x cs) : cs = [cs.getD 0 undef, cs.getD 1 undef] ∧ RdF w0 (FK.int .i64) (cs.getD 0 undef) x.Free h ∧ RdF w0 (FK.int .i64) (cs.getD 1 undef) x.Owner h := by
  obtain ⟨v0, v1, e, H0, H1⟩ := q; subst e; exact ⟨rfl, H0, H1⟩
theorem impl_Pool_Kown {x : impl_Pool} {cs : List Value} {h : Hp} (q : impl_Pool_D.ow x cs h) : ∃ v0 v1 h0 h1, cs = [v0, v1] ∧ OwF 3 (FK.int .i64) v0 x.Free h0 ∧ OwF 3 (FK.int .i64) v1 x.Owner h1 ∧ h = cat [h0, h1] := q
theorem impl_Pool_Kmk {x : impl_Pool} {cs : List Value} {h : Hp} (q : ∃ v0 v1 h0 h1, cs = [v0, v1] ∧ OwF 3 (FK.int .i64) v0 x.Free h0 ∧ OwF 3 (FK.int .i64) v1 x.Owner h1 ∧ h = cat [h0, h1]) : impl_Pool_D.ow x cs h := q
theorem impl_Pool_Kmkr {w0 : World} {x : impl_Pool} {cs : List Value} {h : Hp} (q : ∃ v0 v1, cs = [v0, v1] ∧ RdF w0 (FK.int .i64) v0 x.Free h ∧ RdF w0 (FK.int .i64) v1 x.Owner h) : impl_Pool_D.rd w0 h x cs := q
structure impl_PoolReply where
  Code : Int
  Buffer : Int
  deriving DecidableEq
instance : Inhabited impl_PoolReply := ⟨⟨0, 0⟩⟩
def impl_PoolReply.K : FK impl_PoolReply := ⟨2, fun x => [(.int .i64 x.Code), (.int .i64 x.Buffer)], fun _ => rfl, fun x u h => by simp at h; rcases h with rfl | rfl <;> rfl, by decide⟩
theorem slt_22 : SliceTy Try.prog 22 5 1 1 (.int .u8 0) := ⟨by kernel_rfl, by kernel_rfl⟩
theorem ty1x5 : Ty1 Try.prog 5 := Ty1.of (by kernel_rfl)
theorem un_5 : Try.prog.underlying 5 = some (.int .u8) := by kernel_rfl
theorem un_3 : Try.prog.underlying 3 = some (.int .i64) := by kernel_rfl
theorem mixed : Try.prog.follows .mixedOrders = true := by kernel_rfl
theorem cl_9 : Callable Try.prog 9 := Callable.of (by kernel_rfl)
theorem zt_118 : ZeroTy Try.prog 118 (.agg #[.slice none 0 0, .int .i64 0, .int .i64 0]) := by unfold ZeroTy; kernel_rfl
noncomputable def ufs_118 : Array Field := match Try.prog.underlying 118 with
  | some (.struct fs) => fs
  | _ => #[]
theorem uf_118 : Try.prog.underlying 118 = some (.struct (ufs_118)) := by kernel_rfl
theorem ufz_118 : ((ufs_118).toList.map fun f => (f.offset, ((Try.prog.info? f.type).map (·.size)))) = ([(0, 1), (1, 1), (2, 1)] : List (Nat × Nat)).map fun p => (p.1, some p.2) := by kernel_rfl
theorem cl_56 : Callable Try.prog 56 := Callable.of (by kernel_rfl)
theorem slt_24 : SliceTy Try.prog 24 39 4 32 (.agg #[.int .i64 0, .int .i64 0, .int .i64 0, .int .i64 0]) := ⟨by kernel_rfl, by kernel_rfl⟩
theorem fa_118x0 : FieldAt Try.prog 118 0 0 := FieldAt.of (by kernel_rfl)
theorem ty1x22 : Ty1 Try.prog 22 := Ty1.of (by kernel_rfl)
theorem cl_84 : Callable Try.prog 84 := Callable.of (by kernel_rfl)
theorem fa_118x1 : FieldAt Try.prog 118 1 1 := FieldAt.of (by kernel_rfl)
theorem ty1x3 : Ty1 Try.prog 3 := Ty1.of (by kernel_rfl)
theorem sz_3 : (Try.prog.info? 3).map (·.size) = some 1 := by kernel_rfl
theorem fa_118x2 : FieldAt Try.prog 118 2 2 := FieldAt.of (by kernel_rfl)
theorem cl_94 : Callable Try.prog 94 := Callable.of (by kernel_rfl)
theorem cl_83 : Callable Try.prog 83 := Callable.of (by kernel_rfl)
theorem slt_26 : SliceTy Try.prog 26 3 1 8 (.int .i64 0) := ⟨by kernel_rfl, by kernel_rfl⟩
theorem zt_39 : ZeroTy Try.prog 39 (.agg #[.int .i64 0, .int .i64 0, .int .i64 0, .int .i64 0]) := by unfold ZeroTy; kernel_rfl
noncomputable def ufs_39 : Array Field := match Try.prog.underlying 39 with
  | some (.struct fs) => fs
  | _ => #[]
theorem uf_39 : Try.prog.underlying 39 = some (.struct (ufs_39)) := by kernel_rfl
theorem ufz_39 : ((ufs_39).toList.map fun f => (f.offset, ((Try.prog.info? f.type).map (·.size)))) = ([(0, 1), (1, 1), (2, 1), (3, 1)] : List (Nat × Nat)).map fun p => (p.1, some p.2) := by kernel_rfl
theorem cl_57 : Callable Try.prog 57 := Callable.of (by kernel_rfl)
theorem cl_10 : Callable Try.prog 10 := Callable.of (by kernel_rfl)
theorem zt_28 : ZeroTy Try.prog 28 (.agg #[.slice none 0 0, .slice none 0 0]) := by unfold ZeroTy; kernel_rfl
theorem cl_58 : Callable Try.prog 58 := Callable.of (by kernel_rfl)
noncomputable def ufs_28 : Array Field := match Try.prog.underlying 28 with
  | some (.struct fs) => fs
  | _ => #[]
theorem uf_28 : Try.prog.underlying 28 = some (.struct (ufs_28)) := by kernel_rfl
theorem ufz_28 : ((ufs_28).toList.map fun f => (f.offset, ((Try.prog.info? f.type).map (·.size)))) = ([(0, 1), (1, 1)] : List (Nat × Nat)).map fun p => (p.1, some p.2) := by kernel_rfl
theorem sz_28 : (Try.prog.info? 28).map (·.size) = some 2 := by kernel_rfl
theorem fa_28x0 : FieldAt Try.prog 28 0 0 := FieldAt.of (by kernel_rfl)
theorem ty1x26 : Ty1 Try.prog 26 := Ty1.of (by kernel_rfl)
theorem fa_28x1 : FieldAt Try.prog 28 1 1 := FieldAt.of (by kernel_rfl)
theorem tyN_28 : TyN Try.prog 28 2 := TyN.of (by kernel_rfl)
theorem cl_11 : Callable Try.prog 11 := Callable.of (by kernel_rfl)
theorem slt_31 : SliceTy Try.prog 31 35 2 16 (.agg #[.int .i64 0, .int .i64 0]) := ⟨by kernel_rfl, by kernel_rfl⟩
theorem tyN_39 : TyN Try.prog 39 4 := TyN.of (by kernel_rfl)
theorem sz_39 : (Try.prog.info? 39).map (·.size) = some 4 := by kernel_rfl
theorem zt_35 : ZeroTy Try.prog 35 (.agg #[.int .i64 0, .int .i64 0]) := by unfold ZeroTy; kernel_rfl
theorem fa_39x0 : FieldAt Try.prog 39 0 0 := FieldAt.of (by kernel_rfl)
noncomputable def ufs_35 : Array Field := match Try.prog.underlying 35 with
  | some (.struct fs) => fs
  | _ => #[]
theorem uf_35 : Try.prog.underlying 35 = some (.struct (ufs_35)) := by kernel_rfl
theorem ufz_35 : ((ufs_35).toList.map fun f => (f.offset, ((Try.prog.info? f.type).map (·.size)))) = ([(0, 1), (1, 1)] : List (Nat × Nat)).map fun p => (p.1, some p.2) := by kernel_rfl
theorem sz_35 : (Try.prog.info? 35).map (·.size) = some 2 := by kernel_rfl
theorem fa_39x3 : FieldAt Try.prog 39 3 3 := FieldAt.of (by kernel_rfl)
theorem fa_35x1 : FieldAt Try.prog 35 1 1 := FieldAt.of (by kernel_rfl)
theorem fa_39x1 : FieldAt Try.prog 39 1 1 := FieldAt.of (by kernel_rfl)
theorem cl_64 : Callable Try.prog 64 := Callable.of (by kernel_rfl)
theorem fa_39x2 : FieldAt Try.prog 39 2 2 := FieldAt.of (by kernel_rfl)
theorem fa_35x0 : FieldAt Try.prog 35 0 0 := FieldAt.of (by kernel_rfl)
theorem tyN_35 : TyN Try.prog 35 2 := TyN.of (by kernel_rfl)
theorem cl_95 : Callable Try.prog 95 := Callable.of (by kernel_rfl)
theorem sz_26 : (Try.prog.info? 26).map (·.size) = some 1 := by kernel_rfl
theorem cl_85 : Callable Try.prog 85 := Callable.of (by kernel_rfl)
theorem cl_65 : Callable Try.prog 65 := Callable.of (by kernel_rfl)
theorem cl_86 : Callable Try.prog 86 := Callable.of (by kernel_rfl)
theorem cl_59 : Callable Try.prog 59 := Callable.of (by kernel_rfl)
theorem cl_12 : Callable Try.prog 12 := Callable.of (by kernel_rfl)
theorem cl_87 : Callable Try.prog 87 := Callable.of (by kernel_rfl)
theorem cl_60 : Callable Try.prog 60 := Callable.of (by kernel_rfl)
theorem cl_62 : Callable Try.prog 62 := Callable.of (by kernel_rfl)
theorem cl_88 : Callable Try.prog 88 := Callable.of (by kernel_rfl)
theorem cl_61 : Callable Try.prog 61 := Callable.of (by kernel_rfl)
theorem cl_13 : Callable Try.prog 13 := Callable.of (by kernel_rfl)
theorem zt_105 : ZeroTy Try.prog 105 (.agg #[.bool false, .bool false, .bool false, .bool false, .bool false, .bool false, .bool false, .bool false, .bool false, .bool false, .bool false, .bool false, .bool false, .bool false, .bool false, .bool false, .bool false, .bool false, .bool false, .bool false, .bool false, .bool false, .bool false, .bool false, .bool false, .bool false, .bool false, .bool false, .bool false, .bool false, .bool false, .bool false]) := by unfold ZeroTy; kernel_rfl
theorem arr_105 : ArrTy Try.prog 105 32 4 1 := ⟨by kernel_rfl, by kernel_rfl⟩
theorem ty1x4 : Ty1 Try.prog 4 := Ty1.of (by kernel_rfl)
theorem sz_4 : (Try.prog.info? 4).map (·.size) = some 1 := by kernel_rfl
theorem un_4 : Try.prog.underlying 4 = some .bool := by kernel_rfl
theorem cl_17 : Callable Try.prog 17 := Callable.of (by kernel_rfl)
theorem cl_63 : Callable Try.prog 63 := Callable.of (by kernel_rfl)
theorem cl_14 : Callable Try.prog 14 := Callable.of (by kernel_rfl)
theorem st_35 : Try.prog.stoodInHeld 35 = false := by kernel_rfl
theorem eg_35 : Try.prog.eqGuardType Try.prog.depth 35 = false := by kernel_rfl
theorem pf_35 : plainF Try.prog 0 (ufs_35).toList [1, 1] = true := by kernel_rfl
theorem ae_35 : ∀ X Y : impl_PoolReply, leavesEq [(.int .i64 X.Code), (.int .i64 X.Buffer)] [(.int .i64 Y.Code), (.int .i64 Y.Buffer)] = decide (X = Y) := by
  intro X Y
  rw [Bool.eq_iff_iff]
  cases X; cases Y
  simp [leavesEq, leafEq, S]
theorem cl_15 : Callable Try.prog 15 := Callable.of (by kernel_rfl)
theorem cl_16 : Callable Try.prog 16 := Callable.of (by kernel_rfl)
end Go.Proofs.Ytpkdolmbhfmjcaa.FnPool
