/- Types of the program as Lean's, and facts of the program's table: printed. -/
import Derived.Test.YtpkdolmbhfmjcaaProg
import Derived.Test.YtpkdolmbhfmjcaaGwR
set_option linter.unusedVariables false
set_option linter.unusedSimpArgs false
set_option linter.unusedSectionVars false
namespace Go.Proofs.Ytpkdolmbhfmjcaa.FnExactRingRun
open Go.RowKit Go.Proofs.Gw
attribute [local irreducible] wpList DG wpQuiet wl
structure impl_RingAct where
  Kind : Int
  N : Int
  deriving DecidableEq
instance : Inhabited impl_RingAct := ⟨⟨0, 0⟩⟩
def impl_RingAct.K : FK impl_RingAct := ⟨2, fun x => [(.int .i64 x.Kind), (.int .i64 x.N)], fun _ => rfl, fun x u h => by simp at h; rcases h with rfl | rfl <;> rfl, by decide⟩
structure impl_RingReply where
  Code : Int
  List : (_root_.List Int)
  deriving DecidableEq
instance : Inhabited impl_RingReply := ⟨⟨0, []⟩⟩
def impl_RingReply_D : DK impl_RingReply where
  sz := 2
  pos := by decide
  rd := fun w0 h x cs => ∃ v1, cs = [(.int .i64 x.Code), v1] ∧ RdF w0 (FK.int .i64) v1 x.List h
  ow := fun x cs h => ∃ v1 h1, cs = [(.int .i64 x.Code), v1] ∧ OwF 3 (FK.int .i64) v1 x.List h1 ∧ h = cat [h1]
  rlen := fun _ _ _ _ h => by obtain ⟨v1, e, H1⟩ := h; subst e; rfl
  rone := fun _ _ x _ h => by obtain ⟨v1, e, H1⟩ := h; subst e; exact fun u hu => List.all_eq_true.1 ((one_cons rfl (one_cons (IsSl.one H1.sl) one_nil)) : (List.all [(.int .i64 x.Code), v1] fun u => u.oneCell') = true) u hu
  ord := fun w0 _ _ _ h => by obtain ⟨v1, h1, e, H1, e2⟩ := h; subst e2; exact ⟨v1, e, (H1.rd w0).mono (Sub.at_ (k := 0) rfl)⟩
  mono := fun _ _ _ _ _ h hs => by obtain ⟨v1, e, H1⟩ := h; exact ⟨v1, e, H1.mono hs⟩
theorem impl_RingReply_Kget {w0 : World} {h : Hp} {x : impl_RingReply} {cs : List Value} (q : impl_RingReply_D.rd w0 h x cs) : cs = [(.int .i64 x.Code), cs.getD 1 undef] ∧ RdF w0 (FK.int .i64) (cs.getD 1 undef) x.List h := by
  obtain ⟨v1, e, H1⟩ := q; subst e; exact ⟨rfl, H1⟩
theorem impl_RingReply_Kown {x : impl_RingReply} {cs : List Value} {h : Hp} (q : impl_RingReply_D.ow x cs h) : ∃ v1 h1, cs = [(.int .i64 x.Code), v1] ∧ OwF 3 (FK.int .i64) v1 x.List h1 ∧ h = cat [h1] := q
theorem impl_RingReply_Kmk {x : impl_RingReply} {cs : List Value} {h : Hp} (q : ∃ v1 h1, cs = [(.int .i64 x.Code), v1] ∧ OwF 3 (FK.int .i64) v1 x.List h1 ∧ h = cat [h1]) : impl_RingReply_D.ow x cs h := q
theorem impl_RingReply_Kmkr {w0 : World} {x : impl_RingReply} {cs : List Value} {h : Hp} (q : ∃ v1, cs = [(.int .i64 x.Code), v1] ∧ RdF w0 (FK.int .i64) v1 x.List h) : impl_RingReply_D.rd w0 h x cs := q
structure impl_Ring where
  Size : Int
  Up : Bool
  Posted : (_root_.List Int)
  Done : (_root_.List Int)
  Lost : Int
  Pending : Int
  Every : Int
  Signals : Int
  deriving DecidableEq
instance : Inhabited impl_Ring := ⟨⟨0, false, [], [], 0, 0, 0, 0⟩⟩
def impl_Ring_D : DK impl_Ring where
  sz := 8
  pos := by decide
  rd := fun w0 h x cs => ∃ v2 v3, cs = [(.int .i64 x.Size), (.bool x.Up), v2, v3, (.int .i64 x.Lost), (.int .i64 x.Pending), (.int .i64 x.Every), (.int .i64 x.Signals)] ∧ RdF w0 (FK.int .i64) v2 x.Posted h ∧ RdF w0 (FK.int .i64) v3 x.Done h
  ow := fun x cs h => ∃ v2 v3 h2 h3, cs = [(.int .i64 x.Size), (.bool x.Up), v2, v3, (.int .i64 x.Lost), (.int .i64 x.Pending), (.int .i64 x.Every), (.int .i64 x.Signals)] ∧ OwF 3 (FK.int .i64) v2 x.Posted h2 ∧ OwF 3 (FK.int .i64) v3 x.Done h3 ∧ h = cat [h2, h3]
  rlen := fun _ _ _ _ h => by obtain ⟨v2, v3, e, H2, H3⟩ := h; subst e; rfl
  rone := fun _ _ x _ h => by obtain ⟨v2, v3, e, H2, H3⟩ := h; subst e; exact fun u hu => List.all_eq_true.1 ((one_cons rfl (one_cons rfl (one_cons (IsSl.one H2.sl) (one_cons (IsSl.one H3.sl) (one_cons rfl (one_cons rfl (one_cons rfl (one_cons rfl one_nil)))))))) : (List.all [(.int .i64 x.Size), (.bool x.Up), v2, v3, (.int .i64 x.Lost), (.int .i64 x.Pending), (.int .i64 x.Every), (.int .i64 x.Signals)] fun u => u.oneCell') = true) u hu
  ord := fun w0 _ _ _ h => by obtain ⟨v2, v3, h2, h3, e, H2, H3, e2⟩ := h; subst e2; exact ⟨v2, v3, e, (H2.rd w0).mono (Sub.at_ (k := 0) rfl), (H3.rd w0).mono (Sub.at_ (k := 1) rfl)⟩
  mono := fun _ _ _ _ _ h hs => by obtain ⟨v2, v3, e, H2, H3⟩ := h; exact ⟨v2, v3, e, H2.mono hs, H3.mono hs⟩
theorem impl_Ring_Kget {w0 : World} {h : Hp} {x : impl_Ring} {cs : List Value} (q : impl_Ring_D.rd w0 h x cs) : cs = [(.int .i64 x.Size), (.bool x.Up), cs.getD 2 undef, cs.getD 3 undef, (.int .i64 x.Lost), (.int .i64 x.Pending), (.int .i64 x.Every), (.int .i64 x.Signals)] ∧ RdF w0 (FK.int .i64) (cs.getD 2 undef) x.Posted h ∧ RdF w0 (FK.int .i64) (cs.getD 3 undef) x.Done h := by
  obtain ⟨v2, v3, e, H2, H3⟩ := q; subst e; exact ⟨rfl, H2, H3⟩
theorem impl_Ring_Kown {x : impl_Ring} {cs : List Value} {h : Hp} (q : impl_Ring_D.ow x cs h) : ∃ v2 v3 h2 h3, cs = [(.int .i64 x.Size), (.bool x.Up), v2, v3, (.int .i64 x.Lost), (.int .i64 x.Pending), (.int .i64 x.Every), (.int .i64 x.Signals)] ∧ OwF 3 (FK.int .i64) v2 x.Posted h2 ∧ OwF 3 (FK.int .i64) v3 x.Done h3 ∧ h = cat [h2, h3] := q
theorem impl_Ring_Kmk {x : impl_Ring} {cs : List Value} {h : Hp} (q : ∃ v2 v3 h2 h3, cs = [(.int .i64 x.Size), (.bool x.Up), v2, v3, (.int .i64 x.Lost), (.int .i64 x.Pending), (.int .i64 x.Every), (.int .i64 x.Signals)] ∧ OwF 3 (FK.int .i64) v2 x.Posted h2 ∧ OwF 3 (FK.int .i64) v3 x.Done h3 ∧ h = cat [h2, h3]) : impl_Ring_D.ow x cs h := q
theorem impl_Ring_Kmkr {w0 : World} {x : impl_Ring} {cs : List Value} {h : Hp} (q : ∃ v2 v3, cs = [(.int .i64 x.Size), (.bool x.Up), v2, v3, (.int .i64 x.Lost), (.int .i64 x.Pending), (.int .i64 x.Every), (.int .i64 x.Signals)] ∧ RdF w0 (FK.int .i64) v2 x.Posted h ∧ RdF w0 (FK.int .i64) v3 x.Done h) : impl_Ring_D.rd w0 h x cs := q
theorem slt_87 : SliceTy Try.prog 87 76 2 16 (.agg #[.int .i64 0, .int .i64 0]) := ⟨by kernel_rfl, by kernel_rfl⟩
theorem cl_49 : Callable Try.prog 49 := Callable.of (by kernel_rfl)
theorem slt_62 : SliceTy Try.prog 62 74 2 16 (.agg #[.int .i64 0, .int .i64 0]) := ⟨by kernel_rfl, by kernel_rfl⟩
theorem tyN_76 : TyN Try.prog 76 2 := TyN.of (by kernel_rfl)
theorem zt_74 : ZeroTy Try.prog 74 (.agg #[.int .i64 0, .int .i64 0]) := by unfold ZeroTy; kernel_rfl
theorem fa_76x0 : FieldAt Try.prog 76 0 0 := FieldAt.of (by kernel_rfl)
theorem ty1x3 : Ty1 Try.prog 3 := Ty1.of (by kernel_rfl)
theorem fa_74x0 : FieldAt Try.prog 74 0 0 := FieldAt.of (by kernel_rfl)
theorem sz_3 : (Try.prog.info? 3).map (·.size) = some 1 := by kernel_rfl
theorem fa_76x1 : FieldAt Try.prog 76 1 1 := FieldAt.of (by kernel_rfl)
theorem fa_74x1 : FieldAt Try.prog 74 1 1 := FieldAt.of (by kernel_rfl)
theorem tyN_74 : TyN Try.prog 74 2 := TyN.of (by kernel_rfl)
theorem sz_74 : (Try.prog.info? 74).map (·.size) = some 2 := by kernel_rfl
theorem cl_41 : Callable Try.prog 41 := Callable.of (by kernel_rfl)
theorem cl_50 : Callable Try.prog 50 := Callable.of (by kernel_rfl)
theorem zt_65 : ZeroTy Try.prog 65 (.agg #[.int .i64 0, .bool false, .slice none 0 0, .slice none 0 0, .int .i64 0, .int .i64 0, .int .i64 0, .int .i64 0]) := by unfold ZeroTy; kernel_rfl
noncomputable def ufs_65 : Array Field := match Try.prog.underlying 65 with
  | some (.struct fs) => fs
  | _ => #[]
theorem uf_65 : Try.prog.underlying 65 = some (.struct (ufs_65)) := by kernel_rfl
theorem ufz_65 : ((ufs_65).toList.map fun f => (f.offset, ((Try.prog.info? f.type).map (·.size)))) = ([(0, 1), (1, 1), (2, 1), (3, 1), (4, 1), (5, 1), (6, 1), (7, 1)] : List (Nat × Nat)).map fun p => (p.1, some p.2) := by kernel_rfl
theorem slt_66 : SliceTy Try.prog 66 71 2 32 (.agg #[.int .i64 0, .slice none 0 0]) := ⟨by kernel_rfl, by kernel_rfl⟩
theorem sz_65 : (Try.prog.info? 65).map (·.size) = some 8 := by kernel_rfl
theorem cl_87 : Callable Try.prog 87 := Callable.of (by kernel_rfl)
theorem tyN_65 : TyN Try.prog 65 8 := TyN.of (by kernel_rfl)
theorem cl_76 : Callable Try.prog 76 := Callable.of (by kernel_rfl)
theorem zt_71 : ZeroTy Try.prog 71 (.agg #[.int .i64 0, .slice none 0 0]) := by unfold ZeroTy; kernel_rfl
theorem slt_26 : SliceTy Try.prog 26 3 1 8 (.int .i64 0) := ⟨by kernel_rfl, by kernel_rfl⟩
theorem fa_65x2 : FieldAt Try.prog 65 2 2 := FieldAt.of (by kernel_rfl)
theorem ty1x26 : Ty1 Try.prog 26 := Ty1.of (by kernel_rfl)
theorem sz_26 : (Try.prog.info? 26).map (·.size) = some 1 := by kernel_rfl
theorem fa_65x3 : FieldAt Try.prog 65 3 3 := FieldAt.of (by kernel_rfl)
theorem cl_78 : Callable Try.prog 78 := Callable.of (by kernel_rfl)
noncomputable def ufs_71 : Array Field := match Try.prog.underlying 71 with
  | some (.struct fs) => fs
  | _ => #[]
theorem uf_71 : Try.prog.underlying 71 = some (.struct (ufs_71)) := by kernel_rfl
theorem ufz_71 : ((ufs_71).toList.map fun f => (f.offset, ((Try.prog.info? f.type).map (·.size)))) = ([(0, 1), (1, 1)] : List (Nat × Nat)).map fun p => (p.1, some p.2) := by kernel_rfl
theorem sz_71 : (Try.prog.info? 71).map (·.size) = some 2 := by kernel_rfl
theorem fa_71x0 : FieldAt Try.prog 71 0 0 := FieldAt.of (by kernel_rfl)
theorem cl_92 : Callable Try.prog 92 := Callable.of (by kernel_rfl)
theorem fa_65x0 : FieldAt Try.prog 65 0 0 := FieldAt.of (by kernel_rfl)
theorem fa_65x1 : FieldAt Try.prog 65 1 1 := FieldAt.of (by kernel_rfl)
theorem ty1x4 : Ty1 Try.prog 4 := Ty1.of (by kernel_rfl)
theorem fa_65x4 : FieldAt Try.prog 65 4 4 := FieldAt.of (by kernel_rfl)
theorem fa_71x1 : FieldAt Try.prog 71 1 1 := FieldAt.of (by kernel_rfl)
theorem mixed : Try.prog.follows .mixedOrders = true := by kernel_rfl
theorem fa_65x5 : FieldAt Try.prog 65 5 5 := FieldAt.of (by kernel_rfl)
theorem fa_65x6 : FieldAt Try.prog 65 6 6 := FieldAt.of (by kernel_rfl)
theorem fa_65x7 : FieldAt Try.prog 65 7 7 := FieldAt.of (by kernel_rfl)
theorem sz_4 : (Try.prog.info? 4).map (·.size) = some 1 := by kernel_rfl
theorem tyN_71 : TyN Try.prog 71 2 := TyN.of (by kernel_rfl)
theorem cl_77 : Callable Try.prog 77 := Callable.of (by kernel_rfl)
theorem cl_35 : Callable Try.prog 35 := Callable.of (by kernel_rfl)
theorem cl_58 : Callable Try.prog 58 := Callable.of (by kernel_rfl)
theorem cl_74 : Callable Try.prog 74 := Callable.of (by kernel_rfl)
theorem cl_93 : Callable Try.prog 93 := Callable.of (by kernel_rfl)
theorem cl_79 : Callable Try.prog 79 := Callable.of (by kernel_rfl)
theorem cl_90 : Callable Try.prog 90 := Callable.of (by kernel_rfl)
theorem cl_91 : Callable Try.prog 91 := Callable.of (by kernel_rfl)
theorem cl_75 : Callable Try.prog 75 := Callable.of (by kernel_rfl)
theorem cl_34 : Callable Try.prog 34 := Callable.of (by kernel_rfl)
theorem un_4 : Try.prog.underlying 4 = some .bool := by kernel_rfl
theorem cl_69 : Callable Try.prog 69 := Callable.of (by kernel_rfl)
theorem cl_43 : Callable Try.prog 43 := Callable.of (by kernel_rfl)
theorem cl_44 : Callable Try.prog 44 := Callable.of (by kernel_rfl)
theorem cl_51 : Callable Try.prog 51 := Callable.of (by kernel_rfl)
theorem cl_82 : Callable Try.prog 82 := Callable.of (by kernel_rfl)
theorem cl_52 : Callable Try.prog 52 := Callable.of (by kernel_rfl)
theorem cl_53 : Callable Try.prog 53 := Callable.of (by kernel_rfl)
theorem cl_70 : Callable Try.prog 70 := Callable.of (by kernel_rfl)
theorem cl_45 : Callable Try.prog 45 := Callable.of (by kernel_rfl)
theorem cl_54 : Callable Try.prog 54 := Callable.of (by kernel_rfl)
theorem cl_71 : Callable Try.prog 71 := Callable.of (by kernel_rfl)
theorem cl_47 : Callable Try.prog 47 := Callable.of (by kernel_rfl)
theorem cl_55 : Callable Try.prog 55 := Callable.of (by kernel_rfl)
end Go.Proofs.Ytpkdolmbhfmjcaa.FnExactRingRun
