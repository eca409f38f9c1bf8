/- How the law's arguments are read, and its plain statement: printed. -/
import Derived.Test.YtpkdolmbhfmjcaaFnRingF3
set_option linter.unusedVariables false
set_option linter.unusedSimpArgs false
set_option linter.unusedSectionVars false
namespace Go.Proofs.Ytpkdolmbhfmjcaa.FnRing
open Go.RowKit Go.Proofs.Gw Go.ChangeShapes Go.WideShapes Go.ChangeAt
attribute [local irreducible] wpList DG wpQuiet wl
theorem run_5 : Try.prog.underlying 5 = some (.int .u8) := by kernel_rfl
theorem tr_5 : TR Try.prog 5 (fun _ (x : Int) cs => cs = [.int .u8 x]) (inK .u8) := TR.int run_5
theorem run_22 : Try.prog.underlying 22 = some (.slice 5) := by kernel_rfl
theorem rco_5 : Try.prog.cellsOf 5 = 1 := by kernel_rfl
theorem tr_22 : TR Try.prog 22 (fun w xs cs => ∃ v, cs = [v] ∧ RdF w (FK.int .u8) v xs []) (okT (inK .u8)) := TR.sliceF (d := (FK.int .u8)) run_22 rco_5 tr_5
def Pure : Prop := ∀ (a0 : (List Int)) (a1 : (List Int)), (okT (inK .u8)) a0 → (okT (inK .u8)) a1 → ∃ F, laws_FnRing F a0 a1 = some true
end Go.Proofs.Ytpkdolmbhfmjcaa.FnRing
