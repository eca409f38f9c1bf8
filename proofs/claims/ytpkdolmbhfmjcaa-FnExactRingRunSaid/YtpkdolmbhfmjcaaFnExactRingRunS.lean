/- How the law's arguments are read, and its plain statement: printed. -/
import Derived.Test.YtpkdolmbhfmjcaaFnExactRingRunF3
set_option linter.unusedVariables false
set_option linter.unusedSimpArgs false
set_option linter.unusedSectionVars false
namespace Go.Proofs.Ytpkdolmbhfmjcaa.FnExactRingRun
open Go.RowKit Go.Proofs.Gw Go.ChangeShapes Go.WideShapes Go.ChangeAt
attribute [local irreducible] wpList DG wpQuiet wl
theorem run_3 : Try.prog.underlying 3 = some (.int .i64) := by kernel_rfl
theorem tr_3 : TR Try.prog 3 (fun _ (x : Int) cs => cs = [.int .i64 x]) (inK .i64) := TR.int run_3
def impl_RingAct_good (x : impl_RingAct) : Prop := (inK .i64) x.Kind ∧ (inK .i64) x.N
noncomputable def rfs_76 : Array Field := match Try.prog.underlying 76 with
  | some (.struct fs) => fs
  | _ => #[]
theorem run_76 : Try.prog.underlying 76 = some (.struct rfs_76) := by kernel_rfl
theorem rof_76 : offsOk 0 (rfs_76.toList.map fun f => (f.type, f.offset, Try.prog.cellsOf f.type)) [(3, 1), (3, 1)] = true := by kernel_rfl
theorem rpc_76 : Try.prog.cellsOf 76 = ([((3 : Nat), (1 : Nat)), ((3 : Nat), (1 : Nat))].map (·.2)).sum := by kernel_rfl
theorem tr_76 : TR Try.prog 76 (fun _ x cs => cs = impl_RingAct.K.enc x) impl_RingAct_good := by
  intro H enc w held fuel cs y h
  obtain ⟨n, hp⟩ := TR.parts run_76 rof_76 rpc_76 h
  clear h
  obtain ⟨c0, r0, y0, hq0, h0, hp⟩ := hp
  obtain ⟨x0, e0, g0⟩ := tr_3 _ _ _ _ _ _ _ h0
  obtain ⟨c1, r1, y1, hq1, h1, hp⟩ := hp
  obtain ⟨x1, e1, g1⟩ := tr_3 _ _ _ _ _ _ _ h1
  have hz : r1 = [] := hp
  exact ⟨⟨x0, x1⟩, by rw [hq0, e0, hq1, e1, hz]; rfl, g0, g1⟩
theorem run_87 : Try.prog.underlying 87 = some (.slice 76) := by kernel_rfl
theorem rco_76 : Try.prog.cellsOf 76 = 2 := by kernel_rfl
theorem tr_87 : TR Try.prog 87 (fun w xs cs => ∃ v, cs = [v] ∧ RdF w impl_RingAct.K v xs []) (okT impl_RingAct_good) := TR.sliceF (d := impl_RingAct.K) run_87 rco_76 tr_76
def Pure : Prop := ∀ (a0 : Int) (a1 : Int) (a2 : (List impl_RingAct)), (inK .i64) a0 → (inK .i64) a1 → (okT impl_RingAct_good) a2 → ∃ F, laws_FnExactRingRun F a0 a1 a2 = some true
end Go.Proofs.Ytpkdolmbhfmjcaa.FnExactRingRun
