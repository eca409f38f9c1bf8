/- How the law's arguments are read, and its plain statement: printed. -/
import Derived.Test.YtpkdolmbhfmjcaaFnExactPoolRunF2
set_option linter.unusedVariables false
set_option linter.unusedSimpArgs false
set_option linter.unusedSectionVars false
namespace Go.Proofs.Ytpkdolmbhfmjcaa.FnExactPoolRun
open Go.RowKit Go.Proofs.Gw Go.ChangeShapes Go.WideShapes Go.ChangeAt
attribute [local irreducible] wpList DG wpQuiet wl
theorem run_3 : Try.prog.underlying 3 = some (.int .i64) := by kernel_rfl
theorem tr_3 : TR Try.prog 3 (fun _ (x : Int) cs => cs = [.int .i64 x]) (inK .i64) := TR.int run_3
def impl_PoolAct_good (x : impl_PoolAct) : Prop := (inK .i64) x.Kind ∧ (inK .i64) x.Owner ∧ (inK .i64) x.To ∧ (inK .i64) x.Buffer
noncomputable def rfs_46 : Array Field := match Try.prog.underlying 46 with
  | some (.struct fs) => fs
  | _ => #[]
theorem run_46 : Try.prog.underlying 46 = some (.struct rfs_46) := by kernel_rfl
theorem rof_46 : offsOk 0 (rfs_46.toList.map fun f => (f.type, f.offset, Try.prog.cellsOf f.type)) [(3, 1), (3, 1), (3, 1), (3, 1)] = true := by kernel_rfl
theorem rpc_46 : Try.prog.cellsOf 46 = ([((3 : Nat), (1 : Nat)), ((3 : Nat), (1 : Nat)), ((3 : Nat), (1 : Nat)), ((3 : Nat), (1 : Nat))].map (·.2)).sum := by kernel_rfl
theorem tr_46 : TR Try.prog 46 (fun _ x cs => cs = impl_PoolAct.K.enc x) impl_PoolAct_good := by
  intro H enc w held fuel cs y h
  obtain ⟨n, hp⟩ := TR.parts run_46 rof_46 rpc_46 h
  clear h
  obtain ⟨c0, r0, y0, hq0, h0, hp⟩ := hp
  obtain ⟨x0, e0, g0⟩ := tr_3 _ _ _ _ _ _ _ h0
  obtain ⟨c1, r1, y1, hq1, h1, hp⟩ := hp
  obtain ⟨x1, e1, g1⟩ := tr_3 _ _ _ _ _ _ _ h1
  obtain ⟨c2, r2, y2, hq2, h2, hp⟩ := hp
  obtain ⟨x2, e2, g2⟩ := tr_3 _ _ _ _ _ _ _ h2
  obtain ⟨c3, r3, y3, hq3, h3, hp⟩ := hp
  obtain ⟨x3, e3, g3⟩ := tr_3 _ _ _ _ _ _ _ h3
  have hz : r3 = [] := hp
  exact ⟨⟨x0, x1, x2, x3⟩, by rw [hq0, e0, hq1, e1, hq2, e2, hq3, e3, hz]; rfl, g0, g1, g2, g3⟩
theorem run_54 : Try.prog.underlying 54 = some (.slice 46) := by kernel_rfl
theorem rco_46 : Try.prog.cellsOf 46 = 4 := by kernel_rfl
theorem tr_54 : TR Try.prog 54 (fun w xs cs => ∃ v, cs = [v] ∧ RdF w impl_PoolAct.K v xs []) (okT impl_PoolAct_good) := TR.sliceF (d := impl_PoolAct.K) run_54 rco_46 tr_46
def Pure : Prop := ∀ (a0 : Int) (a1 : (List impl_PoolAct)), (inK .i64) a0 → (okT impl_PoolAct_good) a1 → ∃ F, laws_FnExactPoolRun F a0 a1 = some true
end Go.Proofs.Ytpkdolmbhfmjcaa.FnExactPoolRun
