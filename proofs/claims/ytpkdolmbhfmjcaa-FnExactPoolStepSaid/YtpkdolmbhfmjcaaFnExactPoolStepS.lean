/- How the law's arguments are read, and its plain statement: printed. -/
import Derived.Test.YtpkdolmbhfmjcaaFnExactPoolStepF2
set_option linter.unusedVariables false
set_option linter.unusedSimpArgs false
set_option linter.unusedSectionVars false
namespace Go.Proofs.Ytpkdolmbhfmjcaa.FnExactPoolStep
open Go.RowKit Go.Proofs.Gw Go.ChangeShapes Go.WideShapes Go.ChangeAt
attribute [local irreducible] wpList DG wpQuiet wl
def impl_Pool_good (x : impl_Pool) : Prop := (okT (inK .i64)) x.Free ∧ (okT (inK .i64)) x.Owner
theorem run_3 : Try.prog.underlying 3 = some (.int .i64) := by kernel_rfl
theorem tr_3 : TR Try.prog 3 (fun _ (x : Int) cs => cs = [.int .i64 x]) (inK .i64) := TR.int run_3
theorem run_26 : Try.prog.underlying 26 = some (.slice 3) := by kernel_rfl
theorem rco_3 : Try.prog.cellsOf 3 = 1 := by kernel_rfl
theorem tr_26 : TR Try.prog 26 (fun w xs cs => ∃ v, cs = [v] ∧ RdF w (FK.int .i64) v xs []) (okT (inK .i64)) := TR.sliceF (d := (FK.int .i64)) run_26 rco_3 tr_3
noncomputable def rfs_45 : Array Field := match Try.prog.underlying 45 with
  | some (.struct fs) => fs
  | _ => #[]
theorem run_45 : Try.prog.underlying 45 = some (.struct rfs_45) := by kernel_rfl
theorem rof_45 : offsOk 0 (rfs_45.toList.map fun f => (f.type, f.offset, Try.prog.cellsOf f.type)) [(26, 1), (26, 1)] = true := by kernel_rfl
theorem rpc_45 : Try.prog.cellsOf 45 = ([((26 : Nat), (1 : Nat)), ((26 : Nat), (1 : Nat))].map (·.2)).sum := by kernel_rfl
theorem tr_45 : TR Try.prog 45 (fun w x cs => impl_Pool_D.rd w [] x cs) impl_Pool_good := by
  intro H enc w held fuel cs y h
  obtain ⟨n, hp⟩ := TR.parts run_45 rof_45 rpc_45 h
  clear h
  obtain ⟨c0, r0, y0, hq0, h0, hp⟩ := hp
  obtain ⟨x0, ⟨v0, e0, H0⟩, g0⟩ := tr_26 _ _ _ _ _ _ _ h0
  obtain ⟨c1, r1, y1, hq1, h1, hp⟩ := hp
  obtain ⟨x1, ⟨v1, e1, H1⟩, g1⟩ := tr_26 _ _ _ _ _ _ _ h1
  have hz : r1 = [] := hp
  exact ⟨⟨x0, x1⟩, impl_Pool_Kmkr ⟨v0, v1, by rw [hq0, e0, hq1, e1, hz]; rfl, H0, H1⟩, g0, g1⟩
def impl_PoolAct_good (x : impl_PoolAct) : Prop := (inK .i64) x.Kind ∧ (inK .i64) x.Owner ∧ (inK .i64) x.To ∧ (inK .i64) x.Buffer
noncomputable def rfs_46 : Array Field := match Try.prog.underlying 46 with
  | some (.struct fs) => fs
  | _ => #[]
theorem run_46 : Try.prog.underlying 46 = some (.struct rfs_46) := by kernel_rfl
theorem rof_46 : offsOk 0 (rfs_46.toList.map fun f => (f.type, f.offset, Try.prog.cellsOf f.type)) [(3, 1), (3, 1), (3, 1), (3, 1)] = true := by kernel_rfl
theorem rpc_46 : Try.prog.cellsOf 46 = ([((3 : Nat), (1 : Nat)), ((3 : Nat), (1 : Nat)), ((3 : Nat), (1 : Nat)), ((3 : Nat), (1 : Nat))].map (·.2)).sum := by kernel_rfl
theorem tr_46 : TR Try.prog 46 (fun _ x cs => cs = impl_PoolAct.K.enc x) impl_PoolAct_good := by
  intro H enc w held fuel cs y h
  obtain ⟨n, hp⟩ := TR.parts run_46 rof_46 rpc_46 h
  clear h
  obtain ⟨c0, r0, y0, hq0, h0, hp⟩ := hp
  obtain ⟨x0, e0, g0⟩ := tr_3 _ _ _ _ _ _ _ h0
  obtain ⟨c1, r1, y1, hq1, h1, hp⟩ := hp
  obtain ⟨x1, e1, g1⟩ := tr_3 _ _ _ _ _ _ _ h1
  obtain ⟨c2, r2, y2, hq2, h2, hp⟩ := hp
  obtain ⟨x2, e2, g2⟩ := tr_3 _ _ _ _ _ _ _ h2
  obtain ⟨c3, r3, y3, hq3, h3, hp⟩ := hp
  obtain ⟨x3, e3, g3⟩ := tr_3 _ _ _ _ _ _ _ h3
  have hz : r3 = [] := hp
  exact ⟨⟨x0, x1, x2, x3⟩, by rw [hq0, e0, hq1, e1, hq2, e2, hq3, e3, hz]; rfl, g0, g1, g2, g3⟩
def Pure : Prop := ∀ (a0 : impl_Pool) (a1 : impl_PoolAct), impl_Pool_good a0 → impl_PoolAct_good a1 → ∃ F, laws_FnExactPoolStep F a0 a1 = some true
end Go.Proofs.Ytpkdolmbhfmjcaa.FnExactPoolStep
