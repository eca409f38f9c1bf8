/- How the law's arguments are read, and its plain statement: printed. -/
import Derived.Test.YtpkdolmbhfmjcaaFnExactRingStepF3
set_option linter.unusedVariables false
set_option linter.unusedSimpArgs false
set_option linter.unusedSectionVars false
namespace Go.Proofs.Ytpkdolmbhfmjcaa.FnExactRingStep
open Go.RowKit Go.Proofs.Gw Go.ChangeShapes Go.WideShapes Go.ChangeAt
attribute [local irreducible] wpList DG wpQuiet wl
def impl_Ring_good (x : impl_Ring) : Prop := (inK .i64) x.Size ∧ (fun _ => True) x.Up ∧ (okT (inK .i64)) x.Posted ∧ (okT (inK .i64)) x.Done ∧ (inK .i64) x.Lost ∧ (inK .i64) x.Pending ∧ (inK .i64) x.Every ∧ (inK .i64) x.Signals
theorem run_3 : Try.prog.underlying 3 = some (.int .i64) := by kernel_rfl
theorem tr_3 : TR Try.prog 3 (fun _ (x : Int) cs => cs = [.int .i64 x]) (inK .i64) := TR.int run_3
theorem run_4 : Try.prog.underlying 4 = some .bool := by kernel_rfl
theorem tr_4 : TR Try.prog 4 (fun _ (x : Bool) cs => cs = [.bool x]) (fun _ => True) := TR.bool run_4
theorem run_26 : Try.prog.underlying 26 = some (.slice 3) := by kernel_rfl
theorem rco_3 : Try.prog.cellsOf 3 = 1 := by kernel_rfl
theorem tr_26 : TR Try.prog 26 (fun w xs cs => ∃ v, cs = [v] ∧ RdF w (FK.int .i64) v xs []) (okT (inK .i64)) := TR.sliceF (d := (FK.int .i64)) run_26 rco_3 tr_3
noncomputable def rfs_75 : Array Field := match Try.prog.underlying 75 with
  | some (.struct fs) => fs
  | _ => #[]
theorem run_75 : Try.prog.underlying 75 = some (.struct rfs_75) := by kernel_rfl
theorem rof_75 : offsOk 0 (rfs_75.toList.map fun f => (f.type, f.offset, Try.prog.cellsOf f.type)) [(3, 1), (4, 1), (26, 1), (26, 1), (3, 1), (3, 1), (3, 1), (3, 1)] = true := by kernel_rfl
theorem rpc_75 : Try.prog.cellsOf 75 = ([((3 : Nat), (1 : Nat)), ((4 : Nat), (1 : Nat)), ((26 : Nat), (1 : Nat)), ((26 : Nat), (1 : Nat)), ((3 : Nat), (1 : Nat)), ((3 : Nat), (1 : Nat)), ((3 : Nat), (1 : Nat)), ((3 : Nat), (1 : Nat))].map (·.2)).sum := by kernel_rfl
theorem tr_75 : TR Try.prog 75 (fun w x cs => impl_Ring_D.rd w [] x cs) impl_Ring_good := by
  intro H enc w held fuel cs y h
  obtain ⟨n, hp⟩ := TR.parts run_75 rof_75 rpc_75 h
  clear h
  obtain ⟨c0, r0, y0, hq0, h0, hp⟩ := hp
  obtain ⟨x0, e0, g0⟩ := tr_3 _ _ _ _ _ _ _ h0
  obtain ⟨c1, r1, y1, hq1, h1, hp⟩ := hp
  obtain ⟨x1, e1, g1⟩ := tr_4 _ _ _ _ _ _ _ h1
  obtain ⟨c2, r2, y2, hq2, h2, hp⟩ := hp
  obtain ⟨x2, ⟨v2, e2, H2⟩, g2⟩ := tr_26 _ _ _ _ _ _ _ h2
  obtain ⟨c3, r3, y3, hq3, h3, hp⟩ := hp
  obtain ⟨x3, ⟨v3, e3, H3⟩, g3⟩ := tr_26 _ _ _ _ _ _ _ h3
  obtain ⟨c4, r4, y4, hq4, h4, hp⟩ := hp
  obtain ⟨x4, e4, g4⟩ := tr_3 _ _ _ _ _ _ _ h4
  obtain ⟨c5, r5, y5, hq5, h5, hp⟩ := hp
  obtain ⟨x5, e5, g5⟩ := tr_3 _ _ _ _ _ _ _ h5
  obtain ⟨c6, r6, y6, hq6, h6, hp⟩ := hp
  obtain ⟨x6, e6, g6⟩ := tr_3 _ _ _ _ _ _ _ h6
  obtain ⟨c7, r7, y7, hq7, h7, hp⟩ := hp
  obtain ⟨x7, e7, g7⟩ := tr_3 _ _ _ _ _ _ _ h7
  have hz : r7 = [] := hp
  exact ⟨⟨x0, x1, x2, x3, x4, x5, x6, x7⟩, impl_Ring_Kmkr ⟨v2, v3, by rw [hq0, e0, hq1, e1, hq2, e2, hq3, e3, hq4, e4, hq5, e5, hq6, e6, hq7, e7, hz]; rfl, H2, H3⟩, g0, g1, g2, g3, g4, g5, g6, g7⟩
def impl_RingAct_good (x : impl_RingAct) : Prop := (inK .i64) x.Kind ∧ (inK .i64) x.N
noncomputable def rfs_76 : Array Field := match Try.prog.underlying 76 with
  | some (.struct fs) => fs
  | _ => #[]
theorem run_76 : Try.prog.underlying 76 = some (.struct rfs_76) := by kernel_rfl
theorem rof_76 : offsOk 0 (rfs_76.toList.map fun f => (f.type, f.offset, Try.prog.cellsOf f.type)) [(3, 1), (3, 1)] = true := by kernel_rfl
theorem rpc_76 : Try.prog.cellsOf 76 = ([((3 : Nat), (1 : Nat)), ((3 : Nat), (1 : Nat))].map (·.2)).sum := by kernel_rfl
theorem tr_76 : TR Try.prog 76 (fun _ x cs => cs = impl_RingAct.K.enc x) impl_RingAct_good := by
  intro H enc w held fuel cs y h
  obtain ⟨n, hp⟩ := TR.parts run_76 rof_76 rpc_76 h
  clear h
  obtain ⟨c0, r0, y0, hq0, h0, hp⟩ := hp
  obtain ⟨x0, e0, g0⟩ := tr_3 _ _ _ _ _ _ _ h0
  obtain ⟨c1, r1, y1, hq1, h1, hp⟩ := hp
  obtain ⟨x1, e1, g1⟩ := tr_3 _ _ _ _ _ _ _ h1
  have hz : r1 = [] := hp
  exact ⟨⟨x0, x1⟩, by rw [hq0, e0, hq1, e1, hz]; rfl, g0, g1⟩
def Pure : Prop := ∀ (a0 : impl_Ring) (a1 : impl_RingAct), impl_Ring_good a0 → impl_RingAct_good a1 → ∃ F, laws_FnExactRingStep F a0 a1 = some true
end Go.Proofs.Ytpkdolmbhfmjcaa.FnExactRingStep
