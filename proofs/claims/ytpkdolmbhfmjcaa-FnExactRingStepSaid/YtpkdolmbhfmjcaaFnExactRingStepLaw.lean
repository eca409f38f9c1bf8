/- For every input the law FnExactRingStep returns true, and its arguments read as they did. -/
import Derived.Test.YtpkdolmbhfmjcaaRows
import Derived.Test.YtpkdolmbhfmjcaaFnExactRingStepPure
import Derived.WalkKit
import Derived.ProofKit
import Derived.OpenShut
import Derived.ShutString
import Derived.ChangeOld
import Derived.Below
import Derived.SizedLaws
import Derived.Carry
set_option linter.unusedVariables false
namespace Go.Proofs.Ytpkdolmbhfmjcaa.FnExactRingStep
open Go.ChangeShapes Go.WideShapes Go.ChangeAt Go.RowKit Go.Proofs.Gw
theorem own : ownKnob Try.prog.godebug = none := by kernel_rfl
theorem laidOut : laidOutB Try.prog = true := by kernel_rfl
set_option maxRecDepth 100000 in
theorem lifted (os : Os) (started : os.Started) (H : Type) (enc : TypeId × Value → H) :
    ReturnsInHanded {} Try.checked os 7 .any (Rows.fnExactRingStepSpec.pre6 enc Try.prog Try.f7 Rows.fnExactRingStepRow.domain false) (Rows.fnExactRingStepSpec.post enc Try.prog Try.f7 false true false false) := by
  refine returnsInHanded_of_change_sized (C := Try.checked) own started (by kernel_rfl) Try.func7
    (ChangeSpec.witness6 (enc := enc) (C := Try.checked) false ⟨#[], #[(.agg #[.int .i64 0, .bool false, .slice none 0 0, .slice none 0 0, .int .i64 0, .int .i64 0, .int .i64 0, .int .i64 0]), (.agg #[.int .i64 0, .int .i64 0])], []⟩ 8 (by kernel_rfl) (by kernel_rfl) (by kernel_rfl) (by kernel_rfl)) ?_
  intro W base args ds gs before hval0 hW hcnd hsz0 _
  have hval : ∀ (j : Nat) t v, Try.f7.params[j]? = some t → args[j]? = some v → Value.okWide Try.prog W .any base t v := hval0
  have hW' := hW
  obtain ⟨p, q, hA0, hV, rfl, hfz, hnd⟩ := hW
  have hA : DataW.TrodAll enc Try.prog W 0 (fun _ => true) true Try.f7.params.toList args.toList ds p := hA0
  rw [Try.params7] at hA hval
  obtain ⟨v0, vs0, d0, ds0, p0, q0, hargs, rfl, rfl, h0, r0⟩ := trodAll_cons hA
  obtain ⟨v1, vs1, d1, ds1, p1, q1, rfl, rfl, rfl, h1, r1⟩ := trodAll_cons r0
  obtain ⟨rfl, rfl, rfl⟩ := trodAll_nil r1
  obtain rfl : args = #[v0, v1] := by cases args; simp_all
  obtain ⟨rfl, rfl⟩ := trodVars_none hV
  have k0 := h0
  have lt0 : ∀ x ∈ p0, x.block < W.heap.size := by obtain ⟨m, hm⟩ := k0; exact DataW.trod_lt m _ _ _ hm
  obtain ⟨fu0, hf0⟩ := h0
  obtain ⟨cs0, rfl, _⟩ := okWide_struct (run_75) (hval 0 75 v0 rfl rfl)
  obtain ⟨x0, hx0, gd0⟩ := tr_75 _ _ _ _ _ _ _ hf0
  obtain ⟨u0x0, u0x1, e0, H0x0, H0x1⟩ := hx0
  obtain rfl : cs0 = [(.int .i64 x0.Size), (.bool x0.Up), u0x0, u0x1, (.int .i64 x0.Lost), (.int .i64 x0.Pending), (.int .i64 x0.Every), (.int .i64 x0.Signals)].toArray := Array.ext' (by simpa [Value.cells] using e0)
  have k1 := h1
  have lt1 : ∀ x ∈ p1, x.block < W.heap.size := by obtain ⟨m, hm⟩ := k1; exact DataW.trod_lt m _ _ _ hm
  obtain ⟨fu1, hf1⟩ := h1
  obtain ⟨cs1, rfl, _⟩ := okWide_struct (run_76) (hval 1 76 v1 rfl rfl)
  obtain ⟨x1, hx1, gd1⟩ := tr_76 _ _ _ _ _ _ _ hf1
  obtain rfl : cs1 = (impl_RingAct.K.enc x1).toArray := Array.ext' (by simpa [Value.cells] using hx1)
  clear hA0 hval0 hsz0
  obtain ⟨F, he⟩ := pure x0 x1 gd0 gd1
  have hc := laws_FnExactRingStep_ok F (w0 := W) (w := W) (hR := []) (hF := []) x0 x1 H0x0 H0x1 (fun _ h => h) (Mem.start W) he
  refine hc.mono fun e W' h => ?_
  obtain ⟨he', hm'⟩ := h
  subst he'
  have bel : Below W.heap.size W W' := hm'.below
  exact ⟨_, rfl, _, _, _, [], _, [], hW', trodAll_mk1 (shut_bool (by kernel_rfl) _), (trodAll_cons_mk (Below.trod laidOut (by kernel_rfl) (of_decide_eq_true (by kernel_rfl)) k0 bel lt0) (trodAll_cons_mk (Below.trod laidOut (by kernel_rfl) (of_decide_eq_true (by kernel_rfl)) k1 bel lt1) trodAll_mk0)), rfl, bel.frame _, fun h => by cases h⟩
theorem over : Rows.fnExactRingStepRow.holds Try.pinned (OpenSpec.ofChange Rows.fnExactRingStepSpec) :=
  OpenClaim.holds_of_wide 7 Try.f7 rfl rfl rfl rfl rfl rfl rfl ⟨rfl, rfl, rfl, rfl, rfl⟩ rfl rfl rfl rfl rfl (by kernel_rfl) Try.func7 (by kernel_rfl)
    (of_decide_eq_true (by kernel_rfl)) (by unfold Func.isWrapper; first | (rw [if_pos (by decide +kernel)]; kernel_rfl) | (rw [if_neg (by decide +kernel)]; exact ⟨rfl, rfl⟩))
    (fun os started H enc _ => lifted os started H enc)
theorem proved : Rows.FnExactRingStepSaid := over
#print axioms proved
end Go.Proofs.Ytpkdolmbhfmjcaa.FnExactRingStep
