/- Regions of open order in which nothing is written: one walk in the order of the text. -/
import Derived.Test.YtpkdolmbhfmjcaaGwH
import Derived.Deep.Quiet
set_option linter.unusedVariables false
set_option linter.unusedSimpArgs false
set_option linter.unusedSectionVars false
namespace Go.Proofs.Gw
open Go.RowKit
section
variable {P : Program} {ops : Array Oper} {C : World → Prop} {Q : Act → Prop} {rest : List Oper} {o : Oper} {n d : Nat} {f : Nat → Value} {v : Value} {p : Bool}
theorem q_val (hw : Region.wanted o (yielded ops (fr n f).tmps) = true) (hd : o.dst = some d) (hn : Nat.blt d n = true)
    (he : ∀ w, C w → (execOp (fr n f).eval o).run P w = .ok (.value v) w) (h : wpQuiet P ops C Q rest (fr n (upd f d v))) : wpQuiet P ops C Q (o :: rest) (fr n f) := by
  refine wpQuiet_step fun K hK => ?_
  rw [if_pos hw]
  refine ⟨v, fun w hC => ?_, ?_⟩
  · unfold Oper.quietAt; rw [he w hC]; exact ⟨rfl, rfl⟩
  · rw [hd, put_fr hn]; exact hK _ h
theorem q_off (hw : Region.wanted o (yielded ops (fr n f).tmps) = false) (hd : o.dst = some d) (hn : Nat.blt d n = true)
    (h : wpQuiet P ops C Q rest (fr n (upd f d undef))) : wpQuiet P ops C Q (o :: rest) (fr n f) := by
  refine wpQuiet_step fun K hK => ?_
  rw [if_neg (by simp [hw]), hd, put_fr hn]
  exact hK _ h
theorem q_cval (hw : Region.wanted o (yielded ops (fr n f).tmps) = p) (hd : o.dst = some d) (hn : Nat.blt d n = true)
    (he : p = true → ∀ w, C w → (execOp (fr n f).eval o).run P w = .ok (.value v) w) (h : wpQuiet P ops C Q rest (fr n (upd f d (cv p v)))) : wpQuiet P ops C Q (o :: rest) (fr n f) := by
  cases p
  · exact q_off hw hd hn h
  · exact q_val hw hd hn (he rfl) h
theorem q_call {fid : FuncId} {args : Array Value} (hw : Region.wanted o (yielded ops (fr n f).tmps) = true) (hd : o.dst = some d) (hn : Nat.blt d n = true)
    (he : ∀ w, C w → (execOp (fr n f).eval o).run P w = .ok (.enter fid args) w) (hc : ∀ w, C w → Calls P fid args w (fun e w' => e = .returned v ∧ C w'))
    (h : wpQuiet P ops C Q rest (fr n (upd f d v))) : wpQuiet P ops C Q (o :: rest) (fr n f) := by
  refine wpQuiet_step fun K hK => ?_
  rw [if_pos hw]
  refine ⟨v, fun w hC => ?_, ?_⟩
  · unfold Oper.quietAt; rw [he w hC]; exact ⟨rfl, hc w hC⟩
  · rw [hd, put_fr hn]; exact hK _ h
theorem q_ccall {fid : FuncId} {args : Array Value} (hw : Region.wanted o (yielded ops (fr n f).tmps) = p) (hd : o.dst = some d) (hn : Nat.blt d n = true)
    (he : p = true → ∀ w, C w → (execOp (fr n f).eval o).run P w = .ok (.enter fid args) w) (hc : p = true → ∀ w, C w → Calls P fid args w (fun e w' => e = .returned v ∧ C w'))
    (h : wpQuiet P ops C Q rest (fr n (upd f d (cv p v)))) : wpQuiet P ops C Q (o :: rest) (fr n f) := by
  cases p
  · exact q_off hw hd hn h
  · exact q_call hw hd hn (he rfl) (hc rfl) h
theorem wp_qregion {id : Nat} {l : List Oper} {w0 w : World} {QQ : Exit → Act → World → Prop} {a : Act} (H : Hp) (hx : P.follows .mixedOrders = true) (hB : Region.lexB .any l.toArray = true) (hM : Mem w0 w H)
    (h : wpQuiet P l.toArray (fun w' => Mem w0 w' H) (fun a' => ∀ w', Mem w0 w' H → QQ .normal a' w') l a) : (Code.region id l.toArray true).wp P QQ a w :=
  wp_region_quiet (C := fun w' => Mem w0 w' H) hx hB hM.drew (by simpa using h)
end
end Go.Proofs.Gw
