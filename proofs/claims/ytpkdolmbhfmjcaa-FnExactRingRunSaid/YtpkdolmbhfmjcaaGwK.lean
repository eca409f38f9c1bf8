/- The steps of a region of open order that is walked in a fitting order. -/
import Derived.Test.YtpkdolmbhfmjcaaGwJ
set_option linter.unusedVariables false
set_option linter.unusedSimpArgs false
set_option linter.unusedSectionVars false
namespace Go.Proofs.Gw
open Go.RowKit
section
variable {P : Program} {ops : Array Oper} {Inv : World → Prop} {Q : Exit → Act → World → Prop} {l : List Oper} {ks : List (Nat × Nat)} {o : Oper} {i n d : Nat} {f : Nat → Value} {w w' : World} {v : Value} {p : Bool}
theorem z_nil {a : Act} (h : Q .normal a w) : wl P ops Inv Q (mk3 l []) a w := h
theorem z_go {k : Nat} {a : Act} (ho : l[i]? = some o) (h : SG P ops Inv k o a w (wl P ops Inv Q (mk3 l ks))) : wl P ops Inv Q (mk3 l ((i, k) :: ks)) a w := by
  unfold mk3
  rw [ho]
  exact h
section
variable (ho : l[i]? = some o)
include ho
theorem z_off {k : Nat} (hw : Region.wanted o (yielded ops (fr n f).tmps) = false) (hd : o.dst = some d) (hn : Nat.blt d n = true)
    (h : wl P ops Inv Q (mk3 l ks) (fr n (upd f d undef)) w) : wl P ops Inv Q (mk3 l ((i, k) :: ks)) (fr n f) w := by
  refine z_go ho ?_
  unfold SG
  rw [if_neg (by simp [hw]), hd, put_fr hn]
  exact h
theorem z_q (hw : Region.wanted o (yielded ops (fr n f).tmps) = true) (hd : o.dst = some d) (hn : Nat.blt d n = true)
    (he : ∀ w, Inv w → (execOp (fr n f).eval o).run P w = .ok (.value v) w) (h : wl P ops Inv Q (mk3 l ks) (fr n (upd f d v)) w) : wl P ops Inv Q (mk3 l ((i, 0) :: ks)) (fr n f) w := by
  refine z_go ho ?_
  unfold SG
  rw [if_pos hw]
  exact ⟨v, he, by rw [hd, put_fr hn]; exact h⟩
theorem z_qc (hw : Region.wanted o (yielded ops (fr n f).tmps) = p) (hd : o.dst = some d) (hn : Nat.blt d n = true)
    (he : p = true → ∀ w, Inv w → (execOp (fr n f).eval o).run P w = .ok (.value v) w) (h : wl P ops Inv Q (mk3 l ks) (fr n (upd f d (cv p v))) w) : wl P ops Inv Q (mk3 l ((i, 0) :: ks)) (fr n f) w := by
  cases p
  · exact z_off ho hw hd hn h
  · exact z_q ho hw hd hn (he rfl) h
theorem z_r (hw : Region.wanted o (yielded ops (fr n f).tmps) = true) (hd : o.dst = some d) (hn : Nat.blt d n = true)
    (he : (execOp (fr n f).eval o).run P w = .ok (.value v) w) (h : wl P ops Inv Q (mk3 l ks) (fr n (upd f d v)) w) : wl P ops Inv Q (mk3 l ((i, 1) :: ks)) (fr n f) w := by
  refine z_go ho ?_
  unfold SG
  rw [if_pos hw]
  exact ⟨v, he, by rw [hd, put_fr hn]; exact h⟩
theorem z_rc (hw : Region.wanted o (yielded ops (fr n f).tmps) = p) (hd : o.dst = some d) (hn : Nat.blt d n = true)
    (he : p = true → (execOp (fr n f).eval o).run P w = .ok (.value v) w) (h : wl P ops Inv Q (mk3 l ks) (fr n (upd f d (cv p v))) w) : wl P ops Inv Q (mk3 l ((i, 1) :: ks)) (fr n f) w := by
  cases p
  · exact z_off ho hw hd hn h
  · exact z_r ho hw hd hn (he rfl) h
theorem z_exv {α : Type} {val : α → Value} {W : α → World → Prop} (hw : Region.wanted o (yielded ops (fr n f).tmps) = true) (hd : o.dst = some d) (hn : Nat.blt d n = true)
    (he : ∃ (x : α) (w' : World), (execOp (fr n f).eval o).run P w = .ok (.value (val x)) w' ∧ W x w') (h : ∀ x w', W x w' → Inv w' ∧ wl P ops Inv Q (mk3 l ks) (fr n (upd f d (val x))) w') : wl P ops Inv Q (mk3 l ((i, 2) :: ks)) (fr n f) w := by
  obtain ⟨x, w', h1, h2⟩ := he
  refine z_go ho ?_
  unfold SG
  rw [if_pos hw, h1]
  have h3 := h x w' h2
  exact ⟨h3.1, by rw [hd, put_fr hn]; exact h3.2⟩
theorem z_exs {W : World → Prop} (hw : Region.wanted o (yielded ops (fr n f).tmps) = true) (hd : o.dst = none)
    (he : ∃ (w' : World), (execOp (fr n f).eval o).run P w = .ok .skip w' ∧ W w') (h : ∀ w', W w' → Inv w' ∧ wl P ops Inv Q (mk3 l ks) (fr n f) w') : wl P ops Inv Q (mk3 l ((i, 2) :: ks)) (fr n f) w := by
  obtain ⟨w', h1, h2⟩ := he
  refine z_go ho ?_
  unfold SG
  rw [if_pos hw, h1]
  have h3 := h w' h2
  exact ⟨h3.1, by rw [hd]; exact h3.2⟩
theorem z_exw {α : Type} {W : α → World → Prop} (hw : Region.wanted o (yielded ops (fr n f).tmps) = true) (hd : o.dst = none)
    (he : ∃ (x : α) (w' : World), (execOp (fr n f).eval o).run P w = .ok .skip w' ∧ W x w') (h : ∀ x w', W x w' → Inv w' ∧ wl P ops Inv Q (mk3 l ks) (fr n f) w') : wl P ops Inv Q (mk3 l ((i, 2) :: ks)) (fr n f) w := by
  obtain ⟨x, w', h1, h2⟩ := he
  refine z_go ho ?_
  unfold SG
  rw [if_pos hw, h1]
  have h3 := h x w' h2
  exact ⟨h3.1, by rw [hd]; exact h3.2⟩
theorem z_call {fid : FuncId} {args : Array Value} {R : Ending → World → Prop} (hw : Region.wanted o (yielded ops (fr n f).tmps) = true) (hd : o.dst = some d) (hn : Nat.blt d n = true)
    (he : (execOp (fr n f).eval o).run P w = .ok (.enter fid args) w') (hc : Calls P fid args w' R)
    (h : ∀ e w2, R e w2 → ∃ v, e = .returned v ∧ Inv w2 ∧ wl P ops Inv Q (mk3 l ks) (fr n (upd f d v)) w2) : wl P ops Inv Q (mk3 l ((i, 2) :: ks)) (fr n f) w := by
  refine z_go ho ?_
  unfold SG
  rw [if_pos hw, he]
  refine hc.mono fun e w2 hR => ?_
  obtain ⟨v, h1, h2, h3⟩ := h e w2 hR
  exact ⟨v, h1, h2, by rw [hd, put_fr hn]; exact h3⟩
theorem z_calln {fid : FuncId} {args : Array Value} {R : Ending → World → Prop} (hw : Region.wanted o (yielded ops (fr n f).tmps) = true) (hd : o.dst = none)
    (he : (execOp (fr n f).eval o).run P w = .ok (.enter fid args) w') (hc : Calls P fid args w' R)
    (h : ∀ e w2, R e w2 → ∃ v, e = .returned v ∧ Inv w2 ∧ wl P ops Inv Q (mk3 l ks) (fr n f) w2) : wl P ops Inv Q (mk3 l ((i, 2) :: ks)) (fr n f) w := by
  refine z_go ho ?_
  unfold SG
  rw [if_pos hw, he]
  refine hc.mono fun e w2 hR => ?_
  obtain ⟨v, h1, h2, h3⟩ := h e w2 hR
  exact ⟨v, h1, h2, by rw [hd]; exact h3⟩
theorem z_ccall {fid : FuncId} {args : Array Value} {J : World → Prop} (hw : Region.wanted o (yielded ops (fr n f).tmps) = p) (hd : o.dst = some d) (hn : Nat.blt d n = true)
    (he : p = true → (execOp (fr n f).eval o).run P w = .ok (.enter fid args) w) (hc : p = true → Calls P fid args w (fun e w' => e = .returned v ∧ J w')) (hJ : J w)
    (h : ∀ w2, J w2 → Inv w2 ∧ wl P ops Inv Q (mk3 l ks) (fr n (upd f d (cv p v))) w2) : wl P ops Inv Q (mk3 l ((i, 2) :: ks)) (fr n f) w := by
  cases p
  · exact z_off ho hw hd hn (h w hJ).2
  · exact z_call ho hw hd hn (he rfl) (hc rfl) (fun e w2 hR => ⟨v, hR.1, h w2 hR.2⟩)
end
end
end Go.Proofs.Gw
