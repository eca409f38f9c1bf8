/- What functions of the program compute, and their walks: printed. -/
import Derived.Test.YtpkdolmbhfmjcaaFnExactRingRunT
import Derived.Test.YtpkdolmbhfmjcaaFnExactRingRunF1
set_option linter.unusedVariables false
set_option linter.unusedSimpArgs false
set_option linter.unusedSectionVars false
namespace Go.Proofs.Ytpkdolmbhfmjcaa.FnExactRingRun
open Go.RowKit Go.Proofs.Gw
attribute [local irreducible] wpList DG wpQuiet wl
def impl_Ring_act_l1 (F : Nat) (a0 : impl_Ring) (a1 : impl_RingAct) : Nat → (List Int) → (List Int) → Int → Int → Int → (List Int) → Int → Option ((List Int) × (List Int) × Int × Int × Int × (List Int))
  | 0, _, _, _, _, _, _, _ => none
  | k + 1, s6821, s6825, s6829, s6830, s6831, s6835, s6841 => (bif (decide (s6841 < a1.N)) then (impl_Ring_arrive (impl_Ring.mk a0.Size a0.Up s6821 s6825 s6829 s6830 a0.Every s6831) s6835).bind fun r6902 => impl_Ring_act_l1 F a0 a1 k r6902.2.Posted r6902.2.Done r6902.2.Lost r6902.2.Pending r6902.2.Signals r6902.1 (IntKind.wrap .i64 (s6841 + 1)) else (some (s6821, s6825, s6829, s6830, s6831, s6835)))
def impl_Ring_act (F : Nat) (a0 : impl_Ring) (a1 : impl_RingAct) : Option (impl_RingReply × impl_Ring) := ((bif (decide (a1.Kind = 1)) then (impl_Ring_post F a0 a1.N).bind fun r6478 => (some (Fl.out ((impl_RingReply.mk r6478.1 ([] : List Int)), (impl_Ring.mk a0.Size a0.Up r6478.2.Posted a0.Done a0.Lost a0.Pending a0.Every a0.Signals)))) else (bif (decide (a1.Kind = 2)) then (impl_inRange a1.N 0 100).bind fun r6498 => (bif (!r6498) then (some (Fl.out ((impl_RingReply.mk 4 ([] : List Int)), a0))) else (impl_Ring_act_l1 F a0 a1 F a0.Posted a0.Done a0.Lost a0.Pending a0.Signals [] 0 : Option ((List Int) × (List Int) × Int × Int × Int × (List Int))).bind fun (s6724 : ((List Int) × (List Int) × Int × Int × Int × (List Int))) => (some (Fl.out ((impl_RingReply.mk 0 s6724.2.2.2.2.2), (impl_Ring.mk a0.Size a0.Up s6724.1 s6724.2.1 s6724.2.2.1 s6724.2.2.2.1 a0.Every s6724.2.2.2.2.1))))) else (bif (decide (a1.Kind = 3)) then (bif (decide (a1.N ≤ 0)) then (some (Fl.out ((impl_RingReply.mk 4 ([] : List Int)), a0))) else gd ((0 : Int) ≤ (iMin a1.N (a0.Done.length : Int)) ∧ (iMin a1.N (a0.Done.length : Int)) ≤ (a0.Done.length : Int)) (gd ((([] : List Int).length + (slc a0.Done 0 (Int.toNat (iMin a1.N (a0.Done.length : Int)))).length) * 8 ≤ 140737488355328) (gd ((0 : Int) ≤ (iMin a1.N (a0.Done.length : Int)) ∧ (iMin a1.N (a0.Done.length : Int)) ≤ (a0.Done.length : Int)) ((some (Fl.out ((impl_RingReply.mk 0 (([] : List Int) ++ (slc a0.Done 0 (Int.toNat (iMin a1.N (a0.Done.length : Int)))))), (impl_Ring.mk a0.Size a0.Up a0.Posted (slc a0.Done (Int.toNat (iMin a1.N (a0.Done.length : Int))) a0.Done.length) a0.Lost (iMin a0.Pending ((slc a0.Done (Int.toNat (iMin a1.N (a0.Done.length : Int))) a0.Done.length).length : Int)) a0.Every a0.Signals)))))))) else (bif (decide (a1.Kind = 4)) then gd ((([] : List Int).length + a0.Done.length) * 8 ≤ 140737488355328) (gd (((([] : List Int) ++ a0.Done).length + a0.Posted.length) * 8 ≤ 140737488355328) ((some (Fl.out ((impl_RingReply.mk 0 ((([] : List Int) ++ a0.Done) ++ a0.Posted)), (impl_Ring.mk a0.Size a0.Up ([] : List Int) ([] : List Int) a0.Lost 0 a0.Every a0.Signals)))))) else (bif (decide (a1.Kind = 5)) then (some (Fl.out ((impl_RingReply.mk 0 ([] : List Int)), (impl_Ring.mk a0.Size (decide (a1.N = 1)) a0.Posted a0.Done a0.Lost a0.Pending a0.Every a0.Signals)))) else (some (Fl.go ()))))))) : Option (Fl (impl_RingReply × impl_Ring) (Unit))).bind fun l6474 => l6474.on fun (s6473 : (Unit)) => (some ((impl_RingReply.mk 3 ([] : List Int)), a0))
set_option maxHeartbeats 400000 in
set_option maxRecDepth 100000 in
theorem impl_Ring_act_ok (F : Nat) {w0 w : World} {hR hF : Hp} {v0x2 : Value} {h0x2 : Hp} {v0x3 : Value} {h0x3 : Hp} {g0 T0 o0 : Nat} {fr0 : Nat × Nat} {pre0 post0 : List Value} (a0 : impl_Ring) (a1 : impl_RingAct) {r : (impl_RingReply × impl_Ring)} (H0x2 : OwF 3 (FK.int .i64) v0x2 a0.Posted h0x2) (H0x3 : OwF 3 (FK.int .i64) v0x3 a0.Done h0x3) (hp0 : pre0.length = o0) (hm : Mem w0 w (cat [sg g0 T0 fr0 pre0 [(.int .i64 a0.Size), (.bool a0.Up), v0x2, v0x3, (.int .i64 a0.Lost), (.int .i64 a0.Pending), (.int .i64 a0.Every), (.int .i64 a0.Signals)] post0, h0x2, h0x3, hF])) (he : impl_Ring_act F a0 a1 = some r) :
    Calls Try.prog 75 #[(.pointer (some ⟨g0, o0, none⟩)), (.agg #[(.int .i64 a1.Kind), (.int .i64 a1.N)])] w (fun e w' => ∃ (v'0 : Value) (h'0 : Hp) (v'1 : Value) (h'1 : Hp) (v'2 : Value) (h'2 : Hp), e = .returned (.agg #[(.int .i64 r.1.Code), v'2]) ∧ OwF 3 (FK.int .i64) v'0 r.2.Posted h'0 ∧ OwF 3 (FK.int .i64) v'1 r.2.Done h'1 ∧ OwF 3 (FK.int .i64) v'2 r.1.List h'2 ∧ Mem w0 w' (cat [sg g0 T0 fr0 pre0 [(.int .i64 a0.Size), (.bool r.2.Up), v'0, v'1, (.int .i64 r.2.Lost), (.int .i64 r.2.Pending), (.int .i64 a0.Every), (.int .i64 r.2.Signals)] post0, h'0, h'1, h'2, hF])) := by
 refine calls_fr (n := 117) Try.func75 rfl rfl rfl ?_
 unfold impl_Ring_act at he
 refine wp_seq ?_
 refine wp_region_lit ?_
 refine s_exv (won rfl) rfl rfl (e_box (vs := [(.int .i64 a1.Kind), (.int .i64 a1.N)]) rfl (ev (t := 1) rfl rfl) rfl hm) ?_
 rintro g4477 w4478 hm4479
 refine s_exv (won rfl) rfl rfl (e_alloc (vs := [(.int .i64 0), (.slice none 0 0)]) rfl zt_71 rfl hm4479) ?_
 rintro g4482 w4483 hm4484
 refine wpList_nil ?_
 refine nx ?_
 obtain ⟨l6474, hT6476, hk6475⟩ := bindE he
 replace he := hT6476
 refine wp_seqJ (fun a w => ∃ (s6473 : (Unit)) (f : Nat → Value), l6474 = Fl.go s6473 ∧ a = fr 117 f ∧ f 4 = (.pointer (some ⟨g4482, 0, none⟩)) ∧ Mem w0 w (cat [sg g0 T0 fr0 pre0 [(.int .i64 a0.Size), (.bool a0.Up), v0x2, v0x3, (.int .i64 a0.Lost), (.int .i64 a0.Pending), (.int .i64 a0.Every), (.int .i64 a0.Signals)] post0, sg g4482 71 (0, 0) [] [(.int .i64 0), (.slice none 0 0)] [], h0x2, h0x3, hF])) ?_ ?_
 ·
  refine wp_seq ?_
  refine wp_region_lit ?_
  refine s_val (v := (.pointer (some ⟨g4477, 0, none⟩))) (won rfl) rfl rfl (x_field rfl fa_74x0 (ev (t := 3) rfl rfl)) ?_
  refine s_val (v := (.int .i64 a1.Kind)) (won rfl) rfl rfl (x_load rfl ty1x3 (ev (t := 9) rfl rfl) (seg_cell (o' := 0) (j := 0) hm4484 (k := 1) rfl rfl rfl)) ?_
  refine wpList_nil ?_
  refine nx ?_
  refine wp_block ?_
  refine wp_seq ?_
  refine wp_region_lit ?_
  refine s_val (v := (.bool (decide (a1.Kind = 1)))) (won rfl) rfl rfl (x_eql rfl (ev (t := 10) rfl rfl) rfl) ?_
  refine s_val (v := (.bool (decide (a1.Kind = 1)))) (won rfl) rfl rfl (x_assign rfl (ev (t := 12) rfl rfl)) ?_
  refine wpList_nil ?_
  refine nx ?_
  rcases Bool.eq_false_or_eq_true ((decide (a1.Kind = 1))) with hb6477 | hb6477
  ·
   replace he := bifT he hb6477
   refine c_true rfl (p := (decide (a1.Kind = 1))) rfl rfl hb6477 ?_
   refine wp_seq ?_
   obtain ⟨r6478, hr6478, he⟩ := bindE he
   refine wp_region_lit ?_
   refine s_val (v := (.pointer (some ⟨g0, o0, none⟩))) (won rfl) rfl rfl (x_move rfl (ev (t := 0) rfl rfl)) ?_
   refine s_val (v := (.pointer (some ⟨g4477, 1, none⟩))) (won rfl) rfl rfl (x_field rfl fa_74x1 (ev (t := 3) rfl rfl)) ?_
   refine s_val (v := (.int .i64 a1.N)) (won rfl) rfl rfl (x_load rfl ty1x3 (ev (t := 14) rfl rfl) (seg_cell (o' := 0) (j := 1) hm4484 (k := 1) rfl rfl rfl)) ?_
   refine s_call (won rfl) rfl rfl (x_call rfl rfl cl_90 (map_lit (map_cons (ev (t := 13) rfl rfl) (map_cons (ev (t := 15) rfl rfl) map_nil)))) (impl_Ring_post_ok F (hR := (cat [h0x3])) (hF := cat [sg g4482 71 (0, 0) [] [(.int .i64 0), (.slice none 0 0)] [], sg g4477 74 (0, 0) [] [(.int .i64 a1.Kind), (.int .i64 a1.N)] [], h0x3, hF]) a0 a1.N H0x2 ((H0x3.rd w0).mono (Sub.at_ (k := 0) rfl)) (subc (Sub.at_ (k := 2) rfl) subn) hp0 (Mem.grp [sg g0 T0 fr0 pre0 [(.int .i64 a0.Size), (.bool a0.Up), v0x2, v0x3, (.int .i64 a0.Lost), (.int .i64 a0.Pending), (.int .i64 a0.Every), (.int .i64 a0.Signals)] post0, h0x2] [sg g4482 71 (0, 0) [] [(.int .i64 0), (.slice none 0 0)] [], sg g4477 74 (0, 0) [] [(.int .i64 a1.Kind), (.int .i64 a1.N)] [], h0x3, hF] (Mem.pick [2, 3, 0, 1, 4, 5] rfl hm4484)) hr6478) ?_
   rintro e w6483 ⟨v6480, h6482, rfl, H6481, hm6484⟩
   refine ⟨_, rfl, ?_⟩
   replace hm6484 : Mem w0 w6483 (cat [sg g0 T0 fr0 pre0 [(.int .i64 a0.Size), (.bool a0.Up), v6480, v0x3, (.int .i64 a0.Lost), (.int .i64 a0.Pending), (.int .i64 a0.Every), (.int .i64 a0.Signals)] post0, h6482, sg g4482 71 (0, 0) [] [(.int .i64 0), (.slice none 0 0)] [], sg g4477 74 (0, 0) [] [(.int .i64 a1.Kind), (.int .i64 a1.N)] [], h0x3, hF]) := Mem.ung [sg g0 T0 fr0 pre0 [(.int .i64 a0.Size), (.bool a0.Up), v6480, v0x3, (.int .i64 a0.Lost), (.int .i64 a0.Pending), (.int .i64 a0.Every), (.int .i64 a0.Signals)] post0, h6482] [sg g4482 71 (0, 0) [] [(.int .i64 0), (.slice none 0 0)] [], sg g4477 74 (0, 0) [] [(.int .i64 a1.Kind), (.int .i64 a1.N)] [], h0x3, hF] hm6484
   refine s_val (v := (.agg #[(.int .i64 r6478.1), (.slice none 0 0)])) (won rfl) rfl rfl (x_build (cells := [(.int .i64 r6478.1), (.slice none 0 0)]) (zc := [.int .i64 0, .slice none 0 0]) (sizes := [(0, 1), (1, 1)]) (ps := [(0, (.int .i64 r6478.1))]) rfl zt_71 rfl uf_71 ufz_71 (pmap_lit (pmap_cons (ev (t := 16) rfl rfl) pmap_nil)) (fill_cons (cs := [(.int .i64 r6478.1)]) rfl rfl rfl fill_nil)) ?_
   refine s_exs (won rfl) rfl (e_store (vs := [(.int .i64 r6478.1), (.slice none 0 0)]) (o' := 0) (j := 0) rfl sz_71 (ev (t := 4) rfl rfl) (ev (t := 17) rfl rfl) rfl rfl hm6484 (k := 2) rfl rfl rfl) ?_
   intro w6486 hm6487
   replace hm6487 : Mem w0 w6486 (cat [sg g0 T0 fr0 pre0 [(.int .i64 a0.Size), (.bool a0.Up), v6480, v0x3, (.int .i64 a0.Lost), (.int .i64 a0.Pending), (.int .i64 a0.Every), (.int .i64 a0.Signals)] post0, h6482, sg g4482 71 (0, 0) [] [(.int .i64 r6478.1), (.slice none 0 0)] [], sg g4477 74 (0, 0) [] [(.int .i64 a1.Kind), (.int .i64 a1.N)] [], h0x3, hF]) := hm6487
   refine wpList_nil ?_
   have hm6488 : Mem w0 w6486 (cat [sg g0 T0 fr0 pre0 [(.int .i64 a0.Size), (.bool a0.Up), v6480, v0x3, (.int .i64 a0.Lost), (.int .i64 a0.Pending), (.int .i64 a0.Every), (.int .i64 a0.Signals)] post0, h6482, sg g4482 71 (0, 0) [] [(.int .i64 r6478.1), (.slice none 0 0)] [], h0x3, hF]) := Mem.pick [0, 1, 2, 4, 5] rfl hm6487
   refine nx ?_
   refine wp_ret ?_
   refine rb ?_
   refine xr ?_
   obtain rfl := Option.some.inj he
   replace he := outE hk6475
   obtain rfl := Option.some.inj he
   refine r_ret (v := (.agg #[(.int .i64 r6478.1), (.slice none 0 0)])) (rv_one rfl (RVs.cell (cs := [(.int .i64 r6478.1), (.slice none 0 0)]) rfl rfl tyN_71 (seg_cells (o' := 0) (j := 0) hm6488 (k := 2) rfl rfl rfl) RVs.nil)) rfl ?_
   exact ⟨v6480, h6482, v0x3, h0x3, (.slice none 0 0), [], rfl, H6481, H0x3, (OwF.nil 3 (FK.int .i64)), Mem.pick [0, 1, 3, 1000, 4] rfl hm6488⟩
  ·
   replace he := bifF he hb6477
   refine c_false rfl (p := (decide (a1.Kind = 1))) rfl rfl hb6477 ?_
   refine wp_seq ?_
   refine wp_region_lit ?_
   refine s_val (v := (.bool (decide (a1.Kind = 2)))) (won rfl) rfl rfl (x_eql rfl (ev (t := 10) rfl rfl) rfl) ?_
   refine s_val (v := (.bool (decide (a1.Kind = 2)))) (won rfl) rfl rfl (x_assign rfl (ev (t := 19) rfl rfl)) ?_
   refine wpList_nil ?_
   refine nx ?_
   rcases Bool.eq_false_or_eq_true ((decide (a1.Kind = 2))) with hb6489 | hb6489
   ·
    replace he := bifT he hb6489
    refine c_true rfl (p := (decide (a1.Kind = 2))) rfl rfl hb6489 ?_
    refine wp_seq ?_
    refine wp_seq ?_
    obtain ⟨r6498, hr6498, he⟩ := bindE he
    refine wp_region_lit ?_
    refine s_val (v := (.pointer (some ⟨g4477, 1, none⟩))) (won rfl) rfl rfl (x_field rfl fa_74x1 (ev (t := 3) rfl rfl)) ?_
    refine s_val (v := (.int .i64 a1.N)) (won rfl) rfl rfl (x_load rfl ty1x3 (ev (t := 20) rfl rfl) (seg_cell (o' := 0) (j := 1) hm4484 (k := 1) rfl rfl rfl)) ?_
    refine s_call (won rfl) rfl rfl (x_call rfl rfl cl_58 (map_lit (map_cons (ev (t := 21) rfl rfl) (map_cons rfl (map_cons rfl map_nil))))) (impl_inRange_ok (hR := (cat [])) (hF := cat [sg g4482 71 (0, 0) [] [(.int .i64 0), (.slice none 0 0)] [], sg g4477 74 (0, 0) [] [(.int .i64 a1.Kind), (.int .i64 a1.N)] [], sg g0 T0 fr0 pre0 [(.int .i64 a0.Size), (.bool a0.Up), v0x2, v0x3, (.int .i64 a0.Lost), (.int .i64 a0.Pending), (.int .i64 a0.Every), (.int .i64 a0.Signals)] post0, h0x2, h0x3, hF]) a1.N 0 100  (Mem.one hm4484) hr6498) ?_
    rintro e w6499 ⟨rfl, hm6500⟩
    refine ⟨_, rfl, ?_⟩
    replace hm6500 : Mem w0 w6499 (cat [sg g4482 71 (0, 0) [] [(.int .i64 0), (.slice none 0 0)] [], sg g4477 74 (0, 0) [] [(.int .i64 a1.Kind), (.int .i64 a1.N)] [], sg g0 T0 fr0 pre0 [(.int .i64 a0.Size), (.bool a0.Up), v0x2, v0x3, (.int .i64 a0.Lost), (.int .i64 a0.Pending), (.int .i64 a0.Every), (.int .i64 a0.Signals)] post0, h0x2, h0x3, hF]) := Mem.un hm6500
    refine s_val (v := (.bool (!r6498))) (won rfl) rfl rfl (x_not rfl (ev (t := 22) rfl rfl)) ?_
    refine wpList_nil ?_
    refine nx ?_
    rcases Bool.eq_false_or_eq_true ((!r6498)) with hb6501 | hb6501
    ·
     replace he := bifT he hb6501
     refine c_true rfl (p := (!r6498)) rfl rfl hb6501 ?_
     refine wp_seq ?_
     refine wp_region_lit ?_
     refine s_val (v := (.agg #[(.int .i64 4), (.slice none 0 0)])) (won rfl) rfl rfl (x_build (cells := [(.int .i64 4), (.slice none 0 0)]) (zc := [.int .i64 0, .slice none 0 0]) (sizes := [(0, 1), (1, 1)]) (ps := [(0, (.int .i64 4))]) rfl zt_71 rfl uf_71 ufz_71 (pmap_lit (pmap_cons rfl pmap_nil)) (fill_cons (cs := [(.int .i64 4)]) rfl rfl rfl fill_nil)) ?_
     refine s_exs (won rfl) rfl (e_store (vs := [(.int .i64 4), (.slice none 0 0)]) (o' := 0) (j := 0) rfl sz_71 (ev (t := 4) rfl rfl) (ev (t := 24) rfl rfl) rfl rfl hm6500 (k := 0) rfl rfl rfl) ?_
     intro w6503 hm6504
     replace hm6504 : Mem w0 w6503 (cat [sg g4482 71 (0, 0) [] [(.int .i64 4), (.slice none 0 0)] [], sg g4477 74 (0, 0) [] [(.int .i64 a1.Kind), (.int .i64 a1.N)] [], sg g0 T0 fr0 pre0 [(.int .i64 a0.Size), (.bool a0.Up), v0x2, v0x3, (.int .i64 a0.Lost), (.int .i64 a0.Pending), (.int .i64 a0.Every), (.int .i64 a0.Signals)] post0, h0x2, h0x3, hF]) := hm6504
     refine wpList_nil ?_
     have hm6505 : Mem w0 w6503 (cat [sg g4482 71 (0, 0) [] [(.int .i64 4), (.slice none 0 0)] [], sg g0 T0 fr0 pre0 [(.int .i64 a0.Size), (.bool a0.Up), v0x2, v0x3, (.int .i64 a0.Lost), (.int .i64 a0.Pending), (.int .i64 a0.Every), (.int .i64 a0.Signals)] post0, h0x2, h0x3, hF]) := Mem.pick [0, 2, 3, 4, 5] rfl hm6504
     refine nx ?_
     refine wp_ret ?_
     refine xr ?_
     refine rb ?_
     refine xr ?_
     obtain rfl := Option.some.inj he
     replace he := outE hk6475
     obtain rfl := Option.some.inj he
     refine r_ret (v := (.agg #[(.int .i64 4), (.slice none 0 0)])) (rv_one rfl (RVs.cell (cs := [(.int .i64 4), (.slice none 0 0)]) rfl rfl tyN_71 (seg_cells (o' := 0) (j := 0) hm6505 (k := 0) rfl rfl rfl) RVs.nil)) rfl ?_
     exact ⟨v0x2, h0x2, v0x3, h0x3, (.slice none 0 0), [], rfl, H0x2, H0x3, (OwF.nil 3 (FK.int .i64)), Mem.pick [1, 2, 3, 1000, 4] rfl hm6505⟩
    ·
     replace he := bifF he hb6501
     refine c_false rfl (p := (!r6498)) rfl rfl hb6501 ?_
     refine wp_skip ?_
     refine nx ?_
     refine wp_seq ?_
     refine wp_region_lit ?_
     refine s_val (v := (.agg #[(.int .i64 0), (.slice none 0 0)])) (won rfl) rfl rfl (x_build (cells := [(.int .i64 0), (.slice none 0 0)]) (zc := [.int .i64 0, .slice none 0 0]) (sizes := [(0, 1), (1, 1)]) (ps := []) rfl zt_71 rfl uf_71 ufz_71 (pmap_lit pmap_nil) fill_nil) ?_
     refine s_exv (won rfl) rfl rfl (e_alloc (vs := [(.int .i64 0), (.slice none 0 0)]) rfl zt_71 rfl hm6500) ?_
     rintro g6508 w6509 hm6510
     refine s_exs (won rfl) rfl (e_store (vs := [(.int .i64 0), (.slice none 0 0)]) (o' := 0) (j := 0) rfl sz_71 (ev (t := 5) rfl rfl) (ev (t := 25) rfl rfl) rfl rfl hm6510 (k := 0) rfl rfl rfl) ?_
     intro w6512 hm6513
     replace hm6513 : Mem w0 w6512 (cat [sg g6508 71 (0, 0) [] [(.int .i64 0), (.slice none 0 0)] [], sg g4482 71 (0, 0) [] [(.int .i64 0), (.slice none 0 0)] [], sg g4477 74 (0, 0) [] [(.int .i64 a1.Kind), (.int .i64 a1.N)] [], sg g0 T0 fr0 pre0 [(.int .i64 a0.Size), (.bool a0.Up), v0x2, v0x3, (.int .i64 a0.Lost), (.int .i64 a0.Pending), (.int .i64 a0.Every), (.int .i64 a0.Signals)] post0, h0x2, h0x3, hF]) := hm6513
     refine wpList_nil ?_
     refine nx ?_
     obtain ⟨s6724, hT6726, hk6725⟩ := bindE he
     replace he := hT6726
     refine wp_seqJ (fun a w => ∃ (v6707 : Value) (h6708 : Hp) (v6711 : Value) (h6712 : Hp) (v6720 : Value) (h6721 : Hp) (f : Nat → Value), a = fr 117 f ∧ f 4 = (.pointer (some ⟨g4482, 0, none⟩)) ∧ f 5 = (.pointer (some ⟨g6508, 0, none⟩)) ∧ OwF 3 (FK.int .i64) v6707 s6724.1 h6708 ∧ OwF 3 (FK.int .i64) v6711 s6724.2.1 h6712 ∧ OwF 3 (FK.int .i64) v6720 s6724.2.2.2.2.2 h6721 ∧ Mem w0 w (cat [sg g0 T0 fr0 pre0 [(.int .i64 a0.Size), (.bool a0.Up), v6707, v6711, (.int .i64 s6724.2.2.1), (.int .i64 s6724.2.2.2.1), (.int .i64 a0.Every), (.int .i64 s6724.2.2.2.2.1)] post0, sg g4482 71 (0, 0) [] [(.int .i64 0), (.slice none 0 0)] [], sg g6508 71 (0, 0) [] [(.int .i64 0), v6720] [], h6708, h6712, h6721, hF])) ?_ ?_
     ·
      refine wp_seq ?_
      refine wp_region_lit ?_
      refine s_val (v := (.pointer (some ⟨g4477, 1, none⟩))) (won rfl) rfl rfl (x_field rfl fa_74x1 (ev (t := 3) rfl rfl)) ?_
      refine s_val (v := (.int .i64 a1.N)) (won rfl) rfl rfl (x_load rfl ty1x3 (ev (t := 26) rfl rfl) (seg_cell (o' := 0) (j := 1) hm6513 (k := 2) rfl rfl rfl)) ?_
      refine s_val (v := (.int .i64 0)) (won rfl) rfl rfl (x_move rfl rfl) ?_
      refine wpList_nil ?_
      have hm6727 : Mem w0 w6512 (cat [sg g6508 71 (0, 0) [] [(.int .i64 0), (.slice none 0 0)] [], sg g4482 71 (0, 0) [] [(.int .i64 0), (.slice none 0 0)] [], sg g0 T0 fr0 pre0 [(.int .i64 a0.Size), (.bool a0.Up), v0x2, v0x3, (.int .i64 a0.Lost), (.int .i64 a0.Pending), (.int .i64 a0.Every), (.int .i64 a0.Signals)] post0, h0x2, h0x3, hF]) := Mem.pick [0, 1, 3, 4, 5, 6] rfl hm6513
      refine nx ?_
      refine wp_block ?_
      refine wp_fuel (I := fun k => fun a w => ∃ (s6821 : (List Int)) (s6825 : (List Int)) (s6829 : Int) (s6830 : Int) (s6831 : Int) (s6835 : (List Int)) (s6841 : Int) (v6822 : Value) (h6823 : Hp) (v6826 : Value) (h6827 : Hp) (v6836 : Value) (h6837 : Hp) (f : Nat → Value), impl_Ring_act_l1 F a0 a1 k s6821 s6825 s6829 s6830 s6831 s6835 s6841 = some s6724 ∧ a = fr 117 f ∧ f 0 = (.pointer (some ⟨g0, o0, none⟩)) ∧ f 4 = (.pointer (some ⟨g4482, 0, none⟩)) ∧ f 5 = (.pointer (some ⟨g6508, 0, none⟩)) ∧ f 27 = (.int .i64 a1.N) ∧ f 28 = (.int .i64 s6841) ∧ OwF 3 (FK.int .i64) v6822 s6821 h6823 ∧ OwF 3 (FK.int .i64) v6826 s6825 h6827 ∧ OwF 3 (FK.int .i64) v6836 s6835 h6837 ∧ Mem w0 w (cat [sg g0 T0 fr0 pre0 [(.int .i64 a0.Size), (.bool a0.Up), v6822, v6826, (.int .i64 s6829), (.int .i64 s6830), (.int .i64 a0.Every), (.int .i64 s6831)] post0, sg g4482 71 (0, 0) [] [(.int .i64 0), (.slice none 0 0)] [], sg g6508 71 (0, 0) [] [(.int .i64 0), v6836] [], h6823, h6827, h6837, hF])) F _ _ ⟨a0.Posted, a0.Done, a0.Lost, a0.Pending, a0.Signals, [], 0, v0x2, h0x2, v0x3, h0x3, (.slice none 0 0), [], _, he, rfl, rfl, rfl, rfl, rfl, rfl, H0x2, H0x3, (OwF.nil 3 (FK.int .i64)), Mem.pick [2, 1, 0, 3, 4, 1000, 5] rfl hm6727⟩ ?_ ?_
      ·
       rintro a w ⟨s6821, s6825, s6829, s6830, s6831, s6835, s6841, v6822, h6823, v6826, h6827, v6836, h6837, f, he, rfl, q6832, q6833, q6839, q6840, q6842, H6824, H6828, H6838, hm6880⟩
       rw [impl_Ring_act_l1] at he; exact none_no he
      ·
       rintro k a w ⟨s6821, s6825, s6829, s6830, s6831, s6835, s6841, v6822, h6823, v6826, h6827, v6836, h6837, f, he, rfl, q6832, q6833, q6839, q6840, q6842, H6824, H6828, H6838, hm6882⟩
       rw [impl_Ring_act_l1] at he
       refine wp_seq ?_
       refine wp_region_lit ?_
       refine s_val (v := (.bool (decide (s6841 < a1.N)))) (won rfl) rfl rfl (x_lss rfl (ev (t := 28) (v := (.int .i64 s6841)) rfl q6842) (ev (t := 27) (v := (.int .i64 a1.N)) rfl q6840)) ?_
       refine wpList_nil ?_
       refine nx ?_
       refine wp_seq ?_
       rcases Bool.eq_false_or_eq_true ((decide (s6841 < a1.N))) with hb6884 | hb6884
       ·
        replace he := bifT he hb6884
        refine c_true rfl (p := (decide (s6841 < a1.N))) rfl rfl hb6884 ?_
        refine wp_skip ?_
        refine nx ?_
        refine wp_seq ?_
        refine wp_block ?_
        obtain ⟨r6902, hr6902, he⟩ := bindE he
        refine wp_region_lit ?_
        refine s_val (v := (.pointer (some ⟨g0, o0, none⟩))) (won rfl) rfl rfl (x_move rfl (ev (t := 0) (v := (.pointer (some ⟨g0, o0, none⟩))) rfl q6832)) ?_
        refine s_val (v := (.pointer (some ⟨g6508, 1, none⟩))) (won rfl) rfl rfl (x_field rfl fa_71x1 (ev (t := 5) (v := (.pointer (some ⟨g6508, 0, none⟩))) rfl q6839)) ?_
        refine s_val (v := v6836) (won rfl) rfl rfl (x_load rfl ty1x26 (ev (t := 31) rfl rfl) (seg_cell (o' := 0) (j := 1) hm6882 (k := 2) rfl rfl rfl)) ?_
        refine s_call (won rfl) rfl rfl (x_call rfl rfl cl_91 (map_lit (map_cons (ev (t := 30) rfl rfl) (map_cons (ev (t := 32) rfl rfl) map_nil)))) (impl_Ring_arrive_ok (hR := (cat [])) (hF := cat [sg g4482 71 (0, 0) [] [(.int .i64 0), (.slice none 0 0)] [], sg g6508 71 (0, 0) [] [(.int .i64 0), v6836] [], hF]) (impl_Ring.mk a0.Size a0.Up s6821 s6825 s6829 s6830 a0.Every s6831) s6835 H6824 H6828 H6838 hp0 (Mem.grp [sg g0 T0 fr0 pre0 [(.int .i64 a0.Size), (.bool a0.Up), v6822, v6826, (.int .i64 s6829), (.int .i64 s6830), (.int .i64 a0.Every), (.int .i64 s6831)] post0, h6823, h6827, h6837] [sg g4482 71 (0, 0) [] [(.int .i64 0), (.slice none 0 0)] [], sg g6508 71 (0, 0) [] [(.int .i64 0), v6836] [], hF] (Mem.pick [0, 3, 4, 5, 1, 2, 6] rfl hm6882)) hr6902) ?_
        rintro e w6915 ⟨v6904, h6906, v6908, h6910, v6912, h6914, rfl, H6905, H6909, H6913, hm6916⟩
        refine ⟨_, rfl, ?_⟩
        replace hm6916 : Mem w0 w6915 (cat [sg g0 T0 fr0 pre0 [(.int .i64 a0.Size), (.bool a0.Up), v6904, v6908, (.int .i64 r6902.2.Lost), (.int .i64 r6902.2.Pending), (.int .i64 a0.Every), (.int .i64 r6902.2.Signals)] post0, h6906, h6910, h6914, sg g4482 71 (0, 0) [] [(.int .i64 0), (.slice none 0 0)] [], sg g6508 71 (0, 0) [] [(.int .i64 0), v6836] [], hF]) := Mem.ung [sg g0 T0 fr0 pre0 [(.int .i64 a0.Size), (.bool a0.Up), v6904, v6908, (.int .i64 r6902.2.Lost), (.int .i64 r6902.2.Pending), (.int .i64 a0.Every), (.int .i64 r6902.2.Signals)] post0, h6906, h6910, h6914] [sg g4482 71 (0, 0) [] [(.int .i64 0), (.slice none 0 0)] [], sg g6508 71 (0, 0) [] [(.int .i64 0), v6836] [], hF] hm6916
        refine s_val (v := (.pointer (some ⟨g6508, 1, none⟩))) (won rfl) rfl rfl (x_field rfl fa_71x1 (ev (t := 5) (v := (.pointer (some ⟨g6508, 0, none⟩))) rfl q6839)) ?_
        refine s_exs (won rfl) rfl (e_store (vs := [v6912]) (o' := 0) (j := 1) rfl sz_26 (ev (t := 34) rfl rfl) (ev (t := 33) rfl rfl) (IsSl.cells (H6913).sl) (one_cons (IsSl.one (H6913).sl) one_nil) hm6916 (k := 5) rfl rfl rfl) ?_
        intro w6917 hm6918
        replace hm6918 : Mem w0 w6917 (cat [sg g0 T0 fr0 pre0 [(.int .i64 a0.Size), (.bool a0.Up), v6904, v6908, (.int .i64 r6902.2.Lost), (.int .i64 r6902.2.Pending), (.int .i64 a0.Every), (.int .i64 r6902.2.Signals)] post0, h6906, h6910, h6914, sg g4482 71 (0, 0) [] [(.int .i64 0), (.slice none 0 0)] [], sg g6508 71 (0, 0) [] [(.int .i64 0), v6912] [], hF]) := hm6918
        refine wpList_nil ?_
        refine nb ?_
        refine nx ?_
        refine wp_region_lit ?_
        refine s_val (v := (.int .i64 (IntKind.wrap .i64 (s6841 + 1)))) (won rfl) rfl rfl (x_add rfl (ev (t := 28) (v := (.int .i64 s6841)) rfl q6842) rfl) ?_
        refine s_val (v := (.int .i64 (IntKind.wrap .i64 (s6841 + 1)))) (won rfl) rfl rfl (x_move rfl (ev (t := 35) rfl rfl)) ?_
        refine wpList_nil ?_
        refine nx ?_
        exact ⟨r6902.2.Posted, r6902.2.Done, r6902.2.Lost, r6902.2.Pending, r6902.2.Signals, r6902.1, (IntKind.wrap .i64 (s6841 + 1)), v6904, h6906, v6908, h6910, v6912, h6914, _, he, rfl, q6832, q6833, q6839, q6840, rfl, H6905, H6909, H6913, Mem.pick [0, 4, 5, 1, 2, 3, 6] rfl hm6918⟩
       ·
        replace he := bifF he hb6884
        refine c_false rfl (p := (decide (s6841 < a1.N))) rfl rfl hb6884 ?_
        refine wp_exit ?_
        refine xs ?_
        refine xs ?_
        refine xb ?_
        refine nx ?_
        obtain rfl := Option.some.inj he
        exact ⟨v6822, h6823, v6826, h6827, v6836, h6837, _, rfl, q6833, q6839, H6824, H6828, H6838, Mem.pick [0, 1, 2, 3, 4, 5, 6] rfl hm6882⟩
     ·
      rintro a w ⟨v6707, h6708, v6711, h6712, v6720, h6721, f, rfl, q6717, q6723, H6709, H6713, H6722, hm6920⟩
      replace he := hk6725
      refine wp_seq ?_
      refine wp_region_lit ?_
      refine s_val (v := (.agg #[(.int .i64 0), v6720])) (won rfl) rfl rfl (x_loadN (vs := [(.int .i64 0), v6720]) rfl tyN_71 (ev (t := 5) (v := (.pointer (some ⟨g6508, 0, none⟩))) rfl q6723) (seg_cells (o' := 0) (j := 0) hm6920 (k := 2) rfl rfl rfl)) ?_
      refine s_exs (won rfl) rfl (e_store (vs := [(.int .i64 0), v6720]) (o' := 0) (j := 0) rfl sz_71 (ev (t := 4) (v := (.pointer (some ⟨g4482, 0, none⟩))) rfl q6717) (ev (t := 36) rfl rfl) rfl (one_cons rfl (one_cons (IsSl.one (H6722).sl) one_nil)) hm6920 (k := 1) rfl rfl rfl) ?_
      intro w6921 hm6922
      replace hm6922 : Mem w0 w6921 (cat [sg g0 T0 fr0 pre0 [(.int .i64 a0.Size), (.bool a0.Up), v6707, v6711, (.int .i64 s6724.2.2.1), (.int .i64 s6724.2.2.2.1), (.int .i64 a0.Every), (.int .i64 s6724.2.2.2.2.1)] post0, sg g4482 71 (0, 0) [] [(.int .i64 0), v6720] [], sg g6508 71 (0, 0) [] [(.int .i64 0), v6720] [], h6708, h6712, h6721, hF]) := hm6922
      refine wpList_nil ?_
      have hm6923 : Mem w0 w6921 (cat [sg g0 T0 fr0 pre0 [(.int .i64 a0.Size), (.bool a0.Up), v6707, v6711, (.int .i64 s6724.2.2.1), (.int .i64 s6724.2.2.2.1), (.int .i64 a0.Every), (.int .i64 s6724.2.2.2.2.1)] post0, sg g4482 71 (0, 0) [] [(.int .i64 0), v6720] [], h6708, h6712, h6721, hF]) := Mem.pick [0, 1, 3, 4, 5, 6] rfl hm6922
      refine nx ?_
      refine wp_ret ?_
      refine rb ?_
      refine xr ?_
      obtain rfl := Option.some.inj he
      replace he := outE hk6475
      obtain rfl := Option.some.inj he
      refine r_ret (v := (.agg #[(.int .i64 0), v6720])) (rv_one rfl (RVs.cell (cs := [(.int .i64 0), v6720]) rfl q6717 tyN_71 (seg_cells (o' := 0) (j := 0) hm6923 (k := 1) rfl rfl rfl) RVs.nil)) rfl ?_
      exact ⟨v6707, h6708, v6711, h6712, v6720, h6721, rfl, H6709, H6713, H6722, Mem.pick [0, 2, 3, 4, 5] rfl hm6923⟩
   ·
    replace he := bifF he hb6489
    refine c_false rfl (p := (decide (a1.Kind = 2))) rfl rfl hb6489 ?_
    refine wp_seq ?_
    refine wp_region_lit ?_
    refine s_val (v := (.bool (decide (a1.Kind = 3)))) (won rfl) rfl rfl (x_eql rfl (ev (t := 10) rfl rfl) rfl) ?_
    refine s_val (v := (.bool (decide (a1.Kind = 3)))) (won rfl) rfl rfl (x_assign rfl (ev (t := 38) rfl rfl)) ?_
    refine wpList_nil ?_
    refine nx ?_
    rcases Bool.eq_false_or_eq_true ((decide (a1.Kind = 3))) with hb6924 | hb6924
    ·
     replace he := bifT he hb6924
     refine c_true rfl (p := (decide (a1.Kind = 3))) rfl rfl hb6924 ?_
     refine wp_seq ?_
     refine wp_seq ?_
     refine wp_region_lit ?_
     refine s_val (v := (.pointer (some ⟨g4477, 1, none⟩))) (won rfl) rfl rfl (x_field rfl fa_74x1 (ev (t := 3) rfl rfl)) ?_
     refine s_val (v := (.int .i64 a1.N)) (won rfl) rfl rfl (x_load rfl ty1x3 (ev (t := 39) rfl rfl) (seg_cell (o' := 0) (j := 1) hm4484 (k := 1) rfl rfl rfl)) ?_
     refine s_val (v := (.bool (decide (a1.N ≤ 0)))) (won rfl) rfl rfl (x_leq rfl (ev (t := 40) rfl rfl) rfl) ?_
     refine wpList_nil ?_
     refine nx ?_
     rcases Bool.eq_false_or_eq_true ((decide (a1.N ≤ 0))) with hb6930 | hb6930
     ·
      replace he := bifT he hb6930
      refine c_true rfl (p := (decide (a1.N ≤ 0))) rfl rfl hb6930 ?_
      refine wp_seq ?_
      refine wp_region_lit ?_
      refine s_val (v := (.agg #[(.int .i64 4), (.slice none 0 0)])) (won rfl) rfl rfl (x_build (cells := [(.int .i64 4), (.slice none 0 0)]) (zc := [.int .i64 0, .slice none 0 0]) (sizes := [(0, 1), (1, 1)]) (ps := [(0, (.int .i64 4))]) rfl zt_71 rfl uf_71 ufz_71 (pmap_lit (pmap_cons rfl pmap_nil)) (fill_cons (cs := [(.int .i64 4)]) rfl rfl rfl fill_nil)) ?_
      refine s_exs (won rfl) rfl (e_store (vs := [(.int .i64 4), (.slice none 0 0)]) (o' := 0) (j := 0) rfl sz_71 (ev (t := 4) rfl rfl) (ev (t := 42) rfl rfl) rfl rfl hm4484 (k := 0) rfl rfl rfl) ?_
      intro w6932 hm6933
      replace hm6933 : Mem w0 w6932 (cat [sg g4482 71 (0, 0) [] [(.int .i64 4), (.slice none 0 0)] [], sg g4477 74 (0, 0) [] [(.int .i64 a1.Kind), (.int .i64 a1.N)] [], sg g0 T0 fr0 pre0 [(.int .i64 a0.Size), (.bool a0.Up), v0x2, v0x3, (.int .i64 a0.Lost), (.int .i64 a0.Pending), (.int .i64 a0.Every), (.int .i64 a0.Signals)] post0, h0x2, h0x3, hF]) := hm6933
      refine wpList_nil ?_
      have hm6934 : Mem w0 w6932 (cat [sg g4482 71 (0, 0) [] [(.int .i64 4), (.slice none 0 0)] [], sg g0 T0 fr0 pre0 [(.int .i64 a0.Size), (.bool a0.Up), v0x2, v0x3, (.int .i64 a0.Lost), (.int .i64 a0.Pending), (.int .i64 a0.Every), (.int .i64 a0.Signals)] post0, h0x2, h0x3, hF]) := Mem.pick [0, 2, 3, 4, 5] rfl hm6933
      refine nx ?_
      refine wp_ret ?_
      refine xr ?_
      refine rb ?_
      refine xr ?_
      obtain rfl := Option.some.inj he
      replace he := outE hk6475
      obtain rfl := Option.some.inj he
      refine r_ret (v := (.agg #[(.int .i64 4), (.slice none 0 0)])) (rv_one rfl (RVs.cell (cs := [(.int .i64 4), (.slice none 0 0)]) rfl rfl tyN_71 (seg_cells (o' := 0) (j := 0) hm6934 (k := 0) rfl rfl rfl) RVs.nil)) rfl ?_
      exact ⟨v0x2, h0x2, v0x3, h0x3, (.slice none 0 0), [], rfl, H0x2, H0x3, (OwF.nil 3 (FK.int .i64)), Mem.pick [1, 2, 3, 1000, 4] rfl hm6934⟩
     ·
      replace he := bifF he hb6930
      refine c_false rfl (p := (decide (a1.N ≤ 0))) rfl rfl hb6930 ?_
      refine wp_skip ?_
      refine nx ?_
      refine wp_seq ?_
      refine wp_qregion (cat [sg g4482 71 (0, 0) [] [(.int .i64 0), (.slice none 0 0)] [], sg g4477 74 (0, 0) [] [(.int .i64 a1.Kind), (.int .i64 a1.N)] [], sg g0 T0 fr0 pre0 [(.int .i64 a0.Size), (.bool a0.Up), v0x2, v0x3, (.int .i64 a0.Lost), (.int .i64 a0.Pending), (.int .i64 a0.Every), (.int .i64 a0.Signals)] post0, h0x2, h0x3, hF]) mixed (by kernel_rfl) hm4484 ?_
      refine q_val (v := (.pointer (some ⟨g4477, 1, none⟩))) (won rfl) rfl rfl (fun wq hq => (x_field rfl fa_74x1 (ev (t := 3) rfl rfl))) ?_
      refine q_val (v := (.int .i64 a1.N)) (won rfl) rfl rfl (fun wq hq => (x_load rfl ty1x3 (ev (t := 43) rfl rfl) (seg_cell (o' := 0) (j := 1) hq (k := 1) rfl rfl rfl))) ?_
      refine q_val (v := (.pointer (some ⟨g0, o0, none⟩))) (won rfl) rfl rfl (fun wq hq => (x_move rfl (ev (t := 0) rfl rfl))) ?_
      refine q_val (v := (.pointer (some ⟨g0, o0, none⟩))) (won rfl) rfl rfl (fun wq hq => (x_nil rfl (ev (t := 45) rfl rfl))) ?_
      refine q_val (v := (.pointer (some ⟨g0, o0 + 3, none⟩))) (won rfl) rfl rfl (fun wq hq => (x_field rfl fa_65x3 (ev (t := 46) rfl rfl))) ?_
      refine q_val (v := v0x3) (won rfl) rfl rfl (fun wq hq => (x_load rfl ty1x26 (ev (t := 47) rfl rfl) (seg_cell (o' := o0) (j := 3) hq (k := 2) rfl hp0 rfl))) ?_
      refine q_val (v := (.int .i64 (a0.Done.length : Int))) (won rfl) rfl rfl (fun wq hq => (x_len rfl slt_26 (ev (t := 48) rfl rfl) (H0x3).sl)) ?_
      refine q_val (v := (.int .i64 (iMin a1.N (a0.Done.length : Int)))) (won rfl) rfl rfl (fun wq hq => (x_min rfl (ev (t := 44) rfl rfl) (ev (t := 49) rfl rfl))) ?_
      refine q_val (v := (.int .i64 (iMin a1.N (a0.Done.length : Int)))) (won rfl) rfl rfl (fun wq hq => (x_assign rfl (ev (t := 50) rfl rfl))) ?_
      refine wpQuiet_nil ?_
      intro w6935 hm6936
      have hm6937 : Mem w0 w6935 (cat [sg g4482 71 (0, 0) [] [(.int .i64 0), (.slice none 0 0)] [], sg g0 T0 fr0 pre0 [(.int .i64 a0.Size), (.bool a0.Up), v0x2, v0x3, (.int .i64 a0.Lost), (.int .i64 a0.Pending), (.int .i64 a0.Every), (.int .i64 a0.Signals)] post0, h0x2, h0x3, hF]) := Mem.pick [0, 2, 3, 4, 5] rfl hm6936
      refine nx ?_
      refine wp_seq ?_
      obtain ⟨hg6943, he⟩ := gdE he
      obtain ⟨hg6945, he⟩ := gdE he
      refine wp_region_lit ?_
      refine s_exv (won rfl) rfl rfl (e_litp (cells := []) (ps := []) rfl slt_26 (pmap_lit pmap_nil) (fun w1 => run_bslice0 slt_26) hm6937) ?_
      rintro g6940 w6938 hm6939
      have H6941 : OwF 3 (FK.int .i64) (.slice (some ⟨g6940, 0, none⟩) 0 0) ([] : List Int) (sg g6940 3 (0, 0) [] (encs (FK.int .i64) ([] : List Int)) []) := OwF.lit g6940 ([] : List Int) 0 rfl (by decide)
      replace hm6939 : Mem w0 w6938 (cat [(sg g6940 3 (0, 0) [] (encs (FK.int .i64) ([] : List Int)) []), sg g4482 71 (0, 0) [] [(.int .i64 0), (.slice none 0 0)] [], sg g0 T0 fr0 pre0 [(.int .i64 a0.Size), (.bool a0.Up), v0x2, v0x3, (.int .i64 a0.Lost), (.int .i64 a0.Pending), (.int .i64 a0.Every), (.int .i64 a0.Signals)] post0, h0x2, h0x3, hF]) := hm6939
      refine s_val (v := (.pointer (some ⟨g0, o0, none⟩))) (won rfl) rfl rfl (x_move rfl (ev (t := 0) rfl rfl)) ?_
      refine s_val (v := (.pointer (some ⟨g0, o0, none⟩))) (won rfl) rfl rfl (x_nil rfl (ev (t := 52) rfl rfl)) ?_
      refine s_val (v := (.pointer (some ⟨g0, o0 + 3, none⟩))) (won rfl) rfl rfl (x_field rfl fa_65x3 (ev (t := 53) rfl rfl)) ?_
      refine s_val (v := v0x3) (won rfl) rfl rfl (x_load rfl ty1x26 (ev (t := 54) rfl rfl) (seg_cell (o' := o0) (j := 3) hm6939 (k := 2) rfl hp0 rfl)) ?_
      refine s_val (v := (.int .i64 (iMin a1.N (a0.Done.length : Int)))) (won rfl) rfl rfl (x_move rfl (ev (t := 6) rfl rfl)) ?_
      refine s_val (v := (cutV v0x3 0 (Int.toNat (iMin a1.N (a0.Done.length : Int))) 1)) (won rfl) rfl rfl (y_slice_h rfl slt_26 (ev (t := 55) rfl rfl) (ev (t := 56) rfl rfl) (H0x3).sl hg6943.1 hg6943.2) ?_
      refine s_exv (won rfl) rfl rfl (e_append (bytes := 8) rfl slt_26 rfl (ev (t := 51) rfl rfl) (ev (t := 57) rfl rfl) H6941 (k := 0) rfl (cutV_rd (a := 0) (b := (Int.toNat (iMin a1.N (a0.Done.length : Int)))) (H0x3.rd w0) (Nat.zero_le _) (by have := hg6943; omega)) (Sub.at_ (k := 4) rfl) hm6939 hg6945 (len63 hg6945 rfl)) ?_
      rintro p6947 w6949 ⟨H6948, hm6950⟩
      replace hm6950 : Mem w0 w6949 (cat [p6947.2, sg g4482 71 (0, 0) [] [(.int .i64 0), (.slice none 0 0)] [], sg g0 T0 fr0 pre0 [(.int .i64 a0.Size), (.bool a0.Up), v0x2, v0x3, (.int .i64 a0.Lost), (.int .i64 a0.Pending), (.int .i64 a0.Every), (.int .i64 a0.Signals)] post0, h0x2, h0x3, hF]) := hm6950
      refine s_val (v := (.agg #[(.int .i64 0), p6947.1])) (won rfl) rfl rfl (x_build (cells := [(.int .i64 0), p6947.1]) (zc := [.int .i64 0, .slice none 0 0]) (sizes := [(0, 1), (1, 1)]) (ps := [(1, p6947.1)]) rfl zt_71 rfl uf_71 ufz_71 (pmap_lit (pmap_cons (ev (t := 58) rfl rfl) pmap_nil)) (fill_cons (cs := [p6947.1]) rfl (IsSl.cells (H6948).sl) rfl fill_nil)) ?_
      refine s_exv (won rfl) rfl rfl (e_alloc (vs := [(.int .i64 0), (.slice none 0 0)]) rfl zt_71 rfl hm6950) ?_
      rintro g6953 w6954 hm6955
      refine s_exs (won rfl) rfl (e_store (vs := [(.int .i64 0), p6947.1]) (o' := 0) (j := 0) rfl sz_71 (ev (t := 7) rfl rfl) (ev (t := 59) rfl rfl) rfl (one_cons rfl (one_cons (IsSl.one (H6948).sl) one_nil)) hm6955 (k := 0) rfl rfl rfl) ?_
      intro w6957 hm6958
      replace hm6958 : Mem w0 w6957 (cat [sg g6953 71 (0, 0) [] [(.int .i64 0), p6947.1] [], p6947.2, sg g4482 71 (0, 0) [] [(.int .i64 0), (.slice none 0 0)] [], sg g0 T0 fr0 pre0 [(.int .i64 a0.Size), (.bool a0.Up), v0x2, v0x3, (.int .i64 a0.Lost), (.int .i64 a0.Pending), (.int .i64 a0.Every), (.int .i64 a0.Signals)] post0, h0x2, h0x3, hF]) := hm6958
      refine wpList_nil ?_
      refine nx ?_
      refine wp_seq ?_
      obtain ⟨hg6959, he⟩ := gdE he
      refine wp_region_lit ?_
      refine s_val (v := (.pointer (some ⟨g0, o0, none⟩))) (won rfl) rfl rfl (x_move rfl (ev (t := 0) rfl rfl)) ?_
      refine s_val (v := (.pointer (some ⟨g0, o0, none⟩))) (won rfl) rfl rfl (x_move rfl (ev (t := 0) rfl rfl)) ?_
      refine s_val (v := (.pointer (some ⟨g0, o0, none⟩))) (won rfl) rfl rfl (x_nil rfl (ev (t := 61) rfl rfl)) ?_
      refine s_val (v := (.pointer (some ⟨g0, o0 + 3, none⟩))) (won rfl) rfl rfl (x_field rfl fa_65x3 (ev (t := 62) rfl rfl)) ?_
      refine s_val (v := v0x3) (won rfl) rfl rfl (x_load rfl ty1x26 (ev (t := 63) rfl rfl) (seg_cell (o' := o0) (j := 3) hm6958 (k := 3) rfl hp0 rfl)) ?_
      refine s_val (v := (.int .i64 (iMin a1.N (a0.Done.length : Int)))) (won rfl) rfl rfl (x_move rfl (ev (t := 6) rfl rfl)) ?_
      refine s_val (v := (cutV v0x3 (Int.toNat (iMin a1.N (a0.Done.length : Int))) a0.Done.length 1)) (won rfl) rfl rfl (y_slice_l rfl slt_26 (ev (t := 64) rfl rfl) (ev (t := 65) rfl rfl) (H0x3).sl hg6959.1 hg6959.2) ?_
      refine s_val (v := (.pointer (some ⟨g0, o0, none⟩))) (won rfl) rfl rfl (x_nil rfl (ev (t := 60) rfl rfl)) ?_
      refine s_val (v := (.pointer (some ⟨g0, o0 + 3, none⟩))) (won rfl) rfl rfl (x_field rfl fa_65x3 (ev (t := 67) rfl rfl)) ?_
      refine s_exs (won rfl) rfl (e_store (vs := [(cutV v0x3 (Int.toNat (iMin a1.N (a0.Done.length : Int))) a0.Done.length 1)]) (o' := o0) (j := 3) rfl sz_26 (ev (t := 68) rfl rfl) (ev (t := 66) rfl rfl) (IsSl.cells ((cutV_rd (a := (Int.toNat (iMin a1.N (a0.Done.length : Int)))) (b := a0.Done.length) (H0x3.rd w0) (by have := hg6959; omega) (Nat.le_refl _))).sl) (one_cons (IsSl.one ((cutV_rd (a := (Int.toNat (iMin a1.N (a0.Done.length : Int)))) (b := a0.Done.length) (H0x3.rd w0) (by have := hg6959; omega) (Nat.le_refl _))).sl) one_nil) hm6958 (k := 3) rfl hp0 rfl) ?_
      intro w6961 hm6962
      replace hm6962 : Mem w0 w6961 (cat [sg g6953 71 (0, 0) [] [(.int .i64 0), p6947.1] [], p6947.2, sg g4482 71 (0, 0) [] [(.int .i64 0), (.slice none 0 0)] [], sg g0 T0 fr0 pre0 [(.int .i64 a0.Size), (.bool a0.Up), v0x2, (cutV v0x3 (Int.toNat (iMin a1.N (a0.Done.length : Int))) a0.Done.length 1), (.int .i64 a0.Lost), (.int .i64 a0.Pending), (.int .i64 a0.Every), (.int .i64 a0.Signals)] post0, h0x2, h0x3, hF]) := hm6962
      refine wpList_nil ?_
      refine nx ?_
      refine wp_seq ?_
      refine wp_fit [(0, 1), (1, 1), (2, 1), (3, 1), (4, 1), (5, 1), (6, 1), (7, 1), (8, 1), (9, 1), (10, 1), (11, 1), (12, 1), (13, 2)] (fun w' => Mem w0 w' (cat [sg g6953 71 (0, 0) [] [(.int .i64 0), p6947.1] [], p6947.2, sg g4482 71 (0, 0) [] [(.int .i64 0), (.slice none 0 0)] [], h0x2, h0x3, hF])) mixed (by kernel_rfl) (Mem.drew (Mem.pick [0, 1, 2, 4, 5, 6] rfl hm6962)) ?_
      have hm6963 := Mem.drew hm6962
      refine z_r (v := (.pointer (some ⟨g0, o0, none⟩))) rfl (won rfl) rfl rfl ((x_move rfl (ev (t := 0) rfl rfl))) ?_
      refine z_r (v := (.pointer (some ⟨g0, o0, none⟩))) rfl (won rfl) rfl rfl ((x_move rfl (ev (t := 0) rfl rfl))) ?_
      refine z_r (v := (.pointer (some ⟨g0, o0, none⟩))) rfl (won rfl) rfl rfl ((x_nil rfl (ev (t := 70) rfl rfl))) ?_
      refine z_r (v := (.pointer (some ⟨g0, o0 + 5, none⟩))) rfl (won rfl) rfl rfl ((x_field rfl fa_65x5 (ev (t := 71) rfl rfl))) ?_
      refine z_r (v := (.int .i64 a0.Pending)) rfl (won rfl) rfl rfl ((x_load rfl ty1x3 (ev (t := 72) rfl rfl) (seg_cell (o' := o0) (j := 5) hm6963 (k := 3) rfl hp0 rfl))) ?_
      refine z_r (v := (.pointer (some ⟨g0, o0, none⟩))) rfl (won rfl) rfl rfl ((x_move rfl (ev (t := 0) rfl rfl))) ?_
      refine z_r (v := (.pointer (some ⟨g0, o0, none⟩))) rfl (won rfl) rfl rfl ((x_nil rfl (ev (t := 74) rfl rfl))) ?_
      refine z_r (v := (.pointer (some ⟨g0, o0 + 3, none⟩))) rfl (won rfl) rfl rfl ((x_field rfl fa_65x3 (ev (t := 75) rfl rfl))) ?_
      refine z_r (v := (cutV v0x3 (Int.toNat (iMin a1.N (a0.Done.length : Int))) a0.Done.length 1)) rfl (won rfl) rfl rfl ((x_load rfl ty1x26 (ev (t := 76) rfl rfl) (seg_cell (o' := o0) (j := 3) hm6963 (k := 3) rfl hp0 rfl))) ?_
      refine z_r (v := (.int .i64 ((slc a0.Done (Int.toNat (iMin a1.N (a0.Done.length : Int))) a0.Done.length).length : Int))) rfl (won rfl) rfl rfl ((x_len rfl slt_26 (ev (t := 77) rfl rfl) ((cutV_rd (a := (Int.toNat (iMin a1.N (a0.Done.length : Int)))) (b := a0.Done.length) (H0x3.rd w0) (by have := hg6959; omega) (Nat.le_refl _))).sl)) ?_
      refine z_r (v := (.int .i64 (iMin a0.Pending ((slc a0.Done (Int.toNat (iMin a1.N (a0.Done.length : Int))) a0.Done.length).length : Int)))) rfl (won rfl) rfl rfl ((x_min rfl (ev (t := 73) rfl rfl) (ev (t := 78) rfl rfl))) ?_
      refine z_r (v := (.pointer (some ⟨g0, o0, none⟩))) rfl (won rfl) rfl rfl ((x_nil rfl (ev (t := 69) rfl rfl))) ?_
      refine z_r (v := (.pointer (some ⟨g0, o0 + 5, none⟩))) rfl (won rfl) rfl rfl ((x_field rfl fa_65x5 (ev (t := 80) rfl rfl))) ?_
      refine z_exs rfl (won rfl) rfl (e_store (vs := [(.int .i64 (iMin a0.Pending ((slc a0.Done (Int.toNat (iMin a1.N (a0.Done.length : Int))) a0.Done.length).length : Int)))]) (o' := o0) (j := 5) rfl sz_3 (ev (t := 81) rfl rfl) (ev (t := 79) rfl rfl) rfl rfl hm6963 (k := 3) rfl hp0 rfl) ?_
      intro w6964 hm6965
      replace hm6965 : Mem w0 w6964 (cat [sg g6953 71 (0, 0) [] [(.int .i64 0), p6947.1] [], p6947.2, sg g4482 71 (0, 0) [] [(.int .i64 0), (.slice none 0 0)] [], sg g0 T0 fr0 pre0 [(.int .i64 a0.Size), (.bool a0.Up), v0x2, (cutV v0x3 (Int.toNat (iMin a1.N (a0.Done.length : Int))) a0.Done.length 1), (.int .i64 a0.Lost), (.int .i64 (iMin a0.Pending ((slc a0.Done (Int.toNat (iMin a1.N (a0.Done.length : Int))) a0.Done.length).length : Int))), (.int .i64 a0.Every), (.int .i64 a0.Signals)] post0, h0x2, h0x3, hF]) := hm6965
      refine ⟨Mem.pick [0, 1, 2, 4, 5, 6] rfl hm6965, ?_⟩
      refine z_nil ?_
      refine nx ?_
      refine wp_seq ?_
      refine wp_region_lit ?_
      refine s_val (v := (.agg #[(.int .i64 0), p6947.1])) (won rfl) rfl rfl (x_loadN (vs := [(.int .i64 0), p6947.1]) rfl tyN_71 (ev (t := 7) rfl rfl) (seg_cells (o' := 0) (j := 0) hm6965 (k := 0) rfl rfl rfl)) ?_
      refine s_exs (won rfl) rfl (e_store (vs := [(.int .i64 0), p6947.1]) (o' := 0) (j := 0) rfl sz_71 (ev (t := 4) rfl rfl) (ev (t := 82) rfl rfl) rfl (one_cons rfl (one_cons (IsSl.one (H6948).sl) one_nil)) hm6965 (k := 2) rfl rfl rfl) ?_
      intro w6966 hm6967
      replace hm6967 : Mem w0 w6966 (cat [sg g6953 71 (0, 0) [] [(.int .i64 0), p6947.1] [], p6947.2, sg g4482 71 (0, 0) [] [(.int .i64 0), p6947.1] [], sg g0 T0 fr0 pre0 [(.int .i64 a0.Size), (.bool a0.Up), v0x2, (cutV v0x3 (Int.toNat (iMin a1.N (a0.Done.length : Int))) a0.Done.length 1), (.int .i64 a0.Lost), (.int .i64 (iMin a0.Pending ((slc a0.Done (Int.toNat (iMin a1.N (a0.Done.length : Int))) a0.Done.length).length : Int))), (.int .i64 a0.Every), (.int .i64 a0.Signals)] post0, h0x2, h0x3, hF]) := hm6967
      refine wpList_nil ?_
      have hm6968 : Mem w0 w6966 (cat [p6947.2, sg g4482 71 (0, 0) [] [(.int .i64 0), p6947.1] [], sg g0 T0 fr0 pre0 [(.int .i64 a0.Size), (.bool a0.Up), v0x2, (cutV v0x3 (Int.toNat (iMin a1.N (a0.Done.length : Int))) a0.Done.length 1), (.int .i64 a0.Lost), (.int .i64 (iMin a0.Pending ((slc a0.Done (Int.toNat (iMin a1.N (a0.Done.length : Int))) a0.Done.length).length : Int))), (.int .i64 a0.Every), (.int .i64 a0.Signals)] post0, h0x2, h0x3, hF]) := Mem.pick [1, 2, 3, 4, 5, 6] rfl hm6967
      refine nx ?_
      refine wp_ret ?_
      refine rb ?_
      refine xr ?_
      obtain rfl := Option.some.inj he
      replace he := outE hk6475
      obtain rfl := Option.some.inj he
      refine r_ret (v := (.agg #[(.int .i64 0), p6947.1])) (rv_one rfl (RVs.cell (cs := [(.int .i64 0), p6947.1]) rfl rfl tyN_71 (seg_cells (o' := 0) (j := 0) hm6968 (k := 1) rfl rfl rfl) RVs.nil)) rfl ?_
      exact ⟨v0x2, h0x2, (cutV v0x3 (Int.toNat (iMin a1.N (a0.Done.length : Int))) a0.Done.length 1), h0x3, p6947.1, p6947.2, rfl, H0x2, (OwF.cut (a := (Int.toNat (iMin a1.N (a0.Done.length : Int)))) (b := a0.Done.length) H0x3 (by have := hg6959; omega) (Nat.le_refl _)), H6948, Mem.pick [2, 3, 4, 0, 5] rfl hm6968⟩
    ·
     replace he := bifF he hb6924
     refine c_false rfl (p := (decide (a1.Kind = 3))) rfl rfl hb6924 ?_
     refine wp_seq ?_
     refine wp_region_lit ?_
     refine s_val (v := (.bool (decide (a1.Kind = 4)))) (won rfl) rfl rfl (x_eql rfl (ev (t := 10) rfl rfl) rfl) ?_
     refine s_val (v := (.bool (decide (a1.Kind = 4)))) (won rfl) rfl rfl (x_assign rfl (ev (t := 84) rfl rfl)) ?_
     refine wpList_nil ?_
     refine nx ?_
     rcases Bool.eq_false_or_eq_true ((decide (a1.Kind = 4))) with hb6969 | hb6969
     ·
      replace he := bifT he hb6969
      refine c_true rfl (p := (decide (a1.Kind = 4))) rfl rfl hb6969 ?_
      refine wp_seq ?_
      obtain ⟨hg7501, he⟩ := gdE he
      obtain ⟨hg8001, he⟩ := gdE he
      obtain ⟨hz7000, hze7000⟩ : ∃ hz : Hp, hz = cat [sg g4482 71 (0, 0) [] [(.int .i64 0), (.slice none 0 0)] [], sg g4477 74 (0, 0) [] [(.int .i64 a1.Kind), (.int .i64 a1.N)] [], hF] := ⟨_, rfl⟩
      have hm7000 : Mem w0 w4483 (cat [sg g0 T0 fr0 pre0 [(.int .i64 a0.Size), (.bool a0.Up), v0x2, v0x3, (.int .i64 a0.Lost), (.int .i64 a0.Pending), (.int .i64 a0.Every), (.int .i64 a0.Signals)] post0, h0x2, h0x3, hz7000]) := by rw [hze7000]; exact Mem.grp [sg g0 T0 fr0 pre0 [(.int .i64 a0.Size), (.bool a0.Up), v0x2, v0x3, (.int .i64 a0.Lost), (.int .i64 a0.Pending), (.int .i64 a0.Every), (.int .i64 a0.Signals)] post0, h0x2, h0x3] [sg g4482 71 (0, 0) [] [(.int .i64 0), (.slice none 0 0)] [], sg g4477 74 (0, 0) [] [(.int .i64 a1.Kind), (.int .i64 a1.N)] [], hF] (Mem.pick [2, 3, 4, 0, 1, 5] rfl hm4484)
      refine wp_drawF (I := fun f b a w => ∃ (vs : Nat → Value) (g7003 : Nat) (p7503 : Value × Hp) (p8003 : Value × Hp) (g8202 : Nat), a = fr 117 (sel b [(0, 85), (1, 86), (2, 87), (3, 88), (4, 89), (5, 90), (6, 91), (7, 92), (8, 93), (9, 94), (10, 95), (11, 96), (12, 8)] vs f) ∧ (b 0 = true → vs 0 = (.slice (some ⟨g7003, 0, none⟩) 0 0)) ∧ (b 1 = true → vs 1 = (.pointer (some ⟨g0, o0, none⟩))) ∧ (b 2 = true → vs 2 = (.pointer (some ⟨g0, o0, none⟩))) ∧ (b 3 = true → vs 3 = (.pointer (some ⟨g0, o0 + 3, none⟩))) ∧ (b 4 = true → vs 4 = v0x3) ∧ (b 5 = true → vs 5 = p7503.1) ∧ (b 6 = true → vs 6 = (.pointer (some ⟨g0, o0, none⟩))) ∧ (b 7 = true → vs 7 = (.pointer (some ⟨g0, o0, none⟩))) ∧ (b 8 = true → vs 8 = (.pointer (some ⟨g0, o0 + 2, none⟩))) ∧ (b 9 = true → vs 9 = v0x2) ∧ (b 10 = true → vs 10 = p8003.1) ∧ (b 11 = true → vs 11 = (.agg #[(.int .i64 0), p8003.1])) ∧ (b 12 = true → vs 12 = (.pointer (some ⟨g8202, 0, none⟩))) ∧ (b 0 = true → OwF 3 (FK.int .i64) (.slice (some ⟨g7003, 0, none⟩) 0 0) ([] : List Int) (sg g7003 3 (0, 0) [] (encs (FK.int .i64) ([] : List Int)) [])) ∧ (b 5 = true → OwF 3 (FK.int .i64) p7503.1 (([] : List Int) ++ a0.Done) p7503.2) ∧ (b 10 = true → OwF 3 (FK.int .i64) p8003.1 ((([] : List Int) ++ a0.Done) ++ a0.Posted) p8003.2) ∧ Mem w0 w (cat [sg g0 T0 fr0 pre0 [(.int .i64 a0.Size), (.bool a0.Up), v0x2, v0x3, (.int .i64 a0.Lost), (.int .i64 a0.Pending), (.int .i64 a0.Every), (.int .i64 a0.Signals)] post0, h0x2, h0x3, hz7000, (bif b 5 then [] else (bif b 0 then (sg g7003 3 (0, 0) [] (encs (FK.int .i64) ([] : List Int)) []) else [])), (bif b 10 then [] else (bif b 5 then p7503.2 else [])), (bif b 10 then p8003.2 else []), (bif b 13 then sg g8202 71 (0, 0) [] [(.int .i64 0), p8003.1] [] else (bif b 12 then sg g8202 71 (0, 0) [] [(.int .i64 0), (.slice none 0 0)] [] else []))])) mixed (by kernel_rfl) ⟨fun _ => undef, 0, (undef, []), (undef, []), 0, (by rw [sel_false]), fun h => fno h, fun h => fno h, fun h => fno h, fun h => fno h, fun h => fno h, fun h => fno h, fun h => fno h, fun h => fno h, fun h => fno h, fun h => fno h, fun h => fno h, fun h => fno h, fun h => fno h, fun h => fno h, fun h => fno h, fun h => fno h, Mem.drew (Mem.pick [0, 1, 2, 3, 1000, 1001, 1002, 1003] rfl hm7000)⟩ (steps_cons (i := 0) ?_ (steps_cons (i := 1) ?_ (steps_cons (i := 2) ?_ (steps_cons (i := 3) ?_ (steps_cons (i := 4) ?_ (steps_cons (i := 5) ?_ (steps_cons (i := 6) ?_ (steps_cons (i := 7) ?_ (steps_cons (i := 8) ?_ (steps_cons (i := 9) ?_ (steps_cons (i := 10) ?_ (steps_cons (i := 11) ?_ (steps_cons (i := 12) ?_ (steps_cons (i := 13) ?_ steps_nil)))))))))))))) ?_
      ·
       intro b a w hI hbi hn hc K hK
       obtain ⟨vs, g7003, p7503, p8003, g8202, ha, y0, y1, y2, y3, y4, y5, y6, y7, y8, y9, y10, y11, y12, H7004, H7504, H8004, hm⟩ := hI
       subst ha
       have b5 : b 5 = false := later (j := 5) hc rfl (i := 0) (da rfl) hbi
       have b10 : b 10 = false := later (j := 10) hc rfl (i := 5) (da rfl) b5
       have b11 : b 11 = false := later (j := 11) hc rfl (i := 10) (da rfl) b10
       have b13 : b 13 = false := later (j := 13) hc rfl (i := 0) (da rfl) hbi
       have hm8401 : Mem w0 w (cat [sg g0 T0 fr0 pre0 [(.int .i64 a0.Size), (.bool a0.Up), v0x2, v0x3, (.int .i64 a0.Lost), (.int .i64 a0.Pending), (.int .i64 a0.Every), (.int .i64 a0.Signals)] post0, h0x2, h0x3, hz7000, (bif b 12 then sg g8202 71 (0, 0) [] [(.int .i64 0), (.slice none 0 0)] [] else [])]) := Mem.pick [0, 1, 2, 3, 7] rfl (Mem.cg (B := [sg g0 T0 fr0 pre0 [(.int .i64 a0.Size), (.bool a0.Up), v0x2, v0x3, (.int .i64 a0.Lost), (.int .i64 a0.Pending), (.int .i64 a0.Every), (.int .i64 a0.Signals)] post0, h0x2, h0x3, hz7000, [], [], [], (bif b 12 then sg g8202 71 (0, 0) [] [(.int .i64 0), (.slice none 0 0)] [] else [])]) (cat_cons rfl (cat_cons rfl (cat_cons rfl (cat_cons rfl (cat_cons (off_ b5 (off_ hbi rfl)) (cat_cons (off_ b10 (off_ b5 rfl)) (cat_cons (off_ b10 rfl) (cat_cons (off_ b13 rfl) rfl)))))))) hm)
       refine e_exv (i := 0) hbi rfl rfl (won rfl) rfl rfl (e_litp (cells := []) (ps := []) rfl slt_26 (pmap_lit pmap_nil) (fun w1 => run_bslice0 slt_26) hm8401) ?_
       rintro g7003 w7001 hm7002
       have H7004 : OwF 3 (FK.int .i64) (.slice (some ⟨g7003, 0, none⟩) 0 0) ([] : List Int) (sg g7003 3 (0, 0) [] (encs (FK.int .i64) ([] : List Int)) []) := OwF.lit g7003 ([] : List Int) 0 rfl (by decide)
       replace hm7002 : Mem w0 w7001 (cat [(sg g7003 3 (0, 0) [] (encs (FK.int .i64) ([] : List Int)) []), sg g0 T0 fr0 pre0 [(.int .i64 a0.Size), (.bool a0.Up), v0x2, v0x3, (.int .i64 a0.Lost), (.int .i64 a0.Pending), (.int .i64 a0.Every), (.int .i64 a0.Signals)] post0, h0x2, h0x3, hz7000, (bif b 12 then sg g8202 71 (0, 0) [] [(.int .i64 0), (.slice none 0 0)] [] else [])]) := hm7002
       exact hK _ _ ⟨_, g7003, p7503, p8003, g8202, rfl, fun _ => rfl, y1, y2, y3, y4, y5, y6, y7, y8, y9, y10, y11, y12, fun _ => H7004, H7504, H8004, Mem.gc (A := [sg g0 T0 fr0 pre0 [(.int .i64 a0.Size), (.bool a0.Up), v0x2, v0x3, (.int .i64 a0.Lost), (.int .i64 a0.Pending), (.int .i64 a0.Every), (.int .i64 a0.Signals)] post0, h0x2, h0x3, hz7000, (sg g7003 3 (0, 0) [] (encs (FK.int .i64) ([] : List Int)) []), [], [], (bif b 12 then sg g8202 71 (0, 0) [] [(.int .i64 0), (.slice none 0 0)] [] else [])]) (cat_cons rfl (cat_cons rfl (cat_cons rfl (cat_cons rfl (cat_cons (off_ b5 (on_ rfl rfl)) (cat_cons (off_ b10 (off_ b5 rfl)) (cat_cons (off_ b10 rfl) (cat_cons (off_ b13 rfl) rfl)))))))) (Mem.pick [1, 2, 3, 4, 0, 1005, 1006, 5] rfl hm7002)⟩
      ·
       intro b a w hI hbi hn hc K hK
       obtain ⟨vs, g7003, p7503, p8003, g8202, ha, y0, y1, y2, y3, y4, y5, y6, y7, y8, y9, y10, y11, y12, H7004, H7504, H8004, hm⟩ := hI
       subst ha
       have b2 : b 2 = false := later (j := 2) hc rfl (i := 1) (da rfl) hbi
       have b3 : b 3 = false := later (j := 3) hc rfl (i := 2) (da rfl) b2
       have b4 : b 4 = false := later (j := 4) hc rfl (i := 3) (da rfl) b3
       have b5 : b 5 = false := later (j := 5) hc rfl (i := 4) (da rfl) b4
       have b10 : b 10 = false := later (j := 10) hc rfl (i := 5) (da rfl) b5
       have b11 : b 11 = false := later (j := 11) hc rfl (i := 10) (da rfl) b10
       have b13 : b 13 = false := later (j := 13) hc rfl (i := 1) (da rfl) hbi
       have hm8404 : Mem w0 w (cat [sg g0 T0 fr0 pre0 [(.int .i64 a0.Size), (.bool a0.Up), v0x2, v0x3, (.int .i64 a0.Lost), (.int .i64 a0.Pending), (.int .i64 a0.Every), (.int .i64 a0.Signals)] post0, h0x2, h0x3, hz7000, (bif b 0 then (sg g7003 3 (0, 0) [] (encs (FK.int .i64) ([] : List Int)) []) else []), (bif b 12 then sg g8202 71 (0, 0) [] [(.int .i64 0), (.slice none 0 0)] [] else [])]) := Mem.pick [0, 1, 2, 3, 4, 7] rfl (Mem.cg (B := [sg g0 T0 fr0 pre0 [(.int .i64 a0.Size), (.bool a0.Up), v0x2, v0x3, (.int .i64 a0.Lost), (.int .i64 a0.Pending), (.int .i64 a0.Every), (.int .i64 a0.Signals)] post0, h0x2, h0x3, hz7000, (bif b 0 then (sg g7003 3 (0, 0) [] (encs (FK.int .i64) ([] : List Int)) []) else []), [], [], (bif b 12 then sg g8202 71 (0, 0) [] [(.int .i64 0), (.slice none 0 0)] [] else [])]) (cat_cons rfl (cat_cons rfl (cat_cons rfl (cat_cons rfl (cat_cons (off_ b5 rfl) (cat_cons (off_ b10 (off_ b5 rfl)) (cat_cons (off_ b10 rfl) (cat_cons (off_ b13 rfl) rfl)))))))) hm)
       refine e_val (i := 1) hbi rfl rfl (v := (.pointer (some ⟨g0, o0, none⟩))) (won rfl) rfl rfl (x_move rfl (ev (t := 0) (v := (.pointer (some ⟨g0, o0, none⟩))) rfl ((sel_no rfl).trans rfl))) ?_
       exact hK _ _ ⟨_, g7003, p7503, p8003, g8202, rfl, y0, fun _ => rfl, y2, y3, y4, y5, y6, y7, y8, y9, y10, y11, y12, H7004, H7504, H8004, Mem.gc (A := [sg g0 T0 fr0 pre0 [(.int .i64 a0.Size), (.bool a0.Up), v0x2, v0x3, (.int .i64 a0.Lost), (.int .i64 a0.Pending), (.int .i64 a0.Every), (.int .i64 a0.Signals)] post0, h0x2, h0x3, hz7000, (bif b 0 then (sg g7003 3 (0, 0) [] (encs (FK.int .i64) ([] : List Int)) []) else []), [], [], (bif b 12 then sg g8202 71 (0, 0) [] [(.int .i64 0), (.slice none 0 0)] [] else [])]) (cat_cons rfl (cat_cons rfl (cat_cons rfl (cat_cons rfl (cat_cons (off_ b5 rfl) (cat_cons (off_ b10 (off_ b5 rfl)) (cat_cons (off_ b10 rfl) (cat_cons (off_ b13 rfl) rfl)))))))) (Mem.pick [0, 1, 2, 3, 4, 1005, 1006, 5] rfl hm8404)⟩
      ·
       intro b a w hI hbi hn hc K hK
       obtain ⟨vs, g7003, p7503, p8003, g8202, ha, y0, y1, y2, y3, y4, y5, y6, y7, y8, y9, y10, y11, y12, H7004, H7504, H8004, hm⟩ := hI
       subst ha
       have b1 : b 1 = true := hn 1 (da rfl)
       have b3 : b 3 = false := later (j := 3) hc rfl (i := 2) (da rfl) hbi
       have b4 : b 4 = false := later (j := 4) hc rfl (i := 3) (da rfl) b3
       have b5 : b 5 = false := later (j := 5) hc rfl (i := 4) (da rfl) b4
       have b10 : b 10 = false := later (j := 10) hc rfl (i := 5) (da rfl) b5
       have b11 : b 11 = false := later (j := 11) hc rfl (i := 10) (da rfl) b10
       have b13 : b 13 = false := later (j := 13) hc rfl (i := 2) (da rfl) hbi
       have hm8407 : Mem w0 w (cat [sg g0 T0 fr0 pre0 [(.int .i64 a0.Size), (.bool a0.Up), v0x2, v0x3, (.int .i64 a0.Lost), (.int .i64 a0.Pending), (.int .i64 a0.Every), (.int .i64 a0.Signals)] post0, h0x2, h0x3, hz7000, (bif b 0 then (sg g7003 3 (0, 0) [] (encs (FK.int .i64) ([] : List Int)) []) else []), (bif b 12 then sg g8202 71 (0, 0) [] [(.int .i64 0), (.slice none 0 0)] [] else [])]) := Mem.pick [0, 1, 2, 3, 4, 7] rfl (Mem.cg (B := [sg g0 T0 fr0 pre0 [(.int .i64 a0.Size), (.bool a0.Up), v0x2, v0x3, (.int .i64 a0.Lost), (.int .i64 a0.Pending), (.int .i64 a0.Every), (.int .i64 a0.Signals)] post0, h0x2, h0x3, hz7000, (bif b 0 then (sg g7003 3 (0, 0) [] (encs (FK.int .i64) ([] : List Int)) []) else []), [], [], (bif b 12 then sg g8202 71 (0, 0) [] [(.int .i64 0), (.slice none 0 0)] [] else [])]) (cat_cons rfl (cat_cons rfl (cat_cons rfl (cat_cons rfl (cat_cons (off_ b5 rfl) (cat_cons (off_ b10 (off_ b5 rfl)) (cat_cons (off_ b10 rfl) (cat_cons (off_ b13 rfl) rfl)))))))) hm)
       refine e_val (i := 2) hbi rfl rfl (v := (.pointer (some ⟨g0, o0, none⟩))) (won rfl) rfl rfl (x_nil rfl (ev (t := 86) (v := (.pointer (some ⟨g0, o0, none⟩))) rfl ((sel_on (p := (1, 86)) rfl b1).trans (y1 b1)))) ?_
       exact hK _ _ ⟨_, g7003, p7503, p8003, g8202, rfl, y0, y1, fun _ => rfl, y3, y4, y5, y6, y7, y8, y9, y10, y11, y12, H7004, H7504, H8004, Mem.gc (A := [sg g0 T0 fr0 pre0 [(.int .i64 a0.Size), (.bool a0.Up), v0x2, v0x3, (.int .i64 a0.Lost), (.int .i64 a0.Pending), (.int .i64 a0.Every), (.int .i64 a0.Signals)] post0, h0x2, h0x3, hz7000, (bif b 0 then (sg g7003 3 (0, 0) [] (encs (FK.int .i64) ([] : List Int)) []) else []), [], [], (bif b 12 then sg g8202 71 (0, 0) [] [(.int .i64 0), (.slice none 0 0)] [] else [])]) (cat_cons rfl (cat_cons rfl (cat_cons rfl (cat_cons rfl (cat_cons (off_ b5 rfl) (cat_cons (off_ b10 (off_ b5 rfl)) (cat_cons (off_ b10 rfl) (cat_cons (off_ b13 rfl) rfl)))))))) (Mem.pick [0, 1, 2, 3, 4, 1005, 1006, 5] rfl hm8407)⟩
      ·
       intro b a w hI hbi hn hc K hK
       obtain ⟨vs, g7003, p7503, p8003, g8202, ha, y0, y1, y2, y3, y4, y5, y6, y7, y8, y9, y10, y11, y12, H7004, H7504, H8004, hm⟩ := hI
       subst ha
       have b2 : b 2 = true := hn 2 (da rfl)
       have b1 : b 1 = true := hc 2 _ rfl b2 1 (da rfl)
       have b4 : b 4 = false := later (j := 4) hc rfl (i := 3) (da rfl) hbi
       have b5 : b 5 = false := later (j := 5) hc rfl (i := 4) (da rfl) b4
       have b10 : b 10 = false := later (j := 10) hc rfl (i := 5) (da rfl) b5
       have b11 : b 11 = false := later (j := 11) hc rfl (i := 10) (da rfl) b10
       have b13 : b 13 = false := later (j := 13) hc rfl (i := 3) (da rfl) hbi
       have hm8410 : Mem w0 w (cat [sg g0 T0 fr0 pre0 [(.int .i64 a0.Size), (.bool a0.Up), v0x2, v0x3, (.int .i64 a0.Lost), (.int .i64 a0.Pending), (.int .i64 a0.Every), (.int .i64 a0.Signals)] post0, h0x2, h0x3, hz7000, (bif b 0 then (sg g7003 3 (0, 0) [] (encs (FK.int .i64) ([] : List Int)) []) else []), (bif b 12 then sg g8202 71 (0, 0) [] [(.int .i64 0), (.slice none 0 0)] [] else [])]) := Mem.pick [0, 1, 2, 3, 4, 7] rfl (Mem.cg (B := [sg g0 T0 fr0 pre0 [(.int .i64 a0.Size), (.bool a0.Up), v0x2, v0x3, (.int .i64 a0.Lost), (.int .i64 a0.Pending), (.int .i64 a0.Every), (.int .i64 a0.Signals)] post0, h0x2, h0x3, hz7000, (bif b 0 then (sg g7003 3 (0, 0) [] (encs (FK.int .i64) ([] : List Int)) []) else []), [], [], (bif b 12 then sg g8202 71 (0, 0) [] [(.int .i64 0), (.slice none 0 0)] [] else [])]) (cat_cons rfl (cat_cons rfl (cat_cons rfl (cat_cons rfl (cat_cons (off_ b5 rfl) (cat_cons (off_ b10 (off_ b5 rfl)) (cat_cons (off_ b10 rfl) (cat_cons (off_ b13 rfl) rfl)))))))) hm)
       refine e_val (i := 3) hbi rfl rfl (v := (.pointer (some ⟨g0, o0 + 3, none⟩))) (won rfl) rfl rfl (x_field rfl fa_65x3 (ev (t := 87) (v := (.pointer (some ⟨g0, o0, none⟩))) rfl ((sel_on (p := (2, 87)) rfl b2).trans (y2 b2)))) ?_
       exact hK _ _ ⟨_, g7003, p7503, p8003, g8202, rfl, y0, y1, y2, fun _ => rfl, y4, y5, y6, y7, y8, y9, y10, y11, y12, H7004, H7504, H8004, Mem.gc (A := [sg g0 T0 fr0 pre0 [(.int .i64 a0.Size), (.bool a0.Up), v0x2, v0x3, (.int .i64 a0.Lost), (.int .i64 a0.Pending), (.int .i64 a0.Every), (.int .i64 a0.Signals)] post0, h0x2, h0x3, hz7000, (bif b 0 then (sg g7003 3 (0, 0) [] (encs (FK.int .i64) ([] : List Int)) []) else []), [], [], (bif b 12 then sg g8202 71 (0, 0) [] [(.int .i64 0), (.slice none 0 0)] [] else [])]) (cat_cons rfl (cat_cons rfl (cat_cons rfl (cat_cons rfl (cat_cons (off_ b5 rfl) (cat_cons (off_ b10 (off_ b5 rfl)) (cat_cons (off_ b10 rfl) (cat_cons (off_ b13 rfl) rfl)))))))) (Mem.pick [0, 1, 2, 3, 4, 1005, 1006, 5] rfl hm8410)⟩
      ·
       intro b a w hI hbi hn hc K hK
       obtain ⟨vs, g7003, p7503, p8003, g8202, ha, y0, y1, y2, y3, y4, y5, y6, y7, y8, y9, y10, y11, y12, H7004, H7504, H8004, hm⟩ := hI
       subst ha
       have b3 : b 3 = true := hn 3 (da rfl)
       have b2 : b 2 = true := hc 3 _ rfl b3 2 (da rfl)
       have b1 : b 1 = true := hc 2 _ rfl b2 1 (da rfl)
       have b5 : b 5 = false := later (j := 5) hc rfl (i := 4) (da rfl) hbi
       have b10 : b 10 = false := later (j := 10) hc rfl (i := 5) (da rfl) b5
       have b11 : b 11 = false := later (j := 11) hc rfl (i := 10) (da rfl) b10
       have b13 : b 13 = false := later (j := 13) hc rfl (i := 4) (da rfl) hbi
       have hm8413 : Mem w0 w (cat [sg g0 T0 fr0 pre0 [(.int .i64 a0.Size), (.bool a0.Up), v0x2, v0x3, (.int .i64 a0.Lost), (.int .i64 a0.Pending), (.int .i64 a0.Every), (.int .i64 a0.Signals)] post0, h0x2, h0x3, hz7000, (bif b 0 then (sg g7003 3 (0, 0) [] (encs (FK.int .i64) ([] : List Int)) []) else []), (bif b 12 then sg g8202 71 (0, 0) [] [(.int .i64 0), (.slice none 0 0)] [] else [])]) := Mem.pick [0, 1, 2, 3, 4, 7] rfl (Mem.cg (B := [sg g0 T0 fr0 pre0 [(.int .i64 a0.Size), (.bool a0.Up), v0x2, v0x3, (.int .i64 a0.Lost), (.int .i64 a0.Pending), (.int .i64 a0.Every), (.int .i64 a0.Signals)] post0, h0x2, h0x3, hz7000, (bif b 0 then (sg g7003 3 (0, 0) [] (encs (FK.int .i64) ([] : List Int)) []) else []), [], [], (bif b 12 then sg g8202 71 (0, 0) [] [(.int .i64 0), (.slice none 0 0)] [] else [])]) (cat_cons rfl (cat_cons rfl (cat_cons rfl (cat_cons rfl (cat_cons (off_ b5 rfl) (cat_cons (off_ b10 (off_ b5 rfl)) (cat_cons (off_ b10 rfl) (cat_cons (off_ b13 rfl) rfl)))))))) hm)
       refine e_val (i := 4) hbi rfl rfl (v := v0x3) (won rfl) rfl rfl (x_load rfl ty1x26 (ev (t := 88) (v := (.pointer (some ⟨g0, o0 + 3, none⟩))) rfl ((sel_on (p := (3, 88)) rfl b3).trans (y3 b3))) (seg_cell (o' := o0) (j := 3) hm8413 (k := 0) rfl hp0 rfl)) ?_
       exact hK _ _ ⟨_, g7003, p7503, p8003, g8202, rfl, y0, y1, y2, y3, fun _ => rfl, y5, y6, y7, y8, y9, y10, y11, y12, H7004, H7504, H8004, Mem.gc (A := [sg g0 T0 fr0 pre0 [(.int .i64 a0.Size), (.bool a0.Up), v0x2, v0x3, (.int .i64 a0.Lost), (.int .i64 a0.Pending), (.int .i64 a0.Every), (.int .i64 a0.Signals)] post0, h0x2, h0x3, hz7000, (bif b 0 then (sg g7003 3 (0, 0) [] (encs (FK.int .i64) ([] : List Int)) []) else []), [], [], (bif b 12 then sg g8202 71 (0, 0) [] [(.int .i64 0), (.slice none 0 0)] [] else [])]) (cat_cons rfl (cat_cons rfl (cat_cons rfl (cat_cons rfl (cat_cons (off_ b5 rfl) (cat_cons (off_ b10 (off_ b5 rfl)) (cat_cons (off_ b10 rfl) (cat_cons (off_ b13 rfl) rfl)))))))) (Mem.pick [0, 1, 2, 3, 4, 1005, 1006, 5] rfl hm8413)⟩
      ·
       intro b a w hI hbi hn hc K hK
       obtain ⟨vs, g7003, p7503, p8003, g8202, ha, y0, y1, y2, y3, y4, y5, y6, y7, y8, y9, y10, y11, y12, H7004, H7504, H8004, hm⟩ := hI
       subst ha
       have b0 : b 0 = true := hn 0 (da rfl)
       have b4 : b 4 = true := hn 4 (da rfl)
       have b3 : b 3 = true := hc 4 _ rfl b4 3 (da rfl)
       have b2 : b 2 = true := hc 3 _ rfl b3 2 (da rfl)
       have b1 : b 1 = true := hc 2 _ rfl b2 1 (da rfl)
       have b10 : b 10 = false := later (j := 10) hc rfl (i := 5) (da rfl) hbi
       have b11 : b 11 = false := later (j := 11) hc rfl (i := 10) (da rfl) b10
       have b13 : b 13 = false := later (j := 13) hc rfl (i := 5) (da rfl) hbi
       have H7004 := H7004 b0
       have hm8416 : Mem w0 w (cat [sg g0 T0 fr0 pre0 [(.int .i64 a0.Size), (.bool a0.Up), v0x2, v0x3, (.int .i64 a0.Lost), (.int .i64 a0.Pending), (.int .i64 a0.Every), (.int .i64 a0.Signals)] post0, h0x2, h0x3, hz7000, (sg g7003 3 (0, 0) [] (encs (FK.int .i64) ([] : List Int)) []), (bif b 12 then sg g8202 71 (0, 0) [] [(.int .i64 0), (.slice none 0 0)] [] else [])]) := Mem.pick [0, 1, 2, 3, 4, 7] rfl (Mem.cg (B := [sg g0 T0 fr0 pre0 [(.int .i64 a0.Size), (.bool a0.Up), v0x2, v0x3, (.int .i64 a0.Lost), (.int .i64 a0.Pending), (.int .i64 a0.Every), (.int .i64 a0.Signals)] post0, h0x2, h0x3, hz7000, (sg g7003 3 (0, 0) [] (encs (FK.int .i64) ([] : List Int)) []), [], [], (bif b 12 then sg g8202 71 (0, 0) [] [(.int .i64 0), (.slice none 0 0)] [] else [])]) (cat_cons rfl (cat_cons rfl (cat_cons rfl (cat_cons rfl (cat_cons (off_ hbi (on_ b0 rfl)) (cat_cons (off_ b10 (off_ hbi rfl)) (cat_cons (off_ b10 rfl) (cat_cons (off_ b13 rfl) rfl)))))))) hm)
       refine e_exv (i := 5) hbi rfl rfl (won rfl) rfl rfl (e_append (bytes := 8) rfl slt_26 rfl (ev (t := 85) (v := (.slice (some ⟨g7003, 0, none⟩) 0 0)) rfl ((sel_on (p := (0, 85)) rfl b0).trans (y0 b0))) (ev (t := 89) (v := v0x3) rfl ((sel_on (p := (4, 89)) rfl b4).trans (y4 b4))) H7004 (k := 4) rfl (H0x3.rd w0) (Sub.at_ (k := 2) rfl) hm8416 hg7501 (len63 hg7501 rfl)) ?_
       rintro p7503 w7505 ⟨H7504, hm7506⟩
       replace hm7506 : Mem w0 w7505 (cat [sg g0 T0 fr0 pre0 [(.int .i64 a0.Size), (.bool a0.Up), v0x2, v0x3, (.int .i64 a0.Lost), (.int .i64 a0.Pending), (.int .i64 a0.Every), (.int .i64 a0.Signals)] post0, h0x2, h0x3, hz7000, p7503.2, (bif b 12 then sg g8202 71 (0, 0) [] [(.int .i64 0), (.slice none 0 0)] [] else [])]) := hm7506
       exact hK _ _ ⟨_, g7003, p7503, p8003, g8202, rfl, y0, y1, y2, y3, y4, fun _ => rfl, y6, y7, y8, y9, y10, y11, y12, fun _ => H7004, fun _ => H7504, H8004, Mem.gc (A := [sg g0 T0 fr0 pre0 [(.int .i64 a0.Size), (.bool a0.Up), v0x2, v0x3, (.int .i64 a0.Lost), (.int .i64 a0.Pending), (.int .i64 a0.Every), (.int .i64 a0.Signals)] post0, h0x2, h0x3, hz7000, [], p7503.2, [], (bif b 12 then sg g8202 71 (0, 0) [] [(.int .i64 0), (.slice none 0 0)] [] else [])]) (cat_cons rfl (cat_cons rfl (cat_cons rfl (cat_cons rfl (cat_cons (on_ rfl rfl) (cat_cons (off_ b10 (on_ rfl rfl)) (cat_cons (off_ b10 rfl) (cat_cons (off_ b13 rfl) rfl)))))))) (Mem.pick [0, 1, 2, 3, 1004, 4, 1006, 5] rfl hm7506)⟩
      ·
       intro b a w hI hbi hn hc K hK
       obtain ⟨vs, g7003, p7503, p8003, g8202, ha, y0, y1, y2, y3, y4, y5, y6, y7, y8, y9, y10, y11, y12, H7004, H7504, H8004, hm⟩ := hI
       subst ha
       have b7 : b 7 = false := later (j := 7) hc rfl (i := 6) (da rfl) hbi
       have b8 : b 8 = false := later (j := 8) hc rfl (i := 7) (da rfl) b7
       have b9 : b 9 = false := later (j := 9) hc rfl (i := 8) (da rfl) b8
       have b10 : b 10 = false := later (j := 10) hc rfl (i := 9) (da rfl) b9
       have b11 : b 11 = false := later (j := 11) hc rfl (i := 10) (da rfl) b10
       have b13 : b 13 = false := later (j := 13) hc rfl (i := 6) (da rfl) hbi
       have hm8419 : Mem w0 w (cat [sg g0 T0 fr0 pre0 [(.int .i64 a0.Size), (.bool a0.Up), v0x2, v0x3, (.int .i64 a0.Lost), (.int .i64 a0.Pending), (.int .i64 a0.Every), (.int .i64 a0.Signals)] post0, h0x2, h0x3, hz7000, (bif b 5 then [] else (bif b 0 then (sg g7003 3 (0, 0) [] (encs (FK.int .i64) ([] : List Int)) []) else [])), (bif b 5 then p7503.2 else []), (bif b 12 then sg g8202 71 (0, 0) [] [(.int .i64 0), (.slice none 0 0)] [] else [])]) := Mem.pick [0, 1, 2, 3, 4, 5, 7] rfl (Mem.cg (B := [sg g0 T0 fr0 pre0 [(.int .i64 a0.Size), (.bool a0.Up), v0x2, v0x3, (.int .i64 a0.Lost), (.int .i64 a0.Pending), (.int .i64 a0.Every), (.int .i64 a0.Signals)] post0, h0x2, h0x3, hz7000, (bif b 5 then [] else (bif b 0 then (sg g7003 3 (0, 0) [] (encs (FK.int .i64) ([] : List Int)) []) else [])), (bif b 5 then p7503.2 else []), [], (bif b 12 then sg g8202 71 (0, 0) [] [(.int .i64 0), (.slice none 0 0)] [] else [])]) (cat_cons rfl (cat_cons rfl (cat_cons rfl (cat_cons rfl (cat_cons rfl (cat_cons (off_ b10 rfl) (cat_cons (off_ b10 rfl) (cat_cons (off_ b13 rfl) rfl)))))))) hm)
       refine e_val (i := 6) hbi rfl rfl (v := (.pointer (some ⟨g0, o0, none⟩))) (won rfl) rfl rfl (x_move rfl (ev (t := 0) (v := (.pointer (some ⟨g0, o0, none⟩))) rfl ((sel_no rfl).trans rfl))) ?_
       exact hK _ _ ⟨_, g7003, p7503, p8003, g8202, rfl, y0, y1, y2, y3, y4, y5, fun _ => rfl, y7, y8, y9, y10, y11, y12, H7004, H7504, H8004, Mem.gc (A := [sg g0 T0 fr0 pre0 [(.int .i64 a0.Size), (.bool a0.Up), v0x2, v0x3, (.int .i64 a0.Lost), (.int .i64 a0.Pending), (.int .i64 a0.Every), (.int .i64 a0.Signals)] post0, h0x2, h0x3, hz7000, (bif b 5 then [] else (bif b 0 then (sg g7003 3 (0, 0) [] (encs (FK.int .i64) ([] : List Int)) []) else [])), (bif b 5 then p7503.2 else []), [], (bif b 12 then sg g8202 71 (0, 0) [] [(.int .i64 0), (.slice none 0 0)] [] else [])]) (cat_cons rfl (cat_cons rfl (cat_cons rfl (cat_cons rfl (cat_cons rfl (cat_cons (off_ b10 rfl) (cat_cons (off_ b10 rfl) (cat_cons (off_ b13 rfl) rfl)))))))) (Mem.pick [0, 1, 2, 3, 4, 5, 1006, 6] rfl hm8419)⟩
      ·
       intro b a w hI hbi hn hc K hK
       obtain ⟨vs, g7003, p7503, p8003, g8202, ha, y0, y1, y2, y3, y4, y5, y6, y7, y8, y9, y10, y11, y12, H7004, H7504, H8004, hm⟩ := hI
       subst ha
       have b6 : b 6 = true := hn 6 (da rfl)
       have b8 : b 8 = false := later (j := 8) hc rfl (i := 7) (da rfl) hbi
       have b9 : b 9 = false := later (j := 9) hc rfl (i := 8) (da rfl) b8
       have b10 : b 10 = false := later (j := 10) hc rfl (i := 9) (da rfl) b9
       have b11 : b 11 = false := later (j := 11) hc rfl (i := 10) (da rfl) b10
       have b13 : b 13 = false := later (j := 13) hc rfl (i := 7) (da rfl) hbi
       have hm8422 : Mem w0 w (cat [sg g0 T0 fr0 pre0 [(.int .i64 a0.Size), (.bool a0.Up), v0x2, v0x3, (.int .i64 a0.Lost), (.int .i64 a0.Pending), (.int .i64 a0.Every), (.int .i64 a0.Signals)] post0, h0x2, h0x3, hz7000, (bif b 5 then [] else (bif b 0 then (sg g7003 3 (0, 0) [] (encs (FK.int .i64) ([] : List Int)) []) else [])), (bif b 5 then p7503.2 else []), (bif b 12 then sg g8202 71 (0, 0) [] [(.int .i64 0), (.slice none 0 0)] [] else [])]) := Mem.pick [0, 1, 2, 3, 4, 5, 7] rfl (Mem.cg (B := [sg g0 T0 fr0 pre0 [(.int .i64 a0.Size), (.bool a0.Up), v0x2, v0x3, (.int .i64 a0.Lost), (.int .i64 a0.Pending), (.int .i64 a0.Every), (.int .i64 a0.Signals)] post0, h0x2, h0x3, hz7000, (bif b 5 then [] else (bif b 0 then (sg g7003 3 (0, 0) [] (encs (FK.int .i64) ([] : List Int)) []) else [])), (bif b 5 then p7503.2 else []), [], (bif b 12 then sg g8202 71 (0, 0) [] [(.int .i64 0), (.slice none 0 0)] [] else [])]) (cat_cons rfl (cat_cons rfl (cat_cons rfl (cat_cons rfl (cat_cons rfl (cat_cons (off_ b10 rfl) (cat_cons (off_ b10 rfl) (cat_cons (off_ b13 rfl) rfl)))))))) hm)
       refine e_val (i := 7) hbi rfl rfl (v := (.pointer (some ⟨g0, o0, none⟩))) (won rfl) rfl rfl (x_nil rfl (ev (t := 91) (v := (.pointer (some ⟨g0, o0, none⟩))) rfl ((sel_on (p := (6, 91)) rfl b6).trans (y6 b6)))) ?_
       exact hK _ _ ⟨_, g7003, p7503, p8003, g8202, rfl, y0, y1, y2, y3, y4, y5, y6, fun _ => rfl, y8, y9, y10, y11, y12, H7004, H7504, H8004, Mem.gc (A := [sg g0 T0 fr0 pre0 [(.int .i64 a0.Size), (.bool a0.Up), v0x2, v0x3, (.int .i64 a0.Lost), (.int .i64 a0.Pending), (.int .i64 a0.Every), (.int .i64 a0.Signals)] post0, h0x2, h0x3, hz7000, (bif b 5 then [] else (bif b 0 then (sg g7003 3 (0, 0) [] (encs (FK.int .i64) ([] : List Int)) []) else [])), (bif b 5 then p7503.2 else []), [], (bif b 12 then sg g8202 71 (0, 0) [] [(.int .i64 0), (.slice none 0 0)] [] else [])]) (cat_cons rfl (cat_cons rfl (cat_cons rfl (cat_cons rfl (cat_cons rfl (cat_cons (off_ b10 rfl) (cat_cons (off_ b10 rfl) (cat_cons (off_ b13 rfl) rfl)))))))) (Mem.pick [0, 1, 2, 3, 4, 5, 1006, 6] rfl hm8422)⟩
      ·
       intro b a w hI hbi hn hc K hK
       obtain ⟨vs, g7003, p7503, p8003, g8202, ha, y0, y1, y2, y3, y4, y5, y6, y7, y8, y9, y10, y11, y12, H7004, H7504, H8004, hm⟩ := hI
       subst ha
       have b7 : b 7 = true := hn 7 (da rfl)
       have b6 : b 6 = true := hc 7 _ rfl b7 6 (da rfl)
       have b9 : b 9 = false := later (j := 9) hc rfl (i := 8) (da rfl) hbi
       have b10 : b 10 = false := later (j := 10) hc rfl (i := 9) (da rfl) b9
       have b11 : b 11 = false := later (j := 11) hc rfl (i := 10) (da rfl) b10
       have b13 : b 13 = false := later (j := 13) hc rfl (i := 8) (da rfl) hbi
       have hm8425 : Mem w0 w (cat [sg g0 T0 fr0 pre0 [(.int .i64 a0.Size), (.bool a0.Up), v0x2, v0x3, (.int .i64 a0.Lost), (.int .i64 a0.Pending), (.int .i64 a0.Every), (.int .i64 a0.Signals)] post0, h0x2, h0x3, hz7000, (bif b 5 then [] else (bif b 0 then (sg g7003 3 (0, 0) [] (encs (FK.int .i64) ([] : List Int)) []) else [])), (bif b 5 then p7503.2 else []), (bif b 12 then sg g8202 71 (0, 0) [] [(.int .i64 0), (.slice none 0 0)] [] else [])]) := Mem.pick [0, 1, 2, 3, 4, 5, 7] rfl (Mem.cg (B := [sg g0 T0 fr0 pre0 [(.int .i64 a0.Size), (.bool a0.Up), v0x2, v0x3, (.int .i64 a0.Lost), (.int .i64 a0.Pending), (.int .i64 a0.Every), (.int .i64 a0.Signals)] post0, h0x2, h0x3, hz7000, (bif b 5 then [] else (bif b 0 then (sg g7003 3 (0, 0) [] (encs (FK.int .i64) ([] : List Int)) []) else [])), (bif b 5 then p7503.2 else []), [], (bif b 12 then sg g8202 71 (0, 0) [] [(.int .i64 0), (.slice none 0 0)] [] else [])]) (cat_cons rfl (cat_cons rfl (cat_cons rfl (cat_cons rfl (cat_cons rfl (cat_cons (off_ b10 rfl) (cat_cons (off_ b10 rfl) (cat_cons (off_ b13 rfl) rfl)))))))) hm)
       refine e_val (i := 8) hbi rfl rfl (v := (.pointer (some ⟨g0, o0 + 2, none⟩))) (won rfl) rfl rfl (x_field rfl fa_65x2 (ev (t := 92) (v := (.pointer (some ⟨g0, o0, none⟩))) rfl ((sel_on (p := (7, 92)) rfl b7).trans (y7 b7)))) ?_
       exact hK _ _ ⟨_, g7003, p7503, p8003, g8202, rfl, y0, y1, y2, y3, y4, y5, y6, y7, fun _ => rfl, y9, y10, y11, y12, H7004, H7504, H8004, Mem.gc (A := [sg g0 T0 fr0 pre0 [(.int .i64 a0.Size), (.bool a0.Up), v0x2, v0x3, (.int .i64 a0.Lost), (.int .i64 a0.Pending), (.int .i64 a0.Every), (.int .i64 a0.Signals)] post0, h0x2, h0x3, hz7000, (bif b 5 then [] else (bif b 0 then (sg g7003 3 (0, 0) [] (encs (FK.int .i64) ([] : List Int)) []) else [])), (bif b 5 then p7503.2 else []), [], (bif b 12 then sg g8202 71 (0, 0) [] [(.int .i64 0), (.slice none 0 0)] [] else [])]) (cat_cons rfl (cat_cons rfl (cat_cons rfl (cat_cons rfl (cat_cons rfl (cat_cons (off_ b10 rfl) (cat_cons (off_ b10 rfl) (cat_cons (off_ b13 rfl) rfl)))))))) (Mem.pick [0, 1, 2, 3, 4, 5, 1006, 6] rfl hm8425)⟩
      ·
       intro b a w hI hbi hn hc K hK
       obtain ⟨vs, g7003, p7503, p8003, g8202, ha, y0, y1, y2, y3, y4, y5, y6, y7, y8, y9, y10, y11, y12, H7004, H7504, H8004, hm⟩ := hI
       subst ha
       have b8 : b 8 = true := hn 8 (da rfl)
       have b7 : b 7 = true := hc 8 _ rfl b8 7 (da rfl)
       have b6 : b 6 = true := hc 7 _ rfl b7 6 (da rfl)
       have b10 : b 10 = false := later (j := 10) hc rfl (i := 9) (da rfl) hbi
       have b11 : b 11 = false := later (j := 11) hc rfl (i := 10) (da rfl) b10
       have b13 : b 13 = false := later (j := 13) hc rfl (i := 9) (da rfl) hbi
       have hm8428 : Mem w0 w (cat [sg g0 T0 fr0 pre0 [(.int .i64 a0.Size), (.bool a0.Up), v0x2, v0x3, (.int .i64 a0.Lost), (.int .i64 a0.Pending), (.int .i64 a0.Every), (.int .i64 a0.Signals)] post0, h0x2, h0x3, hz7000, (bif b 5 then [] else (bif b 0 then (sg g7003 3 (0, 0) [] (encs (FK.int .i64) ([] : List Int)) []) else [])), (bif b 5 then p7503.2 else []), (bif b 12 then sg g8202 71 (0, 0) [] [(.int .i64 0), (.slice none 0 0)] [] else [])]) := Mem.pick [0, 1, 2, 3, 4, 5, 7] rfl (Mem.cg (B := [sg g0 T0 fr0 pre0 [(.int .i64 a0.Size), (.bool a0.Up), v0x2, v0x3, (.int .i64 a0.Lost), (.int .i64 a0.Pending), (.int .i64 a0.Every), (.int .i64 a0.Signals)] post0, h0x2, h0x3, hz7000, (bif b 5 then [] else (bif b 0 then (sg g7003 3 (0, 0) [] (encs (FK.int .i64) ([] : List Int)) []) else [])), (bif b 5 then p7503.2 else []), [], (bif b 12 then sg g8202 71 (0, 0) [] [(.int .i64 0), (.slice none 0 0)] [] else [])]) (cat_cons rfl (cat_cons rfl (cat_cons rfl (cat_cons rfl (cat_cons rfl (cat_cons (off_ b10 rfl) (cat_cons (off_ b10 rfl) (cat_cons (off_ b13 rfl) rfl)))))))) hm)
       refine e_val (i := 9) hbi rfl rfl (v := v0x2) (won rfl) rfl rfl (x_load rfl ty1x26 (ev (t := 93) (v := (.pointer (some ⟨g0, o0 + 2, none⟩))) rfl ((sel_on (p := (8, 93)) rfl b8).trans (y8 b8))) (seg_cell (o' := o0) (j := 2) hm8428 (k := 0) rfl hp0 rfl)) ?_
       exact hK _ _ ⟨_, g7003, p7503, p8003, g8202, rfl, y0, y1, y2, y3, y4, y5, y6, y7, y8, fun _ => rfl, y10, y11, y12, H7004, H7504, H8004, Mem.gc (A := [sg g0 T0 fr0 pre0 [(.int .i64 a0.Size), (.bool a0.Up), v0x2, v0x3, (.int .i64 a0.Lost), (.int .i64 a0.Pending), (.int .i64 a0.Every), (.int .i64 a0.Signals)] post0, h0x2, h0x3, hz7000, (bif b 5 then [] else (bif b 0 then (sg g7003 3 (0, 0) [] (encs (FK.int .i64) ([] : List Int)) []) else [])), (bif b 5 then p7503.2 else []), [], (bif b 12 then sg g8202 71 (0, 0) [] [(.int .i64 0), (.slice none 0 0)] [] else [])]) (cat_cons rfl (cat_cons rfl (cat_cons rfl (cat_cons rfl (cat_cons rfl (cat_cons (off_ b10 rfl) (cat_cons (off_ b10 rfl) (cat_cons (off_ b13 rfl) rfl)))))))) (Mem.pick [0, 1, 2, 3, 4, 5, 1006, 6] rfl hm8428)⟩
      ·
       intro b a w hI hbi hn hc K hK
       obtain ⟨vs, g7003, p7503, p8003, g8202, ha, y0, y1, y2, y3, y4, y5, y6, y7, y8, y9, y10, y11, y12, H7004, H7504, H8004, hm⟩ := hI
       subst ha
       have b5 : b 5 = true := hn 5 (da rfl)
       have b9 : b 9 = true := hn 9 (da rfl)
       have b0 : b 0 = true := hc 5 _ rfl b5 0 (da rfl)
       have b4 : b 4 = true := hc 5 _ rfl b5 4 (da rfl)
       have b8 : b 8 = true := hc 9 _ rfl b9 8 (da rfl)
       have b3 : b 3 = true := hc 4 _ rfl b4 3 (da rfl)
       have b7 : b 7 = true := hc 8 _ rfl b8 7 (da rfl)
       have b2 : b 2 = true := hc 3 _ rfl b3 2 (da rfl)
       have b6 : b 6 = true := hc 7 _ rfl b7 6 (da rfl)
       have b1 : b 1 = true := hc 2 _ rfl b2 1 (da rfl)
       have b11 : b 11 = false := later (j := 11) hc rfl (i := 10) (da rfl) hbi
       have b13 : b 13 = false := later (j := 13) hc rfl (i := 10) (da rfl) hbi
       have H7004 := H7004 b0
       have H7504 := H7504 b5
       have hm8431 : Mem w0 w (cat [sg g0 T0 fr0 pre0 [(.int .i64 a0.Size), (.bool a0.Up), v0x2, v0x3, (.int .i64 a0.Lost), (.int .i64 a0.Pending), (.int .i64 a0.Every), (.int .i64 a0.Signals)] post0, h0x2, h0x3, hz7000, p7503.2, (bif b 12 then sg g8202 71 (0, 0) [] [(.int .i64 0), (.slice none 0 0)] [] else [])]) := Mem.pick [0, 1, 2, 3, 5, 7] rfl (Mem.cg (B := [sg g0 T0 fr0 pre0 [(.int .i64 a0.Size), (.bool a0.Up), v0x2, v0x3, (.int .i64 a0.Lost), (.int .i64 a0.Pending), (.int .i64 a0.Every), (.int .i64 a0.Signals)] post0, h0x2, h0x3, hz7000, [], p7503.2, [], (bif b 12 then sg g8202 71 (0, 0) [] [(.int .i64 0), (.slice none 0 0)] [] else [])]) (cat_cons rfl (cat_cons rfl (cat_cons rfl (cat_cons rfl (cat_cons (on_ b5 rfl) (cat_cons (off_ hbi (on_ b5 rfl)) (cat_cons (off_ hbi rfl) (cat_cons (off_ b13 rfl) rfl)))))))) hm)
       refine e_exv (i := 10) hbi rfl rfl (won rfl) rfl rfl (e_append (bytes := 8) rfl slt_26 rfl (ev (t := 90) (v := p7503.1) rfl ((sel_on (p := (5, 90)) rfl b5).trans (y5 b5))) (ev (t := 94) (v := v0x2) rfl ((sel_on (p := (9, 94)) rfl b9).trans (y9 b9))) H7504 (k := 4) rfl (H0x2.rd w0) (Sub.at_ (k := 1) rfl) hm8431 hg8001 (len63 hg8001 rfl)) ?_
       rintro p8003 w8005 ⟨H8004, hm8006⟩
       replace hm8006 : Mem w0 w8005 (cat [sg g0 T0 fr0 pre0 [(.int .i64 a0.Size), (.bool a0.Up), v0x2, v0x3, (.int .i64 a0.Lost), (.int .i64 a0.Pending), (.int .i64 a0.Every), (.int .i64 a0.Signals)] post0, h0x2, h0x3, hz7000, p8003.2, (bif b 12 then sg g8202 71 (0, 0) [] [(.int .i64 0), (.slice none 0 0)] [] else [])]) := hm8006
       exact hK _ _ ⟨_, g7003, p7503, p8003, g8202, rfl, y0, y1, y2, y3, y4, y5, y6, y7, y8, y9, fun _ => rfl, fun hb => ab b11 hb, y12, fun _ => H7004, fun _ => H7504, fun _ => H8004, Mem.gc (A := [sg g0 T0 fr0 pre0 [(.int .i64 a0.Size), (.bool a0.Up), v0x2, v0x3, (.int .i64 a0.Lost), (.int .i64 a0.Pending), (.int .i64 a0.Every), (.int .i64 a0.Signals)] post0, h0x2, h0x3, hz7000, [], [], p8003.2, (bif b 12 then sg g8202 71 (0, 0) [] [(.int .i64 0), (.slice none 0 0)] [] else [])]) (cat_cons rfl (cat_cons rfl (cat_cons rfl (cat_cons rfl (cat_cons (on_ b5 rfl) (cat_cons (on_ rfl rfl) (cat_cons (on_ rfl rfl) (cat_cons (off_ b13 rfl) rfl)))))))) (Mem.pick [0, 1, 2, 3, 1004, 1005, 4, 5] rfl hm8006)⟩
      ·
       intro b a w hI hbi hn hc K hK
       obtain ⟨vs, g7003, p7503, p8003, g8202, ha, y0, y1, y2, y3, y4, y5, y6, y7, y8, y9, y10, y11, y12, H7004, H7504, H8004, hm⟩ := hI
       subst ha
       have b10 : b 10 = true := hn 10 (da rfl)
       have b5 : b 5 = true := hc 10 _ rfl b10 5 (da rfl)
       have b9 : b 9 = true := hc 10 _ rfl b10 9 (da rfl)
       have b0 : b 0 = true := hc 5 _ rfl b5 0 (da rfl)
       have b4 : b 4 = true := hc 5 _ rfl b5 4 (da rfl)
       have b8 : b 8 = true := hc 9 _ rfl b9 8 (da rfl)
       have b3 : b 3 = true := hc 4 _ rfl b4 3 (da rfl)
       have b7 : b 7 = true := hc 8 _ rfl b8 7 (da rfl)
       have b2 : b 2 = true := hc 3 _ rfl b3 2 (da rfl)
       have b6 : b 6 = true := hc 7 _ rfl b7 6 (da rfl)
       have b1 : b 1 = true := hc 2 _ rfl b2 1 (da rfl)
       have b13 : b 13 = false := later (j := 13) hc rfl (i := 11) (da rfl) hbi
       have H7004 := H7004 b0
       have H7504 := H7504 b5
       have H8004 := H8004 b10
       have hm8434 : Mem w0 w (cat [sg g0 T0 fr0 pre0 [(.int .i64 a0.Size), (.bool a0.Up), v0x2, v0x3, (.int .i64 a0.Lost), (.int .i64 a0.Pending), (.int .i64 a0.Every), (.int .i64 a0.Signals)] post0, h0x2, h0x3, hz7000, p8003.2, (bif b 12 then sg g8202 71 (0, 0) [] [(.int .i64 0), (.slice none 0 0)] [] else [])]) := Mem.pick [0, 1, 2, 3, 6, 7] rfl (Mem.cg (B := [sg g0 T0 fr0 pre0 [(.int .i64 a0.Size), (.bool a0.Up), v0x2, v0x3, (.int .i64 a0.Lost), (.int .i64 a0.Pending), (.int .i64 a0.Every), (.int .i64 a0.Signals)] post0, h0x2, h0x3, hz7000, [], [], p8003.2, (bif b 12 then sg g8202 71 (0, 0) [] [(.int .i64 0), (.slice none 0 0)] [] else [])]) (cat_cons rfl (cat_cons rfl (cat_cons rfl (cat_cons rfl (cat_cons (on_ b5 rfl) (cat_cons (on_ b10 rfl) (cat_cons (on_ b10 rfl) (cat_cons (off_ b13 rfl) rfl)))))))) hm)
       refine e_val (i := 11) hbi rfl rfl (v := (.agg #[(.int .i64 0), p8003.1])) (won rfl) rfl rfl (x_build (cells := [(.int .i64 0), p8003.1]) (zc := [.int .i64 0, .slice none 0 0]) (sizes := [(0, 1), (1, 1)]) (ps := [(1, p8003.1)]) rfl zt_71 rfl uf_71 ufz_71 (pmap_lit (pmap_cons (ev (t := 95) (v := p8003.1) rfl ((sel_on (p := (10, 95)) rfl b10).trans (y10 b10))) pmap_nil)) (fill_cons (cs := [p8003.1]) rfl (IsSl.cells (H8004).sl) rfl fill_nil)) ?_
       exact hK _ _ ⟨_, g7003, p7503, p8003, g8202, rfl, y0, y1, y2, y3, y4, y5, y6, y7, y8, y9, y10, fun _ => rfl, y12, fun _ => H7004, fun _ => H7504, fun _ => H8004, Mem.gc (A := [sg g0 T0 fr0 pre0 [(.int .i64 a0.Size), (.bool a0.Up), v0x2, v0x3, (.int .i64 a0.Lost), (.int .i64 a0.Pending), (.int .i64 a0.Every), (.int .i64 a0.Signals)] post0, h0x2, h0x3, hz7000, [], [], p8003.2, (bif b 12 then sg g8202 71 (0, 0) [] [(.int .i64 0), (.slice none 0 0)] [] else [])]) (cat_cons rfl (cat_cons rfl (cat_cons rfl (cat_cons rfl (cat_cons (on_ b5 rfl) (cat_cons (on_ b10 rfl) (cat_cons (on_ b10 rfl) (cat_cons (off_ b13 rfl) rfl)))))))) (Mem.pick [0, 1, 2, 3, 1004, 1005, 4, 5] rfl hm8434)⟩
      ·
       intro b a w hI hbi hn hc K hK
       obtain ⟨vs, g7003, p7503, p8003, g8202, ha, y0, y1, y2, y3, y4, y5, y6, y7, y8, y9, y10, y11, y12, H7004, H7504, H8004, hm⟩ := hI
       subst ha
       have b13 : b 13 = false := later (j := 13) hc rfl (i := 12) (da rfl) hbi
       have hm8437 : Mem w0 w (cat [sg g0 T0 fr0 pre0 [(.int .i64 a0.Size), (.bool a0.Up), v0x2, v0x3, (.int .i64 a0.Lost), (.int .i64 a0.Pending), (.int .i64 a0.Every), (.int .i64 a0.Signals)] post0, h0x2, h0x3, hz7000, (bif b 5 then [] else (bif b 0 then (sg g7003 3 (0, 0) [] (encs (FK.int .i64) ([] : List Int)) []) else [])), (bif b 10 then [] else (bif b 5 then p7503.2 else [])), (bif b 10 then p8003.2 else [])]) := Mem.pick [0, 1, 2, 3, 4, 5, 6] rfl (Mem.cg (B := [sg g0 T0 fr0 pre0 [(.int .i64 a0.Size), (.bool a0.Up), v0x2, v0x3, (.int .i64 a0.Lost), (.int .i64 a0.Pending), (.int .i64 a0.Every), (.int .i64 a0.Signals)] post0, h0x2, h0x3, hz7000, (bif b 5 then [] else (bif b 0 then (sg g7003 3 (0, 0) [] (encs (FK.int .i64) ([] : List Int)) []) else [])), (bif b 10 then [] else (bif b 5 then p7503.2 else [])), (bif b 10 then p8003.2 else []), []]) (cat_cons rfl (cat_cons rfl (cat_cons rfl (cat_cons rfl (cat_cons rfl (cat_cons rfl (cat_cons rfl (cat_cons (off_ b13 (off_ hbi rfl)) rfl)))))))) hm)
       refine e_exv (i := 12) hbi rfl rfl (won rfl) rfl rfl (e_alloc (vs := [(.int .i64 0), (.slice none 0 0)]) rfl zt_71 rfl hm8437) ?_
       rintro g8202 w8203 hm8204
       exact hK _ _ ⟨_, g7003, p7503, p8003, g8202, rfl, y0, y1, y2, y3, y4, y5, y6, y7, y8, y9, y10, y11, fun _ => rfl, H7004, H7504, H8004, Mem.gc (A := [sg g0 T0 fr0 pre0 [(.int .i64 a0.Size), (.bool a0.Up), v0x2, v0x3, (.int .i64 a0.Lost), (.int .i64 a0.Pending), (.int .i64 a0.Every), (.int .i64 a0.Signals)] post0, h0x2, h0x3, hz7000, (bif b 5 then [] else (bif b 0 then (sg g7003 3 (0, 0) [] (encs (FK.int .i64) ([] : List Int)) []) else [])), (bif b 10 then [] else (bif b 5 then p7503.2 else [])), (bif b 10 then p8003.2 else []), sg g8202 71 (0, 0) [] [(.int .i64 0), (.slice none 0 0)] []]) (cat_cons rfl (cat_cons rfl (cat_cons rfl (cat_cons rfl (cat_cons rfl (cat_cons rfl (cat_cons rfl (cat_cons (off_ b13 (on_ rfl rfl)) rfl)))))))) (Mem.pick [1, 2, 3, 4, 5, 6, 7, 0] rfl hm8204)⟩
      ·
       intro b a w hI hbi hn hc K hK
       obtain ⟨vs, g7003, p7503, p8003, g8202, ha, y0, y1, y2, y3, y4, y5, y6, y7, y8, y9, y10, y11, y12, H7004, H7504, H8004, hm⟩ := hI
       subst ha
       have b0 : b 0 = true := hn 0 (da rfl)
       have b1 : b 1 = true := hn 1 (da rfl)
       have b2 : b 2 = true := hn 2 (da rfl)
       have b3 : b 3 = true := hn 3 (da rfl)
       have b4 : b 4 = true := hn 4 (da rfl)
       have b5 : b 5 = true := hn 5 (da rfl)
       have b6 : b 6 = true := hn 6 (da rfl)
       have b7 : b 7 = true := hn 7 (da rfl)
       have b8 : b 8 = true := hn 8 (da rfl)
       have b9 : b 9 = true := hn 9 (da rfl)
       have b10 : b 10 = true := hn 10 (da rfl)
       have b11 : b 11 = true := hn 11 (da rfl)
       have b12 : b 12 = true := hn 12 (da rfl)
       have H7004 := H7004 b0
       have H7504 := H7504 b5
       have H8004 := H8004 b10
       have hm8440 : Mem w0 w (cat [sg g0 T0 fr0 pre0 [(.int .i64 a0.Size), (.bool a0.Up), v0x2, v0x3, (.int .i64 a0.Lost), (.int .i64 a0.Pending), (.int .i64 a0.Every), (.int .i64 a0.Signals)] post0, h0x2, h0x3, hz7000, p8003.2, sg g8202 71 (0, 0) [] [(.int .i64 0), (.slice none 0 0)] []]) := Mem.pick [0, 1, 2, 3, 6, 7] rfl (Mem.cg (B := [sg g0 T0 fr0 pre0 [(.int .i64 a0.Size), (.bool a0.Up), v0x2, v0x3, (.int .i64 a0.Lost), (.int .i64 a0.Pending), (.int .i64 a0.Every), (.int .i64 a0.Signals)] post0, h0x2, h0x3, hz7000, [], [], p8003.2, sg g8202 71 (0, 0) [] [(.int .i64 0), (.slice none 0 0)] []]) (cat_cons rfl (cat_cons rfl (cat_cons rfl (cat_cons rfl (cat_cons (on_ b5 rfl) (cat_cons (on_ b10 rfl) (cat_cons (on_ b10 rfl) (cat_cons (off_ hbi (on_ b12 rfl)) rfl)))))))) hm)
       refine e_exs (i := 13) hbi rfl (won rfl) rfl (e_store (vs := [(.int .i64 0), p8003.1]) (o' := 0) (j := 0) rfl sz_71 (ev (t := 8) (v := (.pointer (some ⟨g8202, 0, none⟩))) rfl ((sel_on (p := (12, 8)) rfl b12).trans (y12 b12))) (ev (t := 96) (v := (.agg #[(.int .i64 0), p8003.1])) rfl ((sel_on (p := (11, 96)) rfl b11).trans (y11 b11))) rfl (one_cons rfl (one_cons (IsSl.one (H8004).sl) one_nil)) hm8440 (k := 5) rfl rfl rfl) ?_
       intro w8301 hm8302
       replace hm8302 : Mem w0 w8301 (cat [sg g0 T0 fr0 pre0 [(.int .i64 a0.Size), (.bool a0.Up), v0x2, v0x3, (.int .i64 a0.Lost), (.int .i64 a0.Pending), (.int .i64 a0.Every), (.int .i64 a0.Signals)] post0, h0x2, h0x3, hz7000, p8003.2, sg g8202 71 (0, 0) [] [(.int .i64 0), p8003.1] []]) := hm8302
       exact hK _ _ ⟨_, g7003, p7503, p8003, g8202, rfl, y0, y1, y2, y3, y4, y5, y6, y7, y8, y9, y10, y11, y12, fun _ => H7004, fun _ => H7504, fun _ => H8004, Mem.gc (A := [sg g0 T0 fr0 pre0 [(.int .i64 a0.Size), (.bool a0.Up), v0x2, v0x3, (.int .i64 a0.Lost), (.int .i64 a0.Pending), (.int .i64 a0.Every), (.int .i64 a0.Signals)] post0, h0x2, h0x3, hz7000, [], [], p8003.2, sg g8202 71 (0, 0) [] [(.int .i64 0), p8003.1] []]) (cat_cons rfl (cat_cons rfl (cat_cons rfl (cat_cons rfl (cat_cons (on_ b5 rfl) (cat_cons (on_ b10 rfl) (cat_cons (on_ b10 rfl) (cat_cons (on_ rfl rfl) rfl)))))))) (Mem.pick [0, 1, 2, 3, 1004, 1005, 4, 5] rfl hm8302)⟩
      intro b a w hall hI
      obtain ⟨vs, g7003, p7503, p8003, g8202, ha, y0, y1, y2, y3, y4, y5, y6, y7, y8, y9, y10, y11, y12, H7004, H7504, H8004, hm⟩ := hI
      have b0 : b 0 = true := hall 0 rfl
      have b1 : b 1 = true := hall 1 rfl
      have b2 : b 2 = true := hall 2 rfl
      have b3 : b 3 = true := hall 3 rfl
      have b4 : b 4 = true := hall 4 rfl
      have b5 : b 5 = true := hall 5 rfl
      have b6 : b 6 = true := hall 6 rfl
      have b7 : b 7 = true := hall 7 rfl
      have b8 : b 8 = true := hall 8 rfl
      have b9 : b 9 = true := hall 9 rfl
      have b10 : b 10 = true := hall 10 rfl
      have b11 : b 11 = true := hall 11 rfl
      have b12 : b 12 = true := hall 12 rfl
      have b13 : b 13 = true := hall 13 rfl
      replace H7004 := H7004 b0
      replace H7504 := H7504 b5
      replace H8004 := H8004 b10
      have hm8443 : Mem w0 w (cat [sg g0 T0 fr0 pre0 [(.int .i64 a0.Size), (.bool a0.Up), v0x2, v0x3, (.int .i64 a0.Lost), (.int .i64 a0.Pending), (.int .i64 a0.Every), (.int .i64 a0.Signals)] post0, h0x2, h0x3, p8003.2, sg g8202 71 (0, 0) [] [(.int .i64 0), p8003.1] [], hz7000]) := Mem.pick [0, 1, 2, 6, 7, 3] rfl (Mem.cg (B := [sg g0 T0 fr0 pre0 [(.int .i64 a0.Size), (.bool a0.Up), v0x2, v0x3, (.int .i64 a0.Lost), (.int .i64 a0.Pending), (.int .i64 a0.Every), (.int .i64 a0.Signals)] post0, h0x2, h0x3, hz7000, [], [], p8003.2, sg g8202 71 (0, 0) [] [(.int .i64 0), p8003.1] []]) (cat_cons rfl (cat_cons rfl (cat_cons rfl (cat_cons rfl (cat_cons (on_ b5 rfl) (cat_cons (on_ b10 rfl) (cat_cons (on_ b10 rfl) (cat_cons (on_ b13 rfl) rfl)))))))) hm)
      obtain ⟨f7000, ha', z7000x0, z7000x4, z7000x8⟩ : ∃ f' : Nat → Value, a = fr 117 f' ∧ f' 0 = (.pointer (some ⟨g0, o0, none⟩)) ∧ f' 4 = (.pointer (some ⟨g4482, 0, none⟩)) ∧ f' 8 = (.pointer (some ⟨g8202, 0, none⟩)) := ⟨_, ha, (sel_no rfl).trans rfl, (sel_no rfl).trans rfl, (sel_on (p := (12, 8)) rfl b12).trans (y12 b12)⟩
      subst ha'
      subst hze7000
      replace hm8443 : Mem w0 w (cat [sg g0 T0 fr0 pre0 [(.int .i64 a0.Size), (.bool a0.Up), v0x2, v0x3, (.int .i64 a0.Lost), (.int .i64 a0.Pending), (.int .i64 a0.Every), (.int .i64 a0.Signals)] post0, h0x2, h0x3, p8003.2, sg g8202 71 (0, 0) [] [(.int .i64 0), p8003.1] [], sg g4482 71 (0, 0) [] [(.int .i64 0), (.slice none 0 0)] [], sg g4477 74 (0, 0) [] [(.int .i64 a1.Kind), (.int .i64 a1.N)] [], hF]) := Mem.ung [sg g0 T0 fr0 pre0 [(.int .i64 a0.Size), (.bool a0.Up), v0x2, v0x3, (.int .i64 a0.Lost), (.int .i64 a0.Pending), (.int .i64 a0.Every), (.int .i64 a0.Signals)] post0, h0x2, h0x3, p8003.2, sg g8202 71 (0, 0) [] [(.int .i64 0), p8003.1] []] [sg g4482 71 (0, 0) [] [(.int .i64 0), (.slice none 0 0)] [], sg g4477 74 (0, 0) [] [(.int .i64 a1.Kind), (.int .i64 a1.N)] [], hF] hm8443
      have hm8453 : Mem w0 w (cat [sg g0 T0 fr0 pre0 [(.int .i64 a0.Size), (.bool a0.Up), v0x2, v0x3, (.int .i64 a0.Lost), (.int .i64 a0.Pending), (.int .i64 a0.Every), (.int .i64 a0.Signals)] post0, h0x2, h0x3, p8003.2, sg g8202 71 (0, 0) [] [(.int .i64 0), p8003.1] [], sg g4482 71 (0, 0) [] [(.int .i64 0), (.slice none 0 0)] [], hF]) := Mem.pick [0, 1, 2, 3, 4, 5, 7] rfl hm8443
      refine nx ?_
      refine wp_seq ?_
      refine wp_region_lit ?_
      refine s_val (v := (.pointer (some ⟨g0, o0, none⟩))) (won rfl) rfl rfl (x_move rfl (ev (t := 0) (v := (.pointer (some ⟨g0, o0, none⟩))) rfl z7000x0)) ?_
      refine s_val (v := (.pointer (some ⟨g0, o0, none⟩))) (won rfl) rfl rfl (x_move rfl (ev (t := 0) (v := (.pointer (some ⟨g0, o0, none⟩))) rfl z7000x0)) ?_
      refine s_val (v := (.pointer (some ⟨g0, o0, none⟩))) (won rfl) rfl rfl (x_move rfl (ev (t := 0) (v := (.pointer (some ⟨g0, o0, none⟩))) rfl z7000x0)) ?_
      refine s_val (v := (.pointer (some ⟨g0, o0, none⟩))) (won rfl) rfl rfl (x_nil rfl (ev (t := 97) rfl rfl)) ?_
      refine s_val (v := (.pointer (some ⟨g0, o0 + 3, none⟩))) (won rfl) rfl rfl (x_field rfl fa_65x3 (ev (t := 100) rfl rfl)) ?_
      refine s_exs (won rfl) rfl (e_store (vs := [(.slice none 0 0)]) (o' := o0) (j := 3) rfl sz_26 (ev (t := 101) rfl rfl) rfl rfl rfl hm8453 (k := 0) rfl hp0 rfl) ?_
      intro w8455 hm8456
      replace hm8456 : Mem w0 w8455 (cat [sg g0 T0 fr0 pre0 [(.int .i64 a0.Size), (.bool a0.Up), v0x2, (.slice none 0 0), (.int .i64 a0.Lost), (.int .i64 a0.Pending), (.int .i64 a0.Every), (.int .i64 a0.Signals)] post0, h0x2, h0x3, p8003.2, sg g8202 71 (0, 0) [] [(.int .i64 0), p8003.1] [], sg g4482 71 (0, 0) [] [(.int .i64 0), (.slice none 0 0)] [], hF]) := hm8456
      refine s_val (v := (.pointer (some ⟨g0, o0, none⟩))) (won rfl) rfl rfl (x_nil rfl (ev (t := 98) rfl rfl)) ?_
      refine s_val (v := (.pointer (some ⟨g0, o0 + 2, none⟩))) (won rfl) rfl rfl (x_field rfl fa_65x2 (ev (t := 102) rfl rfl)) ?_
      refine s_exs (won rfl) rfl (e_store (vs := [(.slice none 0 0)]) (o' := o0) (j := 2) rfl sz_26 (ev (t := 103) rfl rfl) rfl rfl rfl hm8456 (k := 0) rfl hp0 rfl) ?_
      intro w8458 hm8459
      replace hm8459 : Mem w0 w8458 (cat [sg g0 T0 fr0 pre0 [(.int .i64 a0.Size), (.bool a0.Up), (.slice none 0 0), (.slice none 0 0), (.int .i64 a0.Lost), (.int .i64 a0.Pending), (.int .i64 a0.Every), (.int .i64 a0.Signals)] post0, h0x2, h0x3, p8003.2, sg g8202 71 (0, 0) [] [(.int .i64 0), p8003.1] [], sg g4482 71 (0, 0) [] [(.int .i64 0), (.slice none 0 0)] [], hF]) := hm8459
      refine s_val (v := (.pointer (some ⟨g0, o0, none⟩))) (won rfl) rfl rfl (x_nil rfl (ev (t := 99) rfl rfl)) ?_
      refine s_val (v := (.pointer (some ⟨g0, o0 + 5, none⟩))) (won rfl) rfl rfl (x_field rfl fa_65x5 (ev (t := 104) rfl rfl)) ?_
      refine s_exs (won rfl) rfl (e_store (vs := [(.int .i64 0)]) (o' := o0) (j := 5) rfl sz_3 (ev (t := 105) rfl rfl) rfl rfl rfl hm8459 (k := 0) rfl hp0 rfl) ?_
      intro w8460 hm8461
      replace hm8461 : Mem w0 w8460 (cat [sg g0 T0 fr0 pre0 [(.int .i64 a0.Size), (.bool a0.Up), (.slice none 0 0), (.slice none 0 0), (.int .i64 a0.Lost), (.int .i64 0), (.int .i64 a0.Every), (.int .i64 a0.Signals)] post0, h0x2, h0x3, p8003.2, sg g8202 71 (0, 0) [] [(.int .i64 0), p8003.1] [], sg g4482 71 (0, 0) [] [(.int .i64 0), (.slice none 0 0)] [], hF]) := hm8461
      refine wpList_nil ?_
      refine nx ?_
      refine wp_seq ?_
      refine wp_region_lit ?_
      refine s_val (v := (.agg #[(.int .i64 0), p8003.1])) (won rfl) rfl rfl (x_loadN (vs := [(.int .i64 0), p8003.1]) rfl tyN_71 (ev (t := 8) (v := (.pointer (some ⟨g8202, 0, none⟩))) rfl z7000x8) (seg_cells (o' := 0) (j := 0) hm8461 (k := 4) rfl rfl rfl)) ?_
      refine s_exs (won rfl) rfl (e_store (vs := [(.int .i64 0), p8003.1]) (o' := 0) (j := 0) rfl sz_71 (ev (t := 4) (v := (.pointer (some ⟨g4482, 0, none⟩))) rfl z7000x4) (ev (t := 106) rfl rfl) rfl (one_cons rfl (one_cons (IsSl.one (H8004).sl) one_nil)) hm8461 (k := 5) rfl rfl rfl) ?_
      intro w8462 hm8463
      replace hm8463 : Mem w0 w8462 (cat [sg g0 T0 fr0 pre0 [(.int .i64 a0.Size), (.bool a0.Up), (.slice none 0 0), (.slice none 0 0), (.int .i64 a0.Lost), (.int .i64 0), (.int .i64 a0.Every), (.int .i64 a0.Signals)] post0, h0x2, h0x3, p8003.2, sg g8202 71 (0, 0) [] [(.int .i64 0), p8003.1] [], sg g4482 71 (0, 0) [] [(.int .i64 0), p8003.1] [], hF]) := hm8463
      refine wpList_nil ?_
      have hm8464 : Mem w0 w8462 (cat [sg g0 T0 fr0 pre0 [(.int .i64 a0.Size), (.bool a0.Up), (.slice none 0 0), (.slice none 0 0), (.int .i64 a0.Lost), (.int .i64 0), (.int .i64 a0.Every), (.int .i64 a0.Signals)] post0, h0x2, h0x3, p8003.2, sg g4482 71 (0, 0) [] [(.int .i64 0), p8003.1] [], hF]) := Mem.pick [0, 1, 2, 3, 5, 6] rfl hm8463
      refine nx ?_
      refine wp_ret ?_
      refine rb ?_
      refine xr ?_
      obtain rfl := Option.some.inj he
      replace he := outE hk6475
      obtain rfl := Option.some.inj he
      refine r_ret (v := (.agg #[(.int .i64 0), p8003.1])) (rv_one rfl (RVs.cell (cs := [(.int .i64 0), p8003.1]) rfl z7000x4 tyN_71 (seg_cells (o' := 0) (j := 0) hm8464 (k := 4) rfl rfl rfl) RVs.nil)) rfl ?_
      exact ⟨(.slice none 0 0), [], (.slice none 0 0), [], p8003.1, p8003.2, rfl, (OwF.nil 3 (FK.int .i64)), (OwF.nil 3 (FK.int .i64)), H8004, Mem.pick [0, 1000, 1001, 3, 5] rfl hm8464⟩
     ·
      replace he := bifF he hb6969
      refine c_false rfl (p := (decide (a1.Kind = 4))) rfl rfl hb6969 ?_
      refine wp_seq ?_
      refine wp_region_lit ?_
      refine s_val (v := (.bool (decide (a1.Kind = 5)))) (won rfl) rfl rfl (x_eql rfl (ev (t := 10) rfl rfl) rfl) ?_
      refine s_val (v := (.bool (decide (a1.Kind = 5)))) (won rfl) rfl rfl (x_assign rfl (ev (t := 108) rfl rfl)) ?_
      refine wpList_nil ?_
      refine nx ?_
      rcases Bool.eq_false_or_eq_true ((decide (a1.Kind = 5))) with hb8465 | hb8465
      ·
       replace he := bifT he hb8465
       refine c_true rfl (p := (decide (a1.Kind = 5))) rfl rfl hb8465 ?_
       refine wp_seq ?_
       refine wp_region_lit ?_
       refine s_val (v := (.pointer (some ⟨g0, o0, none⟩))) (won rfl) rfl rfl (x_move rfl (ev (t := 0) rfl rfl)) ?_
       refine s_val (v := (.pointer (some ⟨g4477, 1, none⟩))) (won rfl) rfl rfl (x_field rfl fa_74x1 (ev (t := 3) rfl rfl)) ?_
       refine s_val (v := (.int .i64 a1.N)) (won rfl) rfl rfl (x_load rfl ty1x3 (ev (t := 110) rfl rfl) (seg_cell (o' := 0) (j := 1) hm4484 (k := 1) rfl rfl rfl)) ?_
       refine s_val (v := (.bool (decide (a1.N = 1)))) (won rfl) rfl rfl (x_eql rfl (ev (t := 111) rfl rfl) rfl) ?_
       refine s_val (v := (.pointer (some ⟨g0, o0, none⟩))) (won rfl) rfl rfl (x_nil rfl (ev (t := 109) rfl rfl)) ?_
       refine s_val (v := (.pointer (some ⟨g0, o0 + 1, none⟩))) (won rfl) rfl rfl (x_field rfl fa_65x1 (ev (t := 113) rfl rfl)) ?_
       refine s_exs (won rfl) rfl (e_store (vs := [(.bool (decide (a1.N = 1)))]) (o' := o0) (j := 1) rfl sz_4 (ev (t := 114) rfl rfl) (ev (t := 112) rfl rfl) rfl rfl hm4484 (k := 2) rfl hp0 rfl) ?_
       intro w8466 hm8467
       replace hm8467 : Mem w0 w8466 (cat [sg g4482 71 (0, 0) [] [(.int .i64 0), (.slice none 0 0)] [], sg g4477 74 (0, 0) [] [(.int .i64 a1.Kind), (.int .i64 a1.N)] [], sg g0 T0 fr0 pre0 [(.int .i64 a0.Size), (.bool (decide (a1.N = 1))), v0x2, v0x3, (.int .i64 a0.Lost), (.int .i64 a0.Pending), (.int .i64 a0.Every), (.int .i64 a0.Signals)] post0, h0x2, h0x3, hF]) := hm8467
       refine wpList_nil ?_
       have hm8468 : Mem w0 w8466 (cat [sg g4482 71 (0, 0) [] [(.int .i64 0), (.slice none 0 0)] [], sg g0 T0 fr0 pre0 [(.int .i64 a0.Size), (.bool (decide (a1.N = 1))), v0x2, v0x3, (.int .i64 a0.Lost), (.int .i64 a0.Pending), (.int .i64 a0.Every), (.int .i64 a0.Signals)] post0, h0x2, h0x3, hF]) := Mem.pick [0, 2, 3, 4, 5] rfl hm8467
       refine nx ?_
       refine wp_seq ?_
       refine wp_region_lit ?_
       refine s_val (v := (.agg #[(.int .i64 0), (.slice none 0 0)])) (won rfl) rfl rfl (x_build (cells := [(.int .i64 0), (.slice none 0 0)]) (zc := [.int .i64 0, .slice none 0 0]) (sizes := [(0, 1), (1, 1)]) (ps := []) rfl zt_71 rfl uf_71 ufz_71 (pmap_lit pmap_nil) fill_nil) ?_
       refine s_exs (won rfl) rfl (e_store (vs := [(.int .i64 0), (.slice none 0 0)]) (o' := 0) (j := 0) rfl sz_71 (ev (t := 4) rfl rfl) (ev (t := 115) rfl rfl) rfl rfl hm8468 (k := 0) rfl rfl rfl) ?_
       intro w8470 hm8471
       replace hm8471 : Mem w0 w8470 (cat [sg g4482 71 (0, 0) [] [(.int .i64 0), (.slice none 0 0)] [], sg g0 T0 fr0 pre0 [(.int .i64 a0.Size), (.bool (decide (a1.N = 1))), v0x2, v0x3, (.int .i64 a0.Lost), (.int .i64 a0.Pending), (.int .i64 a0.Every), (.int .i64 a0.Signals)] post0, h0x2, h0x3, hF]) := hm8471
       refine wpList_nil ?_
       refine nx ?_
       refine wp_ret ?_
       refine rb ?_
       refine xr ?_
       obtain rfl := Option.some.inj he
       replace he := outE hk6475
       obtain rfl := Option.some.inj he
       refine r_ret (v := (.agg #[(.int .i64 0), (.slice none 0 0)])) (rv_one rfl (RVs.cell (cs := [(.int .i64 0), (.slice none 0 0)]) rfl rfl tyN_71 (seg_cells (o' := 0) (j := 0) hm8471 (k := 0) rfl rfl rfl) RVs.nil)) rfl ?_
       exact ⟨v0x2, h0x2, v0x3, h0x3, (.slice none 0 0), [], rfl, H0x2, H0x3, (OwF.nil 3 (FK.int .i64)), Mem.pick [1, 2, 3, 1000, 4] rfl hm8471⟩
      ·
       replace he := bifF he hb8465
       refine c_false rfl (p := (decide (a1.Kind = 5))) rfl rfl hb8465 ?_
       refine wp_skip ?_
       refine nb ?_
       refine nx ?_
       obtain rfl := Option.some.inj he
       exact ⟨(), _, rfl, rfl, rfl, Mem.pick [2, 0, 3, 4, 5] rfl hm4484⟩
 ·
  rintro a w ⟨s6473, f, rfl, rfl, q6472, hm8473⟩
  replace he := goE hk6475
  refine wp_seq ?_
  refine wp_region_lit ?_
  refine s_val (v := (.agg #[(.int .i64 3), (.slice none 0 0)])) (won rfl) rfl rfl (x_build (cells := [(.int .i64 3), (.slice none 0 0)]) (zc := [.int .i64 0, .slice none 0 0]) (sizes := [(0, 1), (1, 1)]) (ps := [(0, (.int .i64 3))]) rfl zt_71 rfl uf_71 ufz_71 (pmap_lit (pmap_cons rfl pmap_nil)) (fill_cons (cs := [(.int .i64 3)]) rfl rfl rfl fill_nil)) ?_
  refine s_exs (won rfl) rfl (e_store (vs := [(.int .i64 3), (.slice none 0 0)]) (o' := 0) (j := 0) rfl sz_71 (ev (t := 4) (v := (.pointer (some ⟨g4482, 0, none⟩))) rfl q6472) (ev (t := 116) rfl rfl) rfl rfl hm8473 (k := 1) rfl rfl rfl) ?_
  intro w8475 hm8476
  replace hm8476 : Mem w0 w8475 (cat [sg g0 T0 fr0 pre0 [(.int .i64 a0.Size), (.bool a0.Up), v0x2, v0x3, (.int .i64 a0.Lost), (.int .i64 a0.Pending), (.int .i64 a0.Every), (.int .i64 a0.Signals)] post0, sg g4482 71 (0, 0) [] [(.int .i64 3), (.slice none 0 0)] [], h0x2, h0x3, hF]) := hm8476
  refine wpList_nil ?_
  refine nx ?_
  refine wp_ret ?_
  obtain rfl := Option.some.inj he
  refine r_ret (v := (.agg #[(.int .i64 3), (.slice none 0 0)])) (rv_one rfl (RVs.cell (cs := [(.int .i64 3), (.slice none 0 0)]) rfl q6472 tyN_71 (seg_cells (o' := 0) (j := 0) hm8476 (k := 1) rfl rfl rfl) RVs.nil)) rfl ?_
  exact ⟨v0x2, h0x2, v0x3, h0x3, (.slice none 0 0), [], rfl, H0x2, H0x3, (OwF.nil 3 (FK.int .i64)), Mem.pick [0, 2, 3, 1000, 4] rfl hm8476⟩
def impl_RingRun_l1 (F : Nat) (a2 : (List impl_RingAct)) (r1000 : (impl_Ring × Int)) : Nat → Bool → (List Int) → (List Int) → Int → Int → Int → (List impl_RingReply) → Int → Option (Bool × (List Int) × (List Int) × Int × Int × Int × (List impl_RingReply))
  | 0, _, _, _, _, _, _, _, _ => none
  | k + 1, s1735, s1736, s1740, s1744, s1745, s1746, s1748, s1754 => (bif (decide (s1754 < (a2.length : Int))) then gd ((0 : Int) ≤ s1754 ∧ s1754 < (a2.length : Int)) ((impl_Ring_act F (impl_Ring.mk r1000.1.Size s1735 s1736 s1740 s1744 s1745 r1000.1.Every s1746) (impl_RingAct.mk (ix a2 s1754).Kind (ix a2 s1754).N)).bind fun r1915 => gd ((0 : Int) ≤ s1754 ∧ s1754 < (s1748.length : Int)) (impl_RingRun_l1 F a2 r1000 k r1915.2.Up r1915.2.Posted r1915.2.Done r1915.2.Lost r1915.2.Pending r1915.2.Signals (List.set s1748 (Int.toNat s1754) r1915.1) (IntKind.wrap .i64 (s1754 + 1)))) else (some (s1735, s1736, s1740, s1744, s1745, s1746, s1748)))
def impl_RingRun (F : Nat) (a0 : Int) (a1 : Int) (a2 : (List impl_RingAct)) : Option (impl_Ring × (List impl_RingReply) × Int) := (bif (decide ((4096 : Int) < (a2.length : Int))) then (some ((impl_Ring.mk 0 false ([] : List Int) ([] : List Int) 0 0 0 0), ([] : List impl_RingReply), 2)) else (impl_NewRing a0 a1).bind fun r1000 => (bif (!decide (r1000.2 = 0)) then (some ((impl_Ring.mk 0 false ([] : List Int) ([] : List Int) 0 0 0 0), ([] : List impl_RingReply), r1000.2)) else (bif (decide ((300 : Int) < (a2.length : Int))) then (some ((impl_Ring.mk 0 false ([] : List Int) ([] : List Int) 0 0 0 0), ([] : List impl_RingReply), 6)) else gd ((0 : Int) ≤ (a2.length : Int) ∧ (Int.toNat (a2.length : Int)) * 32 ≤ 140737488355328) ((impl_RingRun_l1 F a2 r1000 F r1000.1.Up r1000.1.Posted r1000.1.Done r1000.1.Lost r1000.1.Pending r1000.1.Signals (List.replicate (Int.toNat (a2.length : Int)) (impl_RingReply.mk 0 [])) 0 : Option (Bool × (List Int) × (List Int) × Int × Int × Int × (List impl_RingReply))).bind fun (s1512 : (Bool × (List Int) × (List Int) × Int × Int × Int × (List impl_RingReply))) => (some ((impl_Ring.mk r1000.1.Size s1512.1 s1512.2.1 s1512.2.2.1 s1512.2.2.2.1 s1512.2.2.2.2.1 r1000.1.Every s1512.2.2.2.2.2.1), s1512.2.2.2.2.2.2, 0))))))
set_option maxHeartbeats 400000 in
set_option maxRecDepth 100000 in
theorem impl_RingRun_ok (F : Nat) {w0 w : World} {hR hF : Hp} {v2x0 : Value} (a0 : Int) (a1 : Int) (a2 : (List impl_RingAct)) {r : (impl_Ring × (List impl_RingReply) × Int)} (H2x0 : RdF w0 impl_RingAct.K v2x0 a2 hR) (hs : Sub hR hF) (hm : Mem w0 w (cat [hF])) (he : impl_RingRun F a0 a1 a2 = some r) :
    Calls Try.prog 34 #[(.int .i64 a0), (.int .i64 a1), v2x0] w (fun e w' => ∃ (v'0 : Value) (h'0 : Hp) (v'1 : Value) (h'1 : Hp) (v'2 : Value) (h'2 : Hp), e = .returned (.tuple #[(.agg #[(.int .i64 r.1.Size), (.bool r.1.Up), v'0, v'1, (.int .i64 r.1.Lost), (.int .i64 r.1.Pending), (.int .i64 r.1.Every), (.int .i64 r.1.Signals)]), v'2, (.int .i64 r.2.2)]) ∧ OwF 3 (FK.int .i64) v'0 r.1.Posted h'0 ∧ OwF 3 (FK.int .i64) v'1 r.1.Done h'1 ∧ OwD 71 impl_RingReply_D v'2 r.2.1 h'2 ∧ Mem w0 w' (cat [h'0, h'1, h'2, hF])) := by
 refine calls_fr (n := 50) Try.func34 rfl rfl rfl ?_
 unfold impl_RingRun at he
 refine wp_seq ?_
 refine wp_region_lit ?_
 refine s_exv (won rfl) rfl rfl (e_alloc (vs := [(.int .i64 0), (.bool false), (.slice none 0 0), (.slice none 0 0), (.int .i64 0), (.int .i64 0), (.int .i64 0), (.int .i64 0)]) rfl zt_65 rfl hm) ?_
 rintro g983 w984 hm985
 refine s_val (v := (.slice none 0 0)) (won rfl) rfl rfl (x_assign rfl rfl) ?_
 refine s_val (v := (.int .i64 0)) (won rfl) rfl rfl (x_assign rfl rfl) ?_
 refine wpList_nil ?_
 refine nx ?_
 refine wp_seq ?_
 refine wp_seq ?_
 refine wp_region_lit ?_
 refine s_val (v := v2x0) (won rfl) rfl rfl (x_move rfl (ev (t := 2) rfl rfl)) ?_
 refine s_val (v := (.int .i64 (a2.length : Int))) (won rfl) rfl rfl (x_len rfl slt_62 (ev (t := 14) rfl rfl) (H2x0).sl) ?_
 refine s_val (v := (.bool (decide ((4096 : Int) < (a2.length : Int))))) (won rfl) rfl rfl (x_gtr rfl (ev (t := 15) rfl rfl) rfl) ?_
 refine wpList_nil ?_
 refine nx ?_
 rcases Bool.eq_false_or_eq_true ((decide ((4096 : Int) < (a2.length : Int)))) with hb994 | hb994
 ·
  replace he := bifT he hb994
  refine c_true rfl (p := (decide ((4096 : Int) < (a2.length : Int)))) rfl rfl hb994 ?_
  refine wp_seq ?_
  refine wp_region_lit ?_
  refine s_val (v := (.agg #[(.int .i64 0), (.bool false), (.slice none 0 0), (.slice none 0 0), (.int .i64 0), (.int .i64 0), (.int .i64 0), (.int .i64 0)])) (won rfl) rfl rfl (x_build (cells := [(.int .i64 0), (.bool false), (.slice none 0 0), (.slice none 0 0), (.int .i64 0), (.int .i64 0), (.int .i64 0), (.int .i64 0)]) (zc := [.int .i64 0, .bool false, .slice none 0 0, .slice none 0 0, .int .i64 0, .int .i64 0, .int .i64 0, .int .i64 0]) (sizes := [(0, 1), (1, 1), (2, 1), (3, 1), (4, 1), (5, 1), (6, 1), (7, 1)]) (ps := []) rfl zt_65 rfl uf_65 ufz_65 (pmap_lit pmap_nil) fill_nil) ?_
  refine s_exs (won rfl) rfl (e_store (vs := [(.int .i64 0), (.bool false), (.slice none 0 0), (.slice none 0 0), (.int .i64 0), (.int .i64 0), (.int .i64 0), (.int .i64 0)]) (o' := 0) (j := 0) rfl sz_65 (ev (t := 6) rfl rfl) (ev (t := 17) rfl rfl) rfl rfl hm985 (k := 0) rfl rfl rfl) ?_
  intro w997 hm998
  replace hm998 : Mem w0 w997 (cat [sg g983 65 (0, 0) [] [(.int .i64 0), (.bool false), (.slice none 0 0), (.slice none 0 0), (.int .i64 0), (.int .i64 0), (.int .i64 0), (.int .i64 0)] [], hF]) := hm998
  refine s_val (v := (.slice none 0 0)) (won rfl) rfl rfl (x_assign rfl rfl) ?_
  refine s_val (v := (.int .i64 2)) (won rfl) rfl rfl (x_assign rfl rfl) ?_
  refine wpList_nil ?_
  refine nx ?_
  refine wp_ret ?_
  refine xr ?_
  obtain rfl := Option.some.inj he
  refine r_ret (v := (.tuple #[(.agg #[(.int .i64 0), (.bool false), (.slice none 0 0), (.slice none 0 0), (.int .i64 0), (.int .i64 0), (.int .i64 0), (.int .i64 0)]), (.slice none 0 0), (.int .i64 2)])) (rv_list rfl rfl (RVs.cell (cs := [(.int .i64 0), (.bool false), (.slice none 0 0), (.slice none 0 0), (.int .i64 0), (.int .i64 0), (.int .i64 0), (.int .i64 0)]) rfl rfl tyN_65 (seg_cells (o' := 0) (j := 0) hm998 (k := 0) rfl rfl rfl) (RVs.tmp (v := (.slice none 0 0)) rfl rfl (RVs.tmp (v := (.int .i64 2)) rfl rfl RVs.nil)))) rfl ?_
  exact ⟨(.slice none 0 0), [], (.slice none 0 0), [], (.slice none 0 0), [], rfl, (OwF.nil 3 (FK.int .i64)), (OwF.nil 3 (FK.int .i64)), (OwD.nil 71 impl_RingReply_D), Mem.pick [1000, 1001, 1002, 1] rfl hm998⟩
 ·
  replace he := bifF he hb994
  refine c_false rfl (p := (decide ((4096 : Int) < (a2.length : Int)))) rfl rfl hb994 ?_
  refine wp_skip ?_
  refine nx ?_
  refine wp_seq ?_
  obtain ⟨r1000, hr1000, he⟩ := bindE he
  refine wp_region_lit ?_
  refine s_val (v := (.int .i64 a0)) (won rfl) rfl rfl (x_move rfl (ev (t := 0) rfl rfl)) ?_
  refine s_val (v := (.int .i64 a1)) (won rfl) rfl rfl (x_move rfl (ev (t := 1) rfl rfl)) ?_
  refine s_call (won rfl) rfl rfl (x_call rfl rfl cl_74 (map_lit (map_cons (ev (t := 19) rfl rfl) (map_cons (ev (t := 20) rfl rfl) map_nil)))) (impl_NewRing_ok (hR := (cat [])) (hF := cat [sg g983 65 (0, 0) [] [(.int .i64 0), (.bool false), (.slice none 0 0), (.slice none 0 0), (.int .i64 0), (.int .i64 0), (.int .i64 0), (.int .i64 0)] [], hF]) a0 a1  (Mem.one hm985) hr1000) ?_
  rintro e w1009 ⟨v1002, h1004, v1006, h1008, rfl, H1003, H1007, hm1010⟩
  refine ⟨_, rfl, ?_⟩
  replace hm1010 : Mem w0 w1009 (cat [h1004, h1008, sg g983 65 (0, 0) [] [(.int .i64 0), (.bool false), (.slice none 0 0), (.slice none 0 0), (.int .i64 0), (.int .i64 0), (.int .i64 0), (.int .i64 0)] [], hF]) := Mem.ung [h1004, h1008] [sg g983 65 (0, 0) [] [(.int .i64 0), (.bool false), (.slice none 0 0), (.slice none 0 0), (.int .i64 0), (.int .i64 0), (.int .i64 0), (.int .i64 0)] [], hF] hm1010
  refine s_val (v := (.tuple #[(.agg #[(.int .i64 r1000.1.Size), (.bool r1000.1.Up), v1002, v1006, (.int .i64 r1000.1.Lost), (.int .i64 r1000.1.Pending), (.int .i64 r1000.1.Every), (.int .i64 r1000.1.Signals)]), (.int .i64 r1000.2)])) (won rfl) rfl rfl (x_move rfl (ev (t := 21) rfl rfl)) ?_
  refine s_val (v := (.agg #[(.int .i64 r1000.1.Size), (.bool r1000.1.Up), v1002, v1006, (.int .i64 r1000.1.Lost), (.int .i64 r1000.1.Pending), (.int .i64 r1000.1.Every), (.int .i64 r1000.1.Signals)])) (won rfl) rfl rfl (x_extract rfl (ev (t := 18) rfl rfl) rfl) ?_
  refine s_val (v := (.int .i64 r1000.2)) (won rfl) rfl rfl (x_extract rfl (ev (t := 18) rfl rfl) rfl) ?_
  refine s_exv (won rfl) rfl rfl (e_alloc (vs := [(.int .i64 0), (.bool false), (.slice none 0 0), (.slice none 0 0), (.int .i64 0), (.int .i64 0), (.int .i64 0), (.int .i64 0)]) rfl zt_65 rfl hm1010) ?_
  rintro g1013 w1014 hm1015
  refine s_exs (won rfl) rfl (e_store (vs := [(.int .i64 r1000.1.Size), (.bool r1000.1.Up), v1002, v1006, (.int .i64 r1000.1.Lost), (.int .i64 r1000.1.Pending), (.int .i64 r1000.1.Every), (.int .i64 r1000.1.Signals)]) (o' := 0) (j := 0) rfl sz_65 (ev (t := 9) rfl rfl) (ev (t := 22) rfl rfl) rfl (one_cons rfl (one_cons rfl (one_cons (IsSl.one (H1003).sl) (one_cons (IsSl.one (H1007).sl) (one_cons rfl (one_cons rfl (one_cons rfl (one_cons rfl one_nil)))))))) hm1015 (k := 0) rfl rfl rfl) ?_
  intro w1017 hm1018
  replace hm1018 : Mem w0 w1017 (cat [sg g1013 65 (0, 0) [] [(.int .i64 r1000.1.Size), (.bool r1000.1.Up), v1002, v1006, (.int .i64 r1000.1.Lost), (.int .i64 r1000.1.Pending), (.int .i64 r1000.1.Every), (.int .i64 r1000.1.Signals)] [], h1004, h1008, sg g983 65 (0, 0) [] [(.int .i64 0), (.bool false), (.slice none 0 0), (.slice none 0 0), (.int .i64 0), (.int .i64 0), (.int .i64 0), (.int .i64 0)] [], hF]) := hm1018
  refine s_val (v := (.int .i64 r1000.2)) (won rfl) rfl rfl (x_assign rfl (ev (t := 23) rfl rfl)) ?_
  refine wpList_nil ?_
  refine nx ?_
  refine wp_seq ?_
  refine wp_seq ?_
  refine wp_region_lit ?_
  refine s_val (v := (.int .i64 r1000.2)) (won rfl) rfl rfl (x_move rfl (ev (t := 10) rfl rfl)) ?_
  refine s_val (v := (.bool (!decide (r1000.2 = 0)))) (won rfl) rfl rfl (x_neq rfl (ev (t := 24) rfl rfl) rfl) ?_
  refine wpList_nil ?_
  refine nx ?_
  rcases Bool.eq_false_or_eq_true ((!decide (r1000.2 = 0))) with hb1026 | hb1026
  ·
   replace he := bifT he hb1026
   refine c_true rfl (p := (!decide (r1000.2 = 0))) rfl rfl hb1026 ?_
   refine wp_seq ?_
   refine wp_region_lit ?_
   refine s_val (v := (.agg #[(.int .i64 0), (.bool false), (.slice none 0 0), (.slice none 0 0), (.int .i64 0), (.int .i64 0), (.int .i64 0), (.int .i64 0)])) (won rfl) rfl rfl (x_build (cells := [(.int .i64 0), (.bool false), (.slice none 0 0), (.slice none 0 0), (.int .i64 0), (.int .i64 0), (.int .i64 0), (.int .i64 0)]) (zc := [.int .i64 0, .bool false, .slice none 0 0, .slice none 0 0, .int .i64 0, .int .i64 0, .int .i64 0, .int .i64 0]) (sizes := [(0, 1), (1, 1), (2, 1), (3, 1), (4, 1), (5, 1), (6, 1), (7, 1)]) (ps := []) rfl zt_65 rfl uf_65 ufz_65 (pmap_lit pmap_nil) fill_nil) ?_
   refine s_val (v := (.int .i64 r1000.2)) (won rfl) rfl rfl (x_move rfl (ev (t := 10) rfl rfl)) ?_
   refine s_exs (won rfl) rfl (e_store (vs := [(.int .i64 0), (.bool false), (.slice none 0 0), (.slice none 0 0), (.int .i64 0), (.int .i64 0), (.int .i64 0), (.int .i64 0)]) (o' := 0) (j := 0) rfl sz_65 (ev (t := 6) rfl rfl) (ev (t := 26) rfl rfl) rfl rfl hm1018 (k := 3) rfl rfl rfl) ?_
   intro w1029 hm1030
   replace hm1030 : Mem w0 w1029 (cat [sg g1013 65 (0, 0) [] [(.int .i64 r1000.1.Size), (.bool r1000.1.Up), v1002, v1006, (.int .i64 r1000.1.Lost), (.int .i64 r1000.1.Pending), (.int .i64 r1000.1.Every), (.int .i64 r1000.1.Signals)] [], h1004, h1008, sg g983 65 (0, 0) [] [(.int .i64 0), (.bool false), (.slice none 0 0), (.slice none 0 0), (.int .i64 0), (.int .i64 0), (.int .i64 0), (.int .i64 0)] [], hF]) := hm1030
   refine s_val (v := (.slice none 0 0)) (won rfl) rfl rfl (x_assign rfl rfl) ?_
   refine s_val (v := (.int .i64 r1000.2)) (won rfl) rfl rfl (x_assign rfl (ev (t := 27) rfl rfl)) ?_
   refine wpList_nil ?_
   have hm1032 : Mem w0 w1029 (cat [sg g983 65 (0, 0) [] [(.int .i64 0), (.bool false), (.slice none 0 0), (.slice none 0 0), (.int .i64 0), (.int .i64 0), (.int .i64 0), (.int .i64 0)] [], hF]) := Mem.pick [3, 4] rfl hm1030
   refine nx ?_
   refine wp_ret ?_
   refine xr ?_
   obtain rfl := Option.some.inj he
   refine r_ret (v := (.tuple #[(.agg #[(.int .i64 0), (.bool false), (.slice none 0 0), (.slice none 0 0), (.int .i64 0), (.int .i64 0), (.int .i64 0), (.int .i64 0)]), (.slice none 0 0), (.int .i64 r1000.2)])) (rv_list rfl rfl (RVs.cell (cs := [(.int .i64 0), (.bool false), (.slice none 0 0), (.slice none 0 0), (.int .i64 0), (.int .i64 0), (.int .i64 0), (.int .i64 0)]) rfl rfl tyN_65 (seg_cells (o' := 0) (j := 0) hm1032 (k := 0) rfl rfl rfl) (RVs.tmp (v := (.slice none 0 0)) rfl rfl (RVs.tmp (v := (.int .i64 r1000.2)) rfl rfl RVs.nil)))) rfl ?_
   exact ⟨(.slice none 0 0), [], (.slice none 0 0), [], (.slice none 0 0), [], rfl, (OwF.nil 3 (FK.int .i64)), (OwF.nil 3 (FK.int .i64)), (OwD.nil 71 impl_RingReply_D), Mem.pick [1000, 1001, 1002, 1] rfl hm1032⟩
  ·
   replace he := bifF he hb1026
   refine c_false rfl (p := (!decide (r1000.2 = 0))) rfl rfl hb1026 ?_
   refine wp_skip ?_
   refine nx ?_
   refine wp_seq ?_
   refine wp_seq ?_
   refine wp_region_lit ?_
   refine s_val (v := v2x0) (won rfl) rfl rfl (x_move rfl (ev (t := 2) rfl rfl)) ?_
   refine s_val (v := (.int .i64 (a2.length : Int))) (won rfl) rfl rfl (x_len rfl slt_62 (ev (t := 28) rfl rfl) (H2x0).sl) ?_
   refine s_val (v := (.bool (decide ((300 : Int) < (a2.length : Int))))) (won rfl) rfl rfl (x_gtr rfl (ev (t := 29) rfl rfl) rfl) ?_
   refine wpList_nil ?_
   refine nx ?_
   rcases Bool.eq_false_or_eq_true ((decide ((300 : Int) < (a2.length : Int)))) with hb1040 | hb1040
   ·
    replace he := bifT he hb1040
    refine c_true rfl (p := (decide ((300 : Int) < (a2.length : Int)))) rfl rfl hb1040 ?_
    refine wp_seq ?_
    refine wp_region_lit ?_
    refine s_val (v := (.agg #[(.int .i64 0), (.bool false), (.slice none 0 0), (.slice none 0 0), (.int .i64 0), (.int .i64 0), (.int .i64 0), (.int .i64 0)])) (won rfl) rfl rfl (x_build (cells := [(.int .i64 0), (.bool false), (.slice none 0 0), (.slice none 0 0), (.int .i64 0), (.int .i64 0), (.int .i64 0), (.int .i64 0)]) (zc := [.int .i64 0, .bool false, .slice none 0 0, .slice none 0 0, .int .i64 0, .int .i64 0, .int .i64 0, .int .i64 0]) (sizes := [(0, 1), (1, 1), (2, 1), (3, 1), (4, 1), (5, 1), (6, 1), (7, 1)]) (ps := []) rfl zt_65 rfl uf_65 ufz_65 (pmap_lit pmap_nil) fill_nil) ?_
    refine s_exs (won rfl) rfl (e_store (vs := [(.int .i64 0), (.bool false), (.slice none 0 0), (.slice none 0 0), (.int .i64 0), (.int .i64 0), (.int .i64 0), (.int .i64 0)]) (o' := 0) (j := 0) rfl sz_65 (ev (t := 6) rfl rfl) (ev (t := 31) rfl rfl) rfl rfl hm1018 (k := 3) rfl rfl rfl) ?_
    intro w1043 hm1044
    replace hm1044 : Mem w0 w1043 (cat [sg g1013 65 (0, 0) [] [(.int .i64 r1000.1.Size), (.bool r1000.1.Up), v1002, v1006, (.int .i64 r1000.1.Lost), (.int .i64 r1000.1.Pending), (.int .i64 r1000.1.Every), (.int .i64 r1000.1.Signals)] [], h1004, h1008, sg g983 65 (0, 0) [] [(.int .i64 0), (.bool false), (.slice none 0 0), (.slice none 0 0), (.int .i64 0), (.int .i64 0), (.int .i64 0), (.int .i64 0)] [], hF]) := hm1044
    refine s_val (v := (.slice none 0 0)) (won rfl) rfl rfl (x_assign rfl rfl) ?_
    refine s_val (v := (.int .i64 6)) (won rfl) rfl rfl (x_assign rfl rfl) ?_
    refine wpList_nil ?_
    have hm1046 : Mem w0 w1043 (cat [sg g983 65 (0, 0) [] [(.int .i64 0), (.bool false), (.slice none 0 0), (.slice none 0 0), (.int .i64 0), (.int .i64 0), (.int .i64 0), (.int .i64 0)] [], hF]) := Mem.pick [3, 4] rfl hm1044
    refine nx ?_
    refine wp_ret ?_
    refine xr ?_
    obtain rfl := Option.some.inj he
    refine r_ret (v := (.tuple #[(.agg #[(.int .i64 0), (.bool false), (.slice none 0 0), (.slice none 0 0), (.int .i64 0), (.int .i64 0), (.int .i64 0), (.int .i64 0)]), (.slice none 0 0), (.int .i64 6)])) (rv_list rfl rfl (RVs.cell (cs := [(.int .i64 0), (.bool false), (.slice none 0 0), (.slice none 0 0), (.int .i64 0), (.int .i64 0), (.int .i64 0), (.int .i64 0)]) rfl rfl tyN_65 (seg_cells (o' := 0) (j := 0) hm1046 (k := 0) rfl rfl rfl) (RVs.tmp (v := (.slice none 0 0)) rfl rfl (RVs.tmp (v := (.int .i64 6)) rfl rfl RVs.nil)))) rfl ?_
    exact ⟨(.slice none 0 0), [], (.slice none 0 0), [], (.slice none 0 0), [], rfl, (OwF.nil 3 (FK.int .i64)), (OwF.nil 3 (FK.int .i64)), (OwD.nil 71 impl_RingReply_D), Mem.pick [1000, 1001, 1002, 1] rfl hm1046⟩
   ·
    replace he := bifF he hb1040
    refine c_false rfl (p := (decide ((300 : Int) < (a2.length : Int)))) rfl rfl hb1040 ?_
    refine wp_skip ?_
    refine nx ?_
    refine wp_seq ?_
    obtain ⟨hg1047, he⟩ := gdE he
    refine wp_region_lit ?_
    refine s_val (v := v2x0) (won rfl) rfl rfl (x_move rfl (ev (t := 2) rfl rfl)) ?_
    refine s_val (v := (.int .i64 (a2.length : Int))) (won rfl) rfl rfl (x_len rfl slt_62 (ev (t := 32) rfl rfl) (H2x0).sl) ?_
    refine s_exv (won rfl) rfl rfl (e_makeD (d := impl_RingReply_D) (a := (impl_RingReply.mk 0 [])) (zc := [.int .i64 0, .slice none 0 0]) rfl slt_66 rfl (impl_RingReply_Kmk ⟨.slice none 0 0, [], rfl, OwF.nil 3 (FK.int .i64), rfl⟩) (ev (t := 33) rfl rfl) (ev (t := 33) rfl rfl) hg1047.1 hg1047.2 (by have := hg1047; omega) hm1018) ?_
    rintro p1049 w1051 ⟨H1050, hm1052⟩
    replace hm1052 : Mem w0 w1051 (cat [p1049.2, sg g1013 65 (0, 0) [] [(.int .i64 r1000.1.Size), (.bool r1000.1.Up), v1002, v1006, (.int .i64 r1000.1.Lost), (.int .i64 r1000.1.Pending), (.int .i64 r1000.1.Every), (.int .i64 r1000.1.Signals)] [], h1004, h1008, sg g983 65 (0, 0) [] [(.int .i64 0), (.bool false), (.slice none 0 0), (.slice none 0 0), (.int .i64 0), (.int .i64 0), (.int .i64 0), (.int .i64 0)] [], hF]) := hm1052
    refine s_val (v := p1049.1) (won rfl) rfl rfl (x_assign rfl (ev (t := 34) rfl rfl)) ?_
    refine wpList_nil ?_
    refine nx ?_
    obtain ⟨s1512, hT1514, hk1513⟩ := bindE he
    replace he := hT1514
    refine wp_seqJ (fun a w => ∃ (v1497 : Value) (h1498 : Hp) (v1501 : Value) (h1502 : Hp) (h1509 : Hp) (f : Nat → Value), a = fr 50 f ∧ f 6 = (.pointer (some ⟨g983, 0, none⟩)) ∧ f 9 = (.pointer (some ⟨g1013, 0, none⟩)) ∧ f 11 = p1049.1 ∧ OwF 3 (FK.int .i64) v1497 s1512.2.1 h1498 ∧ OwF 3 (FK.int .i64) v1501 s1512.2.2.1 h1502 ∧ OwD 71 impl_RingReply_D p1049.1 s1512.2.2.2.2.2.2 h1509 ∧ Mem w0 w (cat [sg g983 65 (0, 0) [] [(.int .i64 0), (.bool false), (.slice none 0 0), (.slice none 0 0), (.int .i64 0), (.int .i64 0), (.int .i64 0), (.int .i64 0)] [], sg g1013 65 (0, 0) [] [(.int .i64 r1000.1.Size), (.bool s1512.1), v1497, v1501, (.int .i64 s1512.2.2.2.1), (.int .i64 s1512.2.2.2.2.1), (.int .i64 r1000.1.Every), (.int .i64 s1512.2.2.2.2.2.1)] [], h1498, h1502, h1509, hF])) ?_ ?_
    ·
     refine wp_seq ?_
     refine wp_region_lit ?_
     refine s_val (v := v2x0) (won rfl) rfl rfl (x_move rfl (ev (t := 2) rfl rfl)) ?_
     refine s_val (v := (.int .i64 (a2.length : Int))) (won rfl) rfl rfl (x_len rfl slt_62 (ev (t := 35) rfl rfl) (H2x0).sl) ?_
     refine s_val (v := (.int .i64 0)) (won rfl) rfl rfl (x_move rfl rfl) ?_
     refine wpList_nil ?_
     refine nx ?_
     refine wp_block ?_
     refine wp_fuel (I := fun k => fun a w => ∃ (s1735 : Bool) (s1736 : (List Int)) (s1740 : (List Int)) (s1744 : Int) (s1745 : Int) (s1746 : Int) (s1748 : (List impl_RingReply)) (s1754 : Int) (v1737 : Value) (h1738 : Hp) (v1741 : Value) (h1742 : Hp) (h1749 : Hp) (f : Nat → Value), impl_RingRun_l1 F a2 r1000 k s1735 s1736 s1740 s1744 s1745 s1746 s1748 s1754 = some s1512 ∧ a = fr 50 f ∧ f 6 = (.pointer (some ⟨g983, 0, none⟩)) ∧ f 9 = (.pointer (some ⟨g1013, 0, none⟩)) ∧ f 11 = p1049.1 ∧ f 35 = v2x0 ∧ f 36 = (.int .i64 (a2.length : Int)) ∧ f 37 = (.int .i64 s1754) ∧ OwF 3 (FK.int .i64) v1737 s1736 h1738 ∧ OwF 3 (FK.int .i64) v1741 s1740 h1742 ∧ OwD 71 impl_RingReply_D p1049.1 s1748 h1749 ∧ Mem w0 w (cat [sg g983 65 (0, 0) [] [(.int .i64 0), (.bool false), (.slice none 0 0), (.slice none 0 0), (.int .i64 0), (.int .i64 0), (.int .i64 0), (.int .i64 0)] [], sg g1013 65 (0, 0) [] [(.int .i64 r1000.1.Size), (.bool s1735), v1737, v1741, (.int .i64 s1744), (.int .i64 s1745), (.int .i64 r1000.1.Every), (.int .i64 s1746)] [], h1738, h1742, h1749, hF])) F _ _ ⟨r1000.1.Up, r1000.1.Posted, r1000.1.Done, r1000.1.Lost, r1000.1.Pending, r1000.1.Signals, (List.replicate (Int.toNat (a2.length : Int)) (impl_RingReply.mk 0 [])), 0, v1002, h1004, v1006, h1008, p1049.2, _, he, rfl, rfl, rfl, rfl, rfl, rfl, rfl, H1003, H1007, H1050, Mem.pick [4, 1, 2, 3, 0, 5] rfl hm1052⟩ ?_ ?_
     ·
      rintro a w ⟨s1735, s1736, s1740, s1744, s1745, s1746, s1748, s1754, v1737, h1738, v1741, h1742, h1749, f, he, rfl, q1734, q1747, q1751, q1752, q1753, q1755, H1739, H1743, H1750, hm1855⟩
      rw [impl_RingRun_l1] at he; exact none_no he
     ·
      rintro k a w ⟨s1735, s1736, s1740, s1744, s1745, s1746, s1748, s1754, v1737, h1738, v1741, h1742, h1749, f, he, rfl, q1734, q1747, q1751, q1752, q1753, q1755, H1739, H1743, H1750, hm1857⟩
      rw [impl_RingRun_l1] at he
      refine wp_seq ?_
      refine wp_region_lit ?_
      refine s_val (v := (.bool (decide (s1754 < (a2.length : Int))))) (won rfl) rfl rfl (x_lss rfl (ev (t := 37) (v := (.int .i64 s1754)) rfl q1755) (ev (t := 36) (v := (.int .i64 (a2.length : Int))) rfl q1753)) ?_
      refine wpList_nil ?_
      refine nx ?_
      refine wp_seq ?_
      rcases Bool.eq_false_or_eq_true ((decide (s1754 < (a2.length : Int)))) with hb1859 | hb1859
      ·
       replace he := bifT he hb1859
       refine c_true rfl (p := (decide (s1754 < (a2.length : Int)))) rfl rfl hb1859 ?_
       refine wp_skip ?_
       refine nx ?_
       refine wp_seq ?_
       refine wp_block ?_
       refine wp_seq ?_
       obtain ⟨hg1908, he⟩ := gdE he
       refine wp_region_lit ?_
       refine s_val (v := (.int .i64 s1754)) (won rfl) rfl rfl (x_move rfl (ev (t := 37) (v := (.int .i64 s1754)) rfl q1755)) ?_
       refine s_val (v := (.pointer (some ((slA v2x0).add (Int.toNat s1754 * 2))))) (won rfl) rfl rfl (x_index (d := impl_RingAct.K) rfl slt_62 (ev (t := 35) (v := v2x0) rfl q1752) (ev (t := 37) (v := (.int .i64 s1754)) rfl q1755) H2x0 hg1908.1 hg1908.2) ?_
       refine s_val (v := (.agg #[(.int .i64 (ix a2 s1754).Kind), (.int .i64 (ix a2 s1754).N)])) (won rfl) rfl rfl (x_loadN (vs := [(.int .i64 (ix a2 s1754).Kind), (.int .i64 (ix a2 s1754).N)]) rfl tyN_74 (ev (t := 40) rfl rfl) (RdF.cells H2x0 hm1857 (Sub.trans hs (Sub.at_ (k := 5) rfl)) hg1908.1 hg1908.2)) ?_
       refine s_exv (won rfl) rfl rfl (e_alloc (vs := [(.int .i64 0), (.int .i64 0)]) rfl zt_74 rfl hm1857) ?_
       rintro g1909 w1910 hm1911
       refine s_val (v := (.int .i64 s1754)) (won rfl) rfl rfl (x_assign rfl (ev (t := 39) rfl rfl)) ?_
       refine s_exs (won rfl) rfl (e_store (vs := [(.int .i64 (ix a2 s1754).Kind), (.int .i64 (ix a2 s1754).N)]) (o' := 0) (j := 0) rfl sz_74 (ev (t := 13) rfl rfl) (ev (t := 41) rfl rfl) rfl rfl hm1911 (k := 0) rfl rfl rfl) ?_
       intro w1913 hm1914
       replace hm1914 : Mem w0 w1913 (cat [sg g1909 74 (0, 0) [] [(.int .i64 (ix a2 s1754).Kind), (.int .i64 (ix a2 s1754).N)] [], sg g983 65 (0, 0) [] [(.int .i64 0), (.bool false), (.slice none 0 0), (.slice none 0 0), (.int .i64 0), (.int .i64 0), (.int .i64 0), (.int .i64 0)] [], sg g1013 65 (0, 0) [] [(.int .i64 r1000.1.Size), (.bool s1735), v1737, v1741, (.int .i64 s1744), (.int .i64 s1745), (.int .i64 r1000.1.Every), (.int .i64 s1746)] [], h1738, h1742, h1749, hF]) := hm1914
       refine wpList_nil ?_
       refine nx ?_
       obtain ⟨r1915, hr1915, he⟩ := bindE he
       obtain ⟨hg1930, he⟩ := gdE he
       refine wp_region_lit ?_
       refine s_val (v := p1049.1) (won rfl) rfl rfl (x_move rfl (ev (t := 11) (v := p1049.1) rfl q1751)) ?_
       refine s_val (v := (.int .i64 s1754)) (won rfl) rfl rfl (x_move rfl (ev (t := 12) rfl rfl)) ?_
       refine s_val (v := (.agg #[(.int .i64 (ix a2 s1754).Kind), (.int .i64 (ix a2 s1754).N)])) (won rfl) rfl rfl (x_loadN (vs := [(.int .i64 (ix a2 s1754).Kind), (.int .i64 (ix a2 s1754).N)]) rfl tyN_74 (ev (t := 13) rfl rfl) (seg_cells (o' := 0) (j := 0) hm1914 (k := 0) rfl rfl rfl)) ?_
       refine s_call (won rfl) rfl rfl (x_call rfl rfl cl_75 (map_lit (map_cons (ev (t := 9) (v := (.pointer (some ⟨g1013, 0, none⟩))) rfl q1747) (map_cons (ev (t := 44) rfl rfl) map_nil)))) (impl_Ring_act_ok F (hR := (cat [])) (hF := cat [sg g1909 74 (0, 0) [] [(.int .i64 (ix a2 s1754).Kind), (.int .i64 (ix a2 s1754).N)] [], sg g983 65 (0, 0) [] [(.int .i64 0), (.bool false), (.slice none 0 0), (.slice none 0 0), (.int .i64 0), (.int .i64 0), (.int .i64 0), (.int .i64 0)] [], h1749, hF]) (impl_Ring.mk r1000.1.Size s1735 s1736 s1740 s1744 s1745 r1000.1.Every s1746) (impl_RingAct.mk (ix a2 s1754).Kind (ix a2 s1754).N) H1739 H1743 rfl (Mem.grp [sg g1013 65 (0, 0) [] [(.int .i64 r1000.1.Size), (.bool s1735), v1737, v1741, (.int .i64 s1744), (.int .i64 s1745), (.int .i64 r1000.1.Every), (.int .i64 s1746)] [], h1738, h1742] [sg g1909 74 (0, 0) [] [(.int .i64 (ix a2 s1754).Kind), (.int .i64 (ix a2 s1754).N)] [], sg g983 65 (0, 0) [] [(.int .i64 0), (.bool false), (.slice none 0 0), (.slice none 0 0), (.int .i64 0), (.int .i64 0), (.int .i64 0), (.int .i64 0)] [], h1749, hF] (Mem.pick [2, 3, 4, 0, 1, 5, 6] rfl hm1914)) hr1915) ?_
       rintro e w1928 ⟨v1917, h1919, v1921, h1923, v1925, h1927, rfl, H1918, H1922, H1926, hm1929⟩
       refine ⟨_, rfl, ?_⟩
       replace hm1929 : Mem w0 w1928 (cat [sg g1013 65 (0, 0) [] [(.int .i64 r1000.1.Size), (.bool r1915.2.Up), v1917, v1921, (.int .i64 r1915.2.Lost), (.int .i64 r1915.2.Pending), (.int .i64 r1000.1.Every), (.int .i64 r1915.2.Signals)] [], h1919, h1923, h1927, sg g1909 74 (0, 0) [] [(.int .i64 (ix a2 s1754).Kind), (.int .i64 (ix a2 s1754).N)] [], sg g983 65 (0, 0) [] [(.int .i64 0), (.bool false), (.slice none 0 0), (.slice none 0 0), (.int .i64 0), (.int .i64 0), (.int .i64 0), (.int .i64 0)] [], h1749, hF]) := Mem.ung [sg g1013 65 (0, 0) [] [(.int .i64 r1000.1.Size), (.bool r1915.2.Up), v1917, v1921, (.int .i64 r1915.2.Lost), (.int .i64 r1915.2.Pending), (.int .i64 r1000.1.Every), (.int .i64 r1915.2.Signals)] [], h1919, h1923, h1927] [sg g1909 74 (0, 0) [] [(.int .i64 (ix a2 s1754).Kind), (.int .i64 (ix a2 s1754).N)] [], sg g983 65 (0, 0) [] [(.int .i64 0), (.bool false), (.slice none 0 0), (.slice none 0 0), (.int .i64 0), (.int .i64 0), (.int .i64 0), (.int .i64 0)] [], h1749, hF] hm1929
       refine s_val (v := (.pointer (some ((slA p1049.1).add (Int.toNat s1754 * 2))))) (won rfl) rfl rfl (x_indexD rfl slt_66 (ev (t := 42) rfl rfl) (ev (t := 43) rfl rfl) H1750.sl H1750.some hg1930.1 hg1930.2) ?_
       obtain ⟨g1931, fr1932, pre1933, cs1934, post1935, hx1936, hr1937, ha1938, how1939, hm1940, hw1941⟩ := OwD.focus (d := impl_RingReply_D) (i := s1754) H1750 hg1930.1 hg1930.2 (k := 6) rfl hm1929
       obtain ⟨v1942, h1943, e1945, H1944, e1946⟩ := impl_RingReply_Kown how1939
       subst e1945; subst e1946
       have hm1949 : Mem w0 w1928 (cat [sg g1013 65 (0, 0) [] [(.int .i64 r1000.1.Size), (.bool r1915.2.Up), v1917, v1921, (.int .i64 r1915.2.Lost), (.int .i64 r1915.2.Pending), (.int .i64 r1000.1.Every), (.int .i64 r1915.2.Signals)] [], h1919, h1923, h1927, sg g1909 74 (0, 0) [] [(.int .i64 (ix a2 s1754).Kind), (.int .i64 (ix a2 s1754).N)] [], sg g983 65 (0, 0) [] [(.int .i64 0), (.bool false), (.slice none 0 0), (.slice none 0 0), (.int .i64 0), (.int .i64 0), (.int .i64 0), (.int .i64 0)] [], sg g1931 71 fr1932 pre1933 [(.int .i64 (ix s1748 s1754).Code), v1942] post1935, h1943, hr1937, hF]) := Mem.eqv (by simp only [cat, List.set_cons_zero, List.set_cons_succ, List.append_assoc, List.append_nil, List.nil_append]) hm1940
       refine s_exs (won rfl) rfl (e_store (vs := [(.int .i64 r1915.1.Code), v1925]) (o' := pre1933.length) (j := 0) rfl sz_71 ((ev (t := 46) rfl rfl).trans (congrArg (fun a => Value.pointer (some a)) ha1938)) (ev (t := 45) rfl rfl) rfl (one_cons rfl (one_cons (IsSl.one (H1926).sl) one_nil)) hm1949 (k := 6) rfl rfl rfl) ?_
       intro w1950 hm1951
       replace hm1951 : Mem w0 w1950 (cat [sg g1013 65 (0, 0) [] [(.int .i64 r1000.1.Size), (.bool r1915.2.Up), v1917, v1921, (.int .i64 r1915.2.Lost), (.int .i64 r1915.2.Pending), (.int .i64 r1000.1.Every), (.int .i64 r1915.2.Signals)] [], h1919, h1923, h1927, sg g1909 74 (0, 0) [] [(.int .i64 (ix a2 s1754).Kind), (.int .i64 (ix a2 s1754).N)] [], sg g983 65 (0, 0) [] [(.int .i64 0), (.bool false), (.slice none 0 0), (.slice none 0 0), (.int .i64 0), (.int .i64 0), (.int .i64 0), (.int .i64 0)] [], sg g1931 71 fr1932 pre1933 [(.int .i64 r1915.1.Code), v1925] post1935, h1943, hr1937, hF]) := hm1951
       refine wpList_nil ?_
       have hm1952 : Mem w0 w1950 (cat [sg g1013 65 (0, 0) [] [(.int .i64 r1000.1.Size), (.bool r1915.2.Up), v1917, v1921, (.int .i64 r1915.2.Lost), (.int .i64 r1915.2.Pending), (.int .i64 r1000.1.Every), (.int .i64 r1915.2.Signals)] [], h1919, h1923, h1927, sg g983 65 (0, 0) [] [(.int .i64 0), (.bool false), (.slice none 0 0), (.slice none 0 0), (.int .i64 0), (.int .i64 0), (.int .i64 0), (.int .i64 0)] [], sg g1931 71 fr1932 pre1933 [(.int .i64 r1915.1.Code), v1925] post1935, h1943, hr1937, hF]) := Mem.pick [0, 1, 2, 3, 5, 6, 7, 8, 9] rfl hm1951
       refine nb ?_
       refine nx ?_
       refine wp_region_lit ?_
       refine s_val (v := (.int .i64 (IntKind.wrap .i64 (s1754 + 1)))) (won rfl) rfl rfl (x_add rfl (ev (t := 37) (v := (.int .i64 s1754)) rfl q1755) rfl) ?_
       refine s_val (v := (.int .i64 (IntKind.wrap .i64 (s1754 + 1)))) (won rfl) rfl rfl (x_move rfl (ev (t := 47) rfl rfl)) ?_
       refine wpList_nil ?_
       refine nx ?_
       have H1953 : OwD 71 impl_RingReply_D p1049.1 (List.set s1748 (Int.toNat s1754) r1915.1) (cat [sg g1931 71 fr1932 pre1933 [(.int .i64 r1915.1.Code), v1925] post1935, (cat [h1927]), hr1937]) := hw1941 _ _ _ (impl_RingReply_Kmk ⟨v1925, h1927, rfl, H1926, rfl⟩)
       have hm1955 : Mem w0 w1950 (cat [sg g1931 71 fr1932 pre1933 [(.int .i64 r1915.1.Code), v1925] post1935, h1927, hr1937, sg g1013 65 (0, 0) [] [(.int .i64 r1000.1.Size), (.bool r1915.2.Up), v1917, v1921, (.int .i64 r1915.2.Lost), (.int .i64 r1915.2.Pending), (.int .i64 r1000.1.Every), (.int .i64 r1915.2.Signals)] [], h1919, h1923, sg g983 65 (0, 0) [] [(.int .i64 0), (.bool false), (.slice none 0 0), (.slice none 0 0), (.int .i64 0), (.int .i64 0), (.int .i64 0), (.int .i64 0)] [], h1943, hF]) := Mem.pick [5, 3, 7, 0, 1, 2, 4, 6, 8] rfl hm1952
       have hm1954 : Mem w0 w1950 (cat ((cat [sg g1931 71 fr1932 pre1933 [(.int .i64 r1915.1.Code), v1925] post1935, (cat [h1927]), hr1937]) :: [sg g1013 65 (0, 0) [] [(.int .i64 r1000.1.Size), (.bool r1915.2.Up), v1917, v1921, (.int .i64 r1915.2.Lost), (.int .i64 r1915.2.Pending), (.int .i64 r1000.1.Every), (.int .i64 r1915.2.Signals)] [], h1919, h1923, sg g983 65 (0, 0) [] [(.int .i64 0), (.bool false), (.slice none 0 0), (.slice none 0 0), (.int .i64 0), (.int .i64 0), (.int .i64 0), (.int .i64 0)] [], h1943, hF])) := Mem.eqv (by simp only [cat, List.append_assoc, List.append_nil, List.nil_append]) hm1955
       exact ⟨r1915.2.Up, r1915.2.Posted, r1915.2.Done, r1915.2.Lost, r1915.2.Pending, r1915.2.Signals, (List.set s1748 (Int.toNat s1754) r1915.1), (IntKind.wrap .i64 (s1754 + 1)), v1917, h1919, v1921, h1923, (cat [sg g1931 71 fr1932 pre1933 [(.int .i64 r1915.1.Code), v1925] post1935, (cat [h1927]), hr1937]), _, he, rfl, q1734, q1747, q1751, q1752, q1753, rfl, H1918, H1922, H1953, Mem.pick [4, 1, 2, 3, 0, 6] rfl hm1954⟩
      ·
       replace he := bifF he hb1859
       refine c_false rfl (p := (decide (s1754 < (a2.length : Int)))) rfl rfl hb1859 ?_
       refine wp_exit ?_
       refine xs ?_
       refine xs ?_
       refine xb ?_
       refine nx ?_
       obtain rfl := Option.some.inj he
       exact ⟨v1737, h1738, v1741, h1742, h1749, _, rfl, q1734, q1747, q1751, H1739, H1743, H1750, Mem.pick [0, 1, 2, 3, 4, 5] rfl hm1857⟩
    ·
     rintro a w ⟨v1497, h1498, v1501, h1502, h1509, f, rfl, q1494, q1507, q1511, H1499, H1503, H1510, hm1957⟩
     replace he := hk1513
     refine wp_seq ?_
     refine wp_region_lit ?_
     refine s_val (v := (.agg #[(.int .i64 r1000.1.Size), (.bool s1512.1), v1497, v1501, (.int .i64 s1512.2.2.2.1), (.int .i64 s1512.2.2.2.2.1), (.int .i64 r1000.1.Every), (.int .i64 s1512.2.2.2.2.2.1)])) (won rfl) rfl rfl (x_loadN (vs := [(.int .i64 r1000.1.Size), (.bool s1512.1), v1497, v1501, (.int .i64 s1512.2.2.2.1), (.int .i64 s1512.2.2.2.2.1), (.int .i64 r1000.1.Every), (.int .i64 s1512.2.2.2.2.2.1)]) rfl tyN_65 (ev (t := 9) (v := (.pointer (some ⟨g1013, 0, none⟩))) rfl q1507) (seg_cells (o' := 0) (j := 0) hm1957 (k := 1) rfl rfl rfl)) ?_
     refine s_val (v := p1049.1) (won rfl) rfl rfl (x_move rfl (ev (t := 11) (v := p1049.1) rfl q1511)) ?_
     refine s_exs (won rfl) rfl (e_store (vs := [(.int .i64 r1000.1.Size), (.bool s1512.1), v1497, v1501, (.int .i64 s1512.2.2.2.1), (.int .i64 s1512.2.2.2.2.1), (.int .i64 r1000.1.Every), (.int .i64 s1512.2.2.2.2.2.1)]) (o' := 0) (j := 0) rfl sz_65 (ev (t := 6) (v := (.pointer (some ⟨g983, 0, none⟩))) rfl q1494) (ev (t := 48) rfl rfl) rfl (one_cons rfl (one_cons rfl (one_cons (IsSl.one (H1499).sl) (one_cons (IsSl.one (H1503).sl) (one_cons rfl (one_cons rfl (one_cons rfl (one_cons rfl one_nil)))))))) hm1957 (k := 0) rfl rfl rfl) ?_
     intro w1958 hm1959
     replace hm1959 : Mem w0 w1958 (cat [sg g983 65 (0, 0) [] [(.int .i64 r1000.1.Size), (.bool s1512.1), v1497, v1501, (.int .i64 s1512.2.2.2.1), (.int .i64 s1512.2.2.2.2.1), (.int .i64 r1000.1.Every), (.int .i64 s1512.2.2.2.2.2.1)] [], sg g1013 65 (0, 0) [] [(.int .i64 r1000.1.Size), (.bool s1512.1), v1497, v1501, (.int .i64 s1512.2.2.2.1), (.int .i64 s1512.2.2.2.2.1), (.int .i64 r1000.1.Every), (.int .i64 s1512.2.2.2.2.2.1)] [], h1498, h1502, h1509, hF]) := hm1959
     refine s_val (v := p1049.1) (won rfl) rfl rfl (x_assign rfl (ev (t := 49) rfl rfl)) ?_
     refine s_val (v := (.int .i64 0)) (won rfl) rfl rfl (x_assign rfl rfl) ?_
     refine wpList_nil ?_
     have hm1960 : Mem w0 w1958 (cat [sg g983 65 (0, 0) [] [(.int .i64 r1000.1.Size), (.bool s1512.1), v1497, v1501, (.int .i64 s1512.2.2.2.1), (.int .i64 s1512.2.2.2.2.1), (.int .i64 r1000.1.Every), (.int .i64 s1512.2.2.2.2.2.1)] [], h1498, h1502, h1509, hF]) := Mem.pick [0, 2, 3, 4, 5] rfl hm1959
     refine nx ?_
     refine wp_ret ?_
     obtain rfl := Option.some.inj he
     refine r_ret (v := (.tuple #[(.agg #[(.int .i64 r1000.1.Size), (.bool s1512.1), v1497, v1501, (.int .i64 s1512.2.2.2.1), (.int .i64 s1512.2.2.2.2.1), (.int .i64 r1000.1.Every), (.int .i64 s1512.2.2.2.2.2.1)]), p1049.1, (.int .i64 0)])) (rv_list rfl rfl (RVs.cell (cs := [(.int .i64 r1000.1.Size), (.bool s1512.1), v1497, v1501, (.int .i64 s1512.2.2.2.1), (.int .i64 s1512.2.2.2.2.1), (.int .i64 r1000.1.Every), (.int .i64 s1512.2.2.2.2.2.1)]) rfl q1494 tyN_65 (seg_cells (o' := 0) (j := 0) hm1960 (k := 0) rfl rfl rfl) (RVs.tmp (v := p1049.1) rfl rfl (RVs.tmp (v := (.int .i64 0)) rfl rfl RVs.nil)))) rfl ?_
     exact ⟨v1497, h1498, v1501, h1502, p1049.1, h1509, rfl, H1499, H1503, H1510, Mem.pick [1, 2, 3, 4] rfl hm1960⟩
def laws_eqIntS_l1 (F : Nat) (a0 : (List Int)) (a1 : (List Int)) : Nat → Int → Option (Fl (Bool) (Unit))
  | 0, _ => none
  | k + 1, s173 => (bif (decide (s173 < (a0.length : Int))) then gd ((0 : Int) ≤ s173 ∧ s173 < (a0.length : Int)) (gd ((0 : Int) ≤ s173 ∧ s173 < (a1.length : Int)) ((bif (!decide ((ix a0 s173) = (ix a1 s173))) then (some (Fl.out false)) else laws_eqIntS_l1 F a0 a1 k (IntKind.wrap .i64 (s173 + 1))))) else (some (Fl.go ())))
def laws_eqIntS (F : Nat) (a0 : (List Int)) (a1 : (List Int)) : Option (Bool) := (bif (!decide ((a0.length : Int) = (a1.length : Int))) then (some false) else (laws_eqIntS_l1 F a0 a1 F 0 : Option (Fl (Bool) (Unit))).bind fun l153 => l153.on fun (s152 : (Unit)) => (some true))
set_option maxHeartbeats 400000 in
set_option maxRecDepth 100000 in
theorem laws_eqIntS_ok (F : Nat) {w0 w : World} {hR hF : Hp} {v0x0 : Value} {v1x0 : Value} (a0 : (List Int)) (a1 : (List Int)) {r : (Bool)} (H0x0 : RdF w0 (FK.int .i64) v0x0 a0 hR) (H1x0 : RdF w0 (FK.int .i64) v1x0 a1 hR) (hs : Sub hR hF) (hm : Mem w0 w (cat [hF])) (he : laws_eqIntS F a0 a1 = some r) :
    Calls Try.prog 69 #[v0x0, v1x0] w (fun e w' => e = .returned (.bool r) ∧ Mem w0 w' (cat [hF])) := by
 refine calls_fr (n := 26) Try.func69 rfl rfl rfl ?_
 unfold laws_eqIntS at he
 refine wp_seq ?_
 refine wp_region_lit ?_
 refine s_val (v := (.bool false)) (won rfl) rfl rfl (x_assign rfl rfl) ?_
 refine wpList_nil ?_
 refine nx ?_
 refine wp_seq ?_
 refine wp_seq ?_
 refine wp_region_lit ?_
 refine s_val (v := v0x0) (won rfl) rfl rfl (x_move rfl (ev (t := 0) rfl rfl)) ?_
 refine s_val (v := (.int .i64 (a0.length : Int))) (won rfl) rfl rfl (x_len rfl slt_26 (ev (t := 6) rfl rfl) (H0x0).sl) ?_
 refine s_val (v := v1x0) (won rfl) rfl rfl (x_move rfl (ev (t := 1) rfl rfl)) ?_
 refine s_val (v := (.int .i64 (a1.length : Int))) (won rfl) rfl rfl (x_len rfl slt_26 (ev (t := 8) rfl rfl) (H1x0).sl) ?_
 refine s_val (v := (.bool (!decide ((a0.length : Int) = (a1.length : Int))))) (won rfl) rfl rfl (x_neq rfl (ev (t := 7) rfl rfl) (ev (t := 9) rfl rfl)) ?_
 refine wpList_nil ?_
 refine nx ?_
 rcases Bool.eq_false_or_eq_true ((!decide ((a0.length : Int) = (a1.length : Int)))) with hb104 | hb104
 ·
  replace he := bifT he hb104
  refine c_true rfl (p := (!decide ((a0.length : Int) = (a1.length : Int)))) rfl rfl hb104 ?_
  refine wp_seq ?_
  refine wp_region_lit ?_
  refine s_val (v := (.bool false)) (won rfl) rfl rfl (x_assign rfl rfl) ?_
  refine wpList_nil ?_
  refine nx ?_
  refine wp_ret ?_
  refine xr ?_
  obtain rfl := Option.some.inj he
  refine r_ret (v := (.bool false)) (rv_one rfl (RVs.tmp (v := (.bool false)) rfl rfl RVs.nil)) rfl ?_
  exact ⟨rfl, Mem.pick [0] rfl hm⟩
 ·
  replace he := bifF he hb104
  refine c_false rfl (p := (!decide ((a0.length : Int) = (a1.length : Int)))) rfl rfl hb104 ?_
  refine wp_skip ?_
  refine nx ?_
  obtain ⟨l153, hT155, hk154⟩ := bindE he
  replace he := hT155
  refine wp_seqJ (fun a w => ∃ (s152 : (Unit)) (f : Nat → Value), l153 = Fl.go s152 ∧ a = fr 26 f ∧ Mem w0 w (cat [hF])) ?_ ?_
  ·
   refine wp_seq ?_
   refine wp_region_lit ?_
   refine s_val (v := (.int .i64 0)) (won rfl) rfl rfl (x_assign rfl rfl) ?_
   refine wpList_nil ?_
   refine nx ?_
   refine wp_block ?_
   refine wp_fuel (I := fun k => fun a w => ∃ (s173 : Int) (f : Nat → Value), laws_eqIntS_l1 F a0 a1 k s173 = some l153 ∧ a = fr 26 f ∧ f 0 = v0x0 ∧ f 1 = v1x0 ∧ f 5 = (.int .i64 s173) ∧ Mem w0 w (cat [hF])) F _ _ ⟨0, _, he, rfl, rfl, rfl, rfl, Mem.pick [0] rfl hm⟩ ?_ ?_
   ·
    rintro a w ⟨s173, f, he, rfl, q171, q172, q174, hm188⟩
    rw [laws_eqIntS_l1] at he; exact none_no he
   ·
    rintro k a w ⟨s173, f, he, rfl, q171, q172, q174, hm190⟩
    rw [laws_eqIntS_l1] at he
    refine wp_seq ?_
    refine wp_seq ?_
    refine wp_region_lit ?_
    refine s_val (v := (.int .i64 s173)) (won rfl) rfl rfl (x_move rfl (ev (t := 5) (v := (.int .i64 s173)) rfl q174)) ?_
    refine s_val (v := v0x0) (won rfl) rfl rfl (x_move rfl (ev (t := 0) (v := v0x0) rfl q171)) ?_
    refine s_val (v := (.int .i64 (a0.length : Int))) (won rfl) rfl rfl (x_len rfl slt_26 (ev (t := 12) rfl rfl) (H0x0).sl) ?_
    refine s_val (v := (.bool (decide (s173 < (a0.length : Int))))) (won rfl) rfl rfl (x_lss rfl (ev (t := 11) rfl rfl) (ev (t := 13) rfl rfl)) ?_
    refine wpList_nil ?_
    refine nx ?_
    rcases Bool.eq_false_or_eq_true ((decide (s173 < (a0.length : Int)))) with hb192 | hb192
    ·
     replace he := bifT he hb192
     refine c_true rfl (p := (decide (s173 < (a0.length : Int)))) rfl rfl hb192 ?_
     refine wp_skip ?_
     refine nx ?_
     refine wp_seq ?_
     refine wp_block ?_
     refine wp_seq ?_
     obtain ⟨hg198, he⟩ := gdE he
     obtain ⟨hg199, he⟩ := gdE he
     refine wp_qregion (cat [hF]) mixed (by kernel_rfl) hm190 ?_
     refine q_val (v := v0x0) (won rfl) rfl rfl (fun wq hq => (x_move rfl (ev (t := 0) (v := v0x0) rfl q171))) ?_
     refine q_val (v := (.int .i64 s173)) (won rfl) rfl rfl (fun wq hq => (x_move rfl (ev (t := 5) (v := (.int .i64 s173)) rfl q174))) ?_
     refine q_val (v := (.pointer (some ((slA v0x0).add (Int.toNat s173 * 1))))) (won rfl) rfl rfl (fun wq hq => (x_index (d := (FK.int .i64)) rfl slt_26 (ev (t := 17) rfl rfl) (ev (t := 18) rfl rfl) H0x0 hg198.1 hg198.2)) ?_
     refine q_val (v := (.int .i64 (ix a0 s173))) (won rfl) rfl rfl (fun wq hq => (x_load rfl ty1x3 (ev (t := 19) rfl rfl) (RdF.cell0 H0x0 hq (Sub.trans hs (Sub.at_ (k := 0) rfl)) hg198.1 hg198.2 rfl))) ?_
     refine q_val (v := v1x0) (won rfl) rfl rfl (fun wq hq => (x_move rfl (ev (t := 1) (v := v1x0) rfl q172))) ?_
     refine q_val (v := (.int .i64 s173)) (won rfl) rfl rfl (fun wq hq => (x_move rfl (ev (t := 5) (v := (.int .i64 s173)) rfl q174))) ?_
     refine q_val (v := (.pointer (some ((slA v1x0).add (Int.toNat s173 * 1))))) (won rfl) rfl rfl (fun wq hq => (x_index (d := (FK.int .i64)) rfl slt_26 (ev (t := 21) rfl rfl) (ev (t := 22) rfl rfl) H1x0 hg199.1 hg199.2)) ?_
     refine q_val (v := (.int .i64 (ix a1 s173))) (won rfl) rfl rfl (fun wq hq => (x_load rfl ty1x3 (ev (t := 23) rfl rfl) (RdF.cell0 H1x0 hq (Sub.trans hs (Sub.at_ (k := 0) rfl)) hg199.1 hg199.2 rfl))) ?_
     refine q_val (v := (.bool (!decide ((ix a0 s173) = (ix a1 s173))))) (won rfl) rfl rfl (fun wq hq => (x_neq rfl (ev (t := 20) rfl rfl) (ev (t := 24) rfl rfl))) ?_
     refine wpQuiet_nil ?_
     intro w200 hm201
     refine nx ?_
     rcases Bool.eq_false_or_eq_true ((!decide ((ix a0 s173) = (ix a1 s173)))) with hb202 | hb202
     ·
      replace he := bifT he hb202
      refine c_true rfl (p := (!decide ((ix a0 s173) = (ix a1 s173)))) rfl rfl hb202 ?_
      refine wp_seq ?_
      refine wp_region_lit ?_
      refine s_val (v := (.bool false)) (won rfl) rfl rfl (x_assign rfl rfl) ?_
      refine wpList_nil ?_
      refine nx ?_
      refine wp_ret ?_
      refine rb ?_
      refine xr ?_
      refine xr ?_
      refine rb ?_
      refine xr ?_
      obtain rfl := Option.some.inj he
      replace he := outE hk154
      obtain rfl := Option.some.inj he
      refine r_ret (v := (.bool false)) (rv_one rfl (RVs.tmp (v := (.bool false)) rfl rfl RVs.nil)) rfl ?_
      exact ⟨rfl, Mem.pick [0] rfl hm201⟩
     ·
      replace he := bifF he hb202
      refine c_false rfl (p := (!decide ((ix a0 s173) = (ix a1 s173)))) rfl rfl hb202 ?_
      refine wp_skip ?_
      refine nb ?_
      refine nx ?_
      refine wp_region_lit ?_
      refine s_val (v := (.int .i64 s173)) (won rfl) rfl rfl (x_move rfl (ev (t := 5) (v := (.int .i64 s173)) rfl q174)) ?_
      refine s_val (v := (.int .i64 (IntKind.wrap .i64 (s173 + 1)))) (won rfl) rfl rfl (x_add rfl (ev (t := 15) rfl rfl) rfl) ?_
      refine s_val (v := (.int .i64 (IntKind.wrap .i64 (s173 + 1)))) (won rfl) rfl rfl (x_assign rfl (ev (t := 16) rfl rfl)) ?_
      refine wpList_nil ?_
      refine nx ?_
      exact ⟨(IntKind.wrap .i64 (s173 + 1)), _, he, rfl, q171, q172, rfl, Mem.pick [0] rfl hm201⟩
    ·
     replace he := bifF he hb192
     refine c_false rfl (p := (decide (s173 < (a0.length : Int)))) rfl rfl hb192 ?_
     refine wp_exit ?_
     refine xs ?_
     refine xs ?_
     refine xb ?_
     refine nx ?_
     obtain rfl := Option.some.inj he
     exact ⟨(), _, rfl, rfl, Mem.pick [0] rfl hm190⟩
  ·
   rintro a w ⟨s152, f, rfl, rfl, hm204⟩
   replace he := goE hk154
   refine wp_seq ?_
   refine wp_region_lit ?_
   refine s_val (v := (.bool true)) (won rfl) rfl rfl (x_assign rfl rfl) ?_
   refine wpList_nil ?_
   refine nx ?_
   refine wp_ret ?_
   obtain rfl := Option.some.inj he
   refine r_ret (v := (.bool true)) (rv_one rfl (RVs.tmp (v := (.bool true)) rfl rfl RVs.nil)) rfl ?_
   exact ⟨rfl, Mem.pick [0] rfl hm204⟩
def laws_eqRing (F : Nat) (a0 : impl_Ring) (a1 : impl_Ring) : Option (Bool) := (bif (!decide (a0.Size = a1.Size)) then (some false) else (bif (!(a0.Up == a1.Up)) then (some false) else (laws_eqIntS F a0.Posted a1.Posted).bind fun r74 => (bif (!r74) then (some false) else (laws_eqIntS F a0.Done a1.Done).bind fun r84 => (bif (!r84) then (some false) else (bif (!decide (a0.Lost = a1.Lost)) then (some false) else (bif (!decide (a0.Pending = a1.Pending)) then (some false) else (bif (!decide (a0.Every = a1.Every)) then (some false) else (bif (!decide (a0.Signals = a1.Signals)) then (some false) else (some true)))))))))
set_option maxHeartbeats 400000 in
set_option maxRecDepth 100000 in
theorem laws_eqRing_ok (F : Nat) {w0 w : World} {hR hF : Hp} {v0x2 : Value} {v0x3 : Value} {v1x2 : Value} {v1x3 : Value} (a0 : impl_Ring) (a1 : impl_Ring) {r : (Bool)} (H0x2 : RdF w0 (FK.int .i64) v0x2 a0.Posted hR) (H0x3 : RdF w0 (FK.int .i64) v0x3 a0.Done hR) (H1x2 : RdF w0 (FK.int .i64) v1x2 a1.Posted hR) (H1x3 : RdF w0 (FK.int .i64) v1x3 a1.Done hR) (hs : Sub hR hF) (hm : Mem w0 w (cat [hF])) (he : laws_eqRing F a0 a1 = some r) :
    Calls Try.prog 43 #[(.agg #[(.int .i64 a0.Size), (.bool a0.Up), v0x2, v0x3, (.int .i64 a0.Lost), (.int .i64 a0.Pending), (.int .i64 a0.Every), (.int .i64 a0.Signals)]), (.agg #[(.int .i64 a1.Size), (.bool a1.Up), v1x2, v1x3, (.int .i64 a1.Lost), (.int .i64 a1.Pending), (.int .i64 a1.Every), (.int .i64 a1.Signals)])] w (fun e w' => e = .returned (.bool r) ∧ Mem w0 w' (cat [hF])) := by
 refine calls_fr (n := 47) Try.func43 rfl rfl rfl ?_
 unfold laws_eqRing at he
 refine wp_seq ?_
 refine wp_region_lit ?_
 refine s_exv (won rfl) rfl rfl (e_box (vs := [(.int .i64 a0.Size), (.bool a0.Up), v0x2, v0x3, (.int .i64 a0.Lost), (.int .i64 a0.Pending), (.int .i64 a0.Every), (.int .i64 a0.Signals)]) rfl (ev (t := 0) rfl rfl) rfl hm) ?_
 rintro g53 w54 hm55
 refine s_exv (won rfl) rfl rfl (e_box (vs := [(.int .i64 a1.Size), (.bool a1.Up), v1x2, v1x3, (.int .i64 a1.Lost), (.int .i64 a1.Pending), (.int .i64 a1.Every), (.int .i64 a1.Signals)]) rfl (ev (t := 1) rfl rfl) rfl hm55) ?_
 rintro g57 w58 hm59
 refine s_val (v := (.bool false)) (won rfl) rfl rfl (x_assign rfl rfl) ?_
 refine wpList_nil ?_
 refine nx ?_
 refine wp_seq ?_
 refine wp_seq ?_
 refine wp_region_lit ?_
 refine s_val (v := (.pointer (some ⟨g53, 0, none⟩))) (won rfl) rfl rfl (x_field rfl fa_65x0 (ev (t := 2) rfl rfl)) ?_
 refine s_val (v := (.int .i64 a0.Size)) (won rfl) rfl rfl (x_load rfl ty1x3 (ev (t := 5) rfl rfl) (seg_cell (o' := 0) (j := 0) hm59 (k := 1) rfl rfl rfl)) ?_
 refine s_val (v := (.pointer (some ⟨g57, 0, none⟩))) (won rfl) rfl rfl (x_field rfl fa_65x0 (ev (t := 3) rfl rfl)) ?_
 refine s_val (v := (.int .i64 a1.Size)) (won rfl) rfl rfl (x_load rfl ty1x3 (ev (t := 7) rfl rfl) (seg_cell (o' := 0) (j := 0) hm59 (k := 0) rfl rfl rfl)) ?_
 refine s_val (v := (.bool (!decide (a0.Size = a1.Size)))) (won rfl) rfl rfl (x_neq rfl (ev (t := 6) rfl rfl) (ev (t := 8) rfl rfl)) ?_
 refine wpList_nil ?_
 refine nx ?_
 rcases Bool.eq_false_or_eq_true ((!decide (a0.Size = a1.Size))) with hb63 | hb63
 ·
  replace he := bifT he hb63
  refine c_true rfl (p := (!decide (a0.Size = a1.Size))) rfl rfl hb63 ?_
  refine wp_seq ?_
  refine wp_region_lit ?_
  refine s_val (v := (.bool false)) (won rfl) rfl rfl (x_assign rfl rfl) ?_
  refine wpList_nil ?_
  have hm64 : Mem w0 w58 (cat [hF]) := Mem.pick [2] rfl hm59
  refine nx ?_
  refine wp_ret ?_
  refine xr ?_
  obtain rfl := Option.some.inj he
  refine r_ret (v := (.bool false)) (rv_one rfl (RVs.tmp (v := (.bool false)) rfl rfl RVs.nil)) rfl ?_
  exact ⟨rfl, Mem.pick [0] rfl hm64⟩
 ·
  replace he := bifF he hb63
  refine c_false rfl (p := (!decide (a0.Size = a1.Size))) rfl rfl hb63 ?_
  refine wp_skip ?_
  refine nx ?_
  refine wp_seq ?_
  refine wp_seq ?_
  refine wp_region_lit ?_
  refine s_val (v := (.pointer (some ⟨g53, 1, none⟩))) (won rfl) rfl rfl (x_field rfl fa_65x1 (ev (t := 2) rfl rfl)) ?_
  refine s_val (v := (.bool a0.Up)) (won rfl) rfl rfl (x_load rfl ty1x4 (ev (t := 10) rfl rfl) (seg_cell (o' := 0) (j := 1) hm59 (k := 1) rfl rfl rfl)) ?_
  refine s_val (v := (.pointer (some ⟨g57, 1, none⟩))) (won rfl) rfl rfl (x_field rfl fa_65x1 (ev (t := 3) rfl rfl)) ?_
  refine s_val (v := (.bool a1.Up)) (won rfl) rfl rfl (x_load rfl ty1x4 (ev (t := 12) rfl rfl) (seg_cell (o' := 0) (j := 1) hm59 (k := 0) rfl rfl rfl)) ?_
  refine s_val (v := (.bool (!(a0.Up == a1.Up)))) (won rfl) rfl rfl (x_bneq rfl un_4 (ev (t := 11) rfl rfl) (ev (t := 13) rfl rfl)) ?_
  refine wpList_nil ?_
  refine nx ?_
  rcases Bool.eq_false_or_eq_true ((!(a0.Up == a1.Up))) with hb67 | hb67
  ·
   replace he := bifT he hb67
   refine c_true rfl (p := (!(a0.Up == a1.Up))) rfl rfl hb67 ?_
   refine wp_seq ?_
   refine wp_region_lit ?_
   refine s_val (v := (.bool false)) (won rfl) rfl rfl (x_assign rfl rfl) ?_
   refine wpList_nil ?_
   have hm68 : Mem w0 w58 (cat [hF]) := Mem.pick [2] rfl hm59
   refine nx ?_
   refine wp_ret ?_
   refine xr ?_
   obtain rfl := Option.some.inj he
   refine r_ret (v := (.bool false)) (rv_one rfl (RVs.tmp (v := (.bool false)) rfl rfl RVs.nil)) rfl ?_
   exact ⟨rfl, Mem.pick [0] rfl hm68⟩
  ·
   replace he := bifF he hb67
   refine c_false rfl (p := (!(a0.Up == a1.Up))) rfl rfl hb67 ?_
   refine wp_skip ?_
   refine nx ?_
   refine wp_seq ?_
   refine wp_seq ?_
   obtain ⟨r74, hr74, he⟩ := bindE he
   refine wp_region_lit ?_
   refine s_val (v := (.pointer (some ⟨g53, 2, none⟩))) (won rfl) rfl rfl (x_field rfl fa_65x2 (ev (t := 2) rfl rfl)) ?_
   refine s_val (v := v0x2) (won rfl) rfl rfl (x_load rfl ty1x26 (ev (t := 15) rfl rfl) (seg_cell (o' := 0) (j := 2) hm59 (k := 1) rfl rfl rfl)) ?_
   refine s_val (v := (.pointer (some ⟨g57, 2, none⟩))) (won rfl) rfl rfl (x_field rfl fa_65x2 (ev (t := 3) rfl rfl)) ?_
   refine s_val (v := v1x2) (won rfl) rfl rfl (x_load rfl ty1x26 (ev (t := 17) rfl rfl) (seg_cell (o' := 0) (j := 2) hm59 (k := 0) rfl rfl rfl)) ?_
   refine s_call (won rfl) rfl rfl (x_call rfl rfl cl_69 (map_lit (map_cons (ev (t := 16) rfl rfl) (map_cons (ev (t := 18) rfl rfl) map_nil)))) (laws_eqIntS_ok F (hR := (cat [hR])) (hF := cat [sg g57 65 (0, 0) [] [(.int .i64 a1.Size), (.bool a1.Up), v1x2, v1x3, (.int .i64 a1.Lost), (.int .i64 a1.Pending), (.int .i64 a1.Every), (.int .i64 a1.Signals)] [], sg g53 65 (0, 0) [] [(.int .i64 a0.Size), (.bool a0.Up), v0x2, v0x3, (.int .i64 a0.Lost), (.int .i64 a0.Pending), (.int .i64 a0.Every), (.int .i64 a0.Signals)] [], hF]) a0.Posted a1.Posted (H0x2.mono (Sub.at_ (k := 0) rfl)) (H1x2.mono (Sub.at_ (k := 0) rfl)) (subc (Sub.trans hs (Sub.at_ (k := 2) rfl)) subn) (Mem.one hm59) hr74) ?_
   rintro e w75 ⟨rfl, hm76⟩
   refine ⟨_, rfl, ?_⟩
   replace hm76 : Mem w0 w75 (cat [sg g57 65 (0, 0) [] [(.int .i64 a1.Size), (.bool a1.Up), v1x2, v1x3, (.int .i64 a1.Lost), (.int .i64 a1.Pending), (.int .i64 a1.Every), (.int .i64 a1.Signals)] [], sg g53 65 (0, 0) [] [(.int .i64 a0.Size), (.bool a0.Up), v0x2, v0x3, (.int .i64 a0.Lost), (.int .i64 a0.Pending), (.int .i64 a0.Every), (.int .i64 a0.Signals)] [], hF]) := Mem.un hm76
   refine s_val (v := (.bool (!r74))) (won rfl) rfl rfl (x_not rfl (ev (t := 19) rfl rfl)) ?_
   refine wpList_nil ?_
   refine nx ?_
   rcases Bool.eq_false_or_eq_true ((!r74)) with hb77 | hb77
   ·
    replace he := bifT he hb77
    refine c_true rfl (p := (!r74)) rfl rfl hb77 ?_
    refine wp_seq ?_
    refine wp_region_lit ?_
    refine s_val (v := (.bool false)) (won rfl) rfl rfl (x_assign rfl rfl) ?_
    refine wpList_nil ?_
    have hm78 : Mem w0 w75 (cat [hF]) := Mem.pick [2] rfl hm76
    refine nx ?_
    refine wp_ret ?_
    refine xr ?_
    obtain rfl := Option.some.inj he
    refine r_ret (v := (.bool false)) (rv_one rfl (RVs.tmp (v := (.bool false)) rfl rfl RVs.nil)) rfl ?_
    exact ⟨rfl, Mem.pick [0] rfl hm78⟩
   ·
    replace he := bifF he hb77
    refine c_false rfl (p := (!r74)) rfl rfl hb77 ?_
    refine wp_skip ?_
    refine nx ?_
    refine wp_seq ?_
    refine wp_seq ?_
    obtain ⟨r84, hr84, he⟩ := bindE he
    refine wp_region_lit ?_
    refine s_val (v := (.pointer (some ⟨g53, 3, none⟩))) (won rfl) rfl rfl (x_field rfl fa_65x3 (ev (t := 2) rfl rfl)) ?_
    refine s_val (v := v0x3) (won rfl) rfl rfl (x_load rfl ty1x26 (ev (t := 21) rfl rfl) (seg_cell (o' := 0) (j := 3) hm76 (k := 1) rfl rfl rfl)) ?_
    refine s_val (v := (.pointer (some ⟨g57, 3, none⟩))) (won rfl) rfl rfl (x_field rfl fa_65x3 (ev (t := 3) rfl rfl)) ?_
    refine s_val (v := v1x3) (won rfl) rfl rfl (x_load rfl ty1x26 (ev (t := 23) rfl rfl) (seg_cell (o' := 0) (j := 3) hm76 (k := 0) rfl rfl rfl)) ?_
    refine s_call (won rfl) rfl rfl (x_call rfl rfl cl_69 (map_lit (map_cons (ev (t := 22) rfl rfl) (map_cons (ev (t := 24) rfl rfl) map_nil)))) (laws_eqIntS_ok F (hR := (cat [hR])) (hF := cat [sg g57 65 (0, 0) [] [(.int .i64 a1.Size), (.bool a1.Up), v1x2, v1x3, (.int .i64 a1.Lost), (.int .i64 a1.Pending), (.int .i64 a1.Every), (.int .i64 a1.Signals)] [], sg g53 65 (0, 0) [] [(.int .i64 a0.Size), (.bool a0.Up), v0x2, v0x3, (.int .i64 a0.Lost), (.int .i64 a0.Pending), (.int .i64 a0.Every), (.int .i64 a0.Signals)] [], hF]) a0.Done a1.Done (H0x3.mono (Sub.at_ (k := 0) rfl)) (H1x3.mono (Sub.at_ (k := 0) rfl)) (subc (Sub.trans hs (Sub.at_ (k := 2) rfl)) subn) (Mem.one hm76) hr84) ?_
    rintro e w85 ⟨rfl, hm86⟩
    refine ⟨_, rfl, ?_⟩
    replace hm86 : Mem w0 w85 (cat [sg g57 65 (0, 0) [] [(.int .i64 a1.Size), (.bool a1.Up), v1x2, v1x3, (.int .i64 a1.Lost), (.int .i64 a1.Pending), (.int .i64 a1.Every), (.int .i64 a1.Signals)] [], sg g53 65 (0, 0) [] [(.int .i64 a0.Size), (.bool a0.Up), v0x2, v0x3, (.int .i64 a0.Lost), (.int .i64 a0.Pending), (.int .i64 a0.Every), (.int .i64 a0.Signals)] [], hF]) := Mem.un hm86
    refine s_val (v := (.bool (!r84))) (won rfl) rfl rfl (x_not rfl (ev (t := 25) rfl rfl)) ?_
    refine wpList_nil ?_
    refine nx ?_
    rcases Bool.eq_false_or_eq_true ((!r84)) with hb87 | hb87
    ·
     replace he := bifT he hb87
     refine c_true rfl (p := (!r84)) rfl rfl hb87 ?_
     refine wp_seq ?_
     refine wp_region_lit ?_
     refine s_val (v := (.bool false)) (won rfl) rfl rfl (x_assign rfl rfl) ?_
     refine wpList_nil ?_
     have hm88 : Mem w0 w85 (cat [hF]) := Mem.pick [2] rfl hm86
     refine nx ?_
     refine wp_ret ?_
     refine xr ?_
     obtain rfl := Option.some.inj he
     refine r_ret (v := (.bool false)) (rv_one rfl (RVs.tmp (v := (.bool false)) rfl rfl RVs.nil)) rfl ?_
     exact ⟨rfl, Mem.pick [0] rfl hm88⟩
    ·
     replace he := bifF he hb87
     refine c_false rfl (p := (!r84)) rfl rfl hb87 ?_
     refine wp_skip ?_
     refine nx ?_
     refine wp_seq ?_
     refine wp_seq ?_
     refine wp_region_lit ?_
     refine s_val (v := (.pointer (some ⟨g53, 4, none⟩))) (won rfl) rfl rfl (x_field rfl fa_65x4 (ev (t := 2) rfl rfl)) ?_
     refine s_val (v := (.int .i64 a0.Lost)) (won rfl) rfl rfl (x_load rfl ty1x3 (ev (t := 27) rfl rfl) (seg_cell (o' := 0) (j := 4) hm86 (k := 1) rfl rfl rfl)) ?_
     refine s_val (v := (.pointer (some ⟨g57, 4, none⟩))) (won rfl) rfl rfl (x_field rfl fa_65x4 (ev (t := 3) rfl rfl)) ?_
     refine s_val (v := (.int .i64 a1.Lost)) (won rfl) rfl rfl (x_load rfl ty1x3 (ev (t := 29) rfl rfl) (seg_cell (o' := 0) (j := 4) hm86 (k := 0) rfl rfl rfl)) ?_
     refine s_val (v := (.bool (!decide (a0.Lost = a1.Lost)))) (won rfl) rfl rfl (x_neq rfl (ev (t := 28) rfl rfl) (ev (t := 30) rfl rfl)) ?_
     refine wpList_nil ?_
     refine nx ?_
     rcases Bool.eq_false_or_eq_true ((!decide (a0.Lost = a1.Lost))) with hb91 | hb91
     ·
      replace he := bifT he hb91
      refine c_true rfl (p := (!decide (a0.Lost = a1.Lost))) rfl rfl hb91 ?_
      refine wp_seq ?_
      refine wp_region_lit ?_
      refine s_val (v := (.bool false)) (won rfl) rfl rfl (x_assign rfl rfl) ?_
      refine wpList_nil ?_
      have hm92 : Mem w0 w85 (cat [hF]) := Mem.pick [2] rfl hm86
      refine nx ?_
      refine wp_ret ?_
      refine xr ?_
      obtain rfl := Option.some.inj he
      refine r_ret (v := (.bool false)) (rv_one rfl (RVs.tmp (v := (.bool false)) rfl rfl RVs.nil)) rfl ?_
      exact ⟨rfl, Mem.pick [0] rfl hm92⟩
     ·
      replace he := bifF he hb91
      refine c_false rfl (p := (!decide (a0.Lost = a1.Lost))) rfl rfl hb91 ?_
      refine wp_skip ?_
      refine nx ?_
      refine wp_seq ?_
      refine wp_seq ?_
      refine wp_region_lit ?_
      refine s_val (v := (.pointer (some ⟨g53, 5, none⟩))) (won rfl) rfl rfl (x_field rfl fa_65x5 (ev (t := 2) rfl rfl)) ?_
      refine s_val (v := (.int .i64 a0.Pending)) (won rfl) rfl rfl (x_load rfl ty1x3 (ev (t := 32) rfl rfl) (seg_cell (o' := 0) (j := 5) hm86 (k := 1) rfl rfl rfl)) ?_
      refine s_val (v := (.pointer (some ⟨g57, 5, none⟩))) (won rfl) rfl rfl (x_field rfl fa_65x5 (ev (t := 3) rfl rfl)) ?_
      refine s_val (v := (.int .i64 a1.Pending)) (won rfl) rfl rfl (x_load rfl ty1x3 (ev (t := 34) rfl rfl) (seg_cell (o' := 0) (j := 5) hm86 (k := 0) rfl rfl rfl)) ?_
      refine s_val (v := (.bool (!decide (a0.Pending = a1.Pending)))) (won rfl) rfl rfl (x_neq rfl (ev (t := 33) rfl rfl) (ev (t := 35) rfl rfl)) ?_
      refine wpList_nil ?_
      refine nx ?_
      rcases Bool.eq_false_or_eq_true ((!decide (a0.Pending = a1.Pending))) with hb95 | hb95
      ·
       replace he := bifT he hb95
       refine c_true rfl (p := (!decide (a0.Pending = a1.Pending))) rfl rfl hb95 ?_
       refine wp_seq ?_
       refine wp_region_lit ?_
       refine s_val (v := (.bool false)) (won rfl) rfl rfl (x_assign rfl rfl) ?_
       refine wpList_nil ?_
       have hm96 : Mem w0 w85 (cat [hF]) := Mem.pick [2] rfl hm86
       refine nx ?_
       refine wp_ret ?_
       refine xr ?_
       obtain rfl := Option.some.inj he
       refine r_ret (v := (.bool false)) (rv_one rfl (RVs.tmp (v := (.bool false)) rfl rfl RVs.nil)) rfl ?_
       exact ⟨rfl, Mem.pick [0] rfl hm96⟩
      ·
       replace he := bifF he hb95
       refine c_false rfl (p := (!decide (a0.Pending = a1.Pending))) rfl rfl hb95 ?_
       refine wp_skip ?_
       refine nx ?_
       refine wp_seq ?_
       refine wp_seq ?_
       refine wp_region_lit ?_
       refine s_val (v := (.pointer (some ⟨g53, 6, none⟩))) (won rfl) rfl rfl (x_field rfl fa_65x6 (ev (t := 2) rfl rfl)) ?_
       refine s_val (v := (.int .i64 a0.Every)) (won rfl) rfl rfl (x_load rfl ty1x3 (ev (t := 37) rfl rfl) (seg_cell (o' := 0) (j := 6) hm86 (k := 1) rfl rfl rfl)) ?_
       refine s_val (v := (.pointer (some ⟨g57, 6, none⟩))) (won rfl) rfl rfl (x_field rfl fa_65x6 (ev (t := 3) rfl rfl)) ?_
       refine s_val (v := (.int .i64 a1.Every)) (won rfl) rfl rfl (x_load rfl ty1x3 (ev (t := 39) rfl rfl) (seg_cell (o' := 0) (j := 6) hm86 (k := 0) rfl rfl rfl)) ?_
       refine s_val (v := (.bool (!decide (a0.Every = a1.Every)))) (won rfl) rfl rfl (x_neq rfl (ev (t := 38) rfl rfl) (ev (t := 40) rfl rfl)) ?_
       refine wpList_nil ?_
       refine nx ?_
       rcases Bool.eq_false_or_eq_true ((!decide (a0.Every = a1.Every))) with hb99 | hb99
       ·
        replace he := bifT he hb99
        refine c_true rfl (p := (!decide (a0.Every = a1.Every))) rfl rfl hb99 ?_
        refine wp_seq ?_
        refine wp_region_lit ?_
        refine s_val (v := (.bool false)) (won rfl) rfl rfl (x_assign rfl rfl) ?_
        refine wpList_nil ?_
        have hm100 : Mem w0 w85 (cat [hF]) := Mem.pick [2] rfl hm86
        refine nx ?_
        refine wp_ret ?_
        refine xr ?_
        obtain rfl := Option.some.inj he
        refine r_ret (v := (.bool false)) (rv_one rfl (RVs.tmp (v := (.bool false)) rfl rfl RVs.nil)) rfl ?_
        exact ⟨rfl, Mem.pick [0] rfl hm100⟩
       ·
        replace he := bifF he hb99
        refine c_false rfl (p := (!decide (a0.Every = a1.Every))) rfl rfl hb99 ?_
        refine wp_skip ?_
        refine nx ?_
        refine wp_seq ?_
        refine wp_seq ?_
        refine wp_region_lit ?_
        refine s_val (v := (.pointer (some ⟨g53, 7, none⟩))) (won rfl) rfl rfl (x_field rfl fa_65x7 (ev (t := 2) rfl rfl)) ?_
        refine s_val (v := (.int .i64 a0.Signals)) (won rfl) rfl rfl (x_load rfl ty1x3 (ev (t := 42) rfl rfl) (seg_cell (o' := 0) (j := 7) hm86 (k := 1) rfl rfl rfl)) ?_
        refine s_val (v := (.pointer (some ⟨g57, 7, none⟩))) (won rfl) rfl rfl (x_field rfl fa_65x7 (ev (t := 3) rfl rfl)) ?_
        refine s_val (v := (.int .i64 a1.Signals)) (won rfl) rfl rfl (x_load rfl ty1x3 (ev (t := 44) rfl rfl) (seg_cell (o' := 0) (j := 7) hm86 (k := 0) rfl rfl rfl)) ?_
        refine s_val (v := (.bool (!decide (a0.Signals = a1.Signals)))) (won rfl) rfl rfl (x_neq rfl (ev (t := 43) rfl rfl) (ev (t := 45) rfl rfl)) ?_
        refine wpList_nil ?_
        have hm103 : Mem w0 w85 (cat [hF]) := Mem.pick [2] rfl hm86
        refine nx ?_
        rcases Bool.eq_false_or_eq_true ((!decide (a0.Signals = a1.Signals))) with hb104 | hb104
        ·
         replace he := bifT he hb104
         refine c_true rfl (p := (!decide (a0.Signals = a1.Signals))) rfl rfl hb104 ?_
         refine wp_seq ?_
         refine wp_region_lit ?_
         refine s_val (v := (.bool false)) (won rfl) rfl rfl (x_assign rfl rfl) ?_
         refine wpList_nil ?_
         refine nx ?_
         refine wp_ret ?_
         refine xr ?_
         obtain rfl := Option.some.inj he
         refine r_ret (v := (.bool false)) (rv_one rfl (RVs.tmp (v := (.bool false)) rfl rfl RVs.nil)) rfl ?_
         exact ⟨rfl, Mem.pick [0] rfl hm103⟩
        ·
         replace he := bifF he hb104
         refine c_false rfl (p := (!decide (a0.Signals = a1.Signals))) rfl rfl hb104 ?_
         refine wp_skip ?_
         refine nx ?_
         refine wp_seq ?_
         refine wp_region_lit ?_
         refine s_val (v := (.bool true)) (won rfl) rfl rfl (x_assign rfl rfl) ?_
         refine wpList_nil ?_
         refine nx ?_
         refine wp_ret ?_
         obtain rfl := Option.some.inj he
         refine r_ret (v := (.bool true)) (rv_one rfl (RVs.tmp (v := (.bool true)) rfl rfl RVs.nil)) rfl ?_
         exact ⟨rfl, Mem.pick [0] rfl hm103⟩
def laws_eqRingReply (F : Nat) (a0 : impl_RingReply) (a1 : impl_RingReply) : Option (Bool) := (bif (!decide (a0.Code = a1.Code)) then (some false) else (laws_eqIntS F a0.List a1.List).bind fun r40 => (bif (!r40) then (some false) else (some true)))
set_option maxHeartbeats 400000 in
set_option maxRecDepth 100000 in
theorem laws_eqRingReply_ok (F : Nat) {w0 w : World} {hR hF : Hp} {v0x1 : Value} {v1x1 : Value} (a0 : impl_RingReply) (a1 : impl_RingReply) {r : (Bool)} (H0x1 : RdF w0 (FK.int .i64) v0x1 a0.List hR) (H1x1 : RdF w0 (FK.int .i64) v1x1 a1.List hR) (hs : Sub hR hF) (hm : Mem w0 w (cat [hF])) (he : laws_eqRingReply F a0 a1 = some r) :
    Calls Try.prog 44 #[(.agg #[(.int .i64 a0.Code), v0x1]), (.agg #[(.int .i64 a1.Code), v1x1])] w (fun e w' => e = .returned (.bool r) ∧ Mem w0 w' (cat [hF])) := by
 refine calls_fr (n := 16) Try.func44 rfl rfl rfl ?_
 unfold laws_eqRingReply at he
 refine wp_seq ?_
 refine wp_region_lit ?_
 refine s_exv (won rfl) rfl rfl (e_box (vs := [(.int .i64 a0.Code), v0x1]) rfl (ev (t := 0) rfl rfl) rfl hm) ?_
 rintro g23 w24 hm25
 refine s_exv (won rfl) rfl rfl (e_box (vs := [(.int .i64 a1.Code), v1x1]) rfl (ev (t := 1) rfl rfl) rfl hm25) ?_
 rintro g27 w28 hm29
 refine s_val (v := (.bool false)) (won rfl) rfl rfl (x_assign rfl rfl) ?_
 refine wpList_nil ?_
 refine nx ?_
 refine wp_seq ?_
 refine wp_seq ?_
 refine wp_region_lit ?_
 refine s_val (v := (.pointer (some ⟨g23, 0, none⟩))) (won rfl) rfl rfl (x_field rfl fa_71x0 (ev (t := 2) rfl rfl)) ?_
 refine s_val (v := (.int .i64 a0.Code)) (won rfl) rfl rfl (x_load rfl ty1x3 (ev (t := 5) rfl rfl) (seg_cell (o' := 0) (j := 0) hm29 (k := 1) rfl rfl rfl)) ?_
 refine s_val (v := (.pointer (some ⟨g27, 0, none⟩))) (won rfl) rfl rfl (x_field rfl fa_71x0 (ev (t := 3) rfl rfl)) ?_
 refine s_val (v := (.int .i64 a1.Code)) (won rfl) rfl rfl (x_load rfl ty1x3 (ev (t := 7) rfl rfl) (seg_cell (o' := 0) (j := 0) hm29 (k := 0) rfl rfl rfl)) ?_
 refine s_val (v := (.bool (!decide (a0.Code = a1.Code)))) (won rfl) rfl rfl (x_neq rfl (ev (t := 6) rfl rfl) (ev (t := 8) rfl rfl)) ?_
 refine wpList_nil ?_
 refine nx ?_
 rcases Bool.eq_false_or_eq_true ((!decide (a0.Code = a1.Code))) with hb33 | hb33
 ·
  replace he := bifT he hb33
  refine c_true rfl (p := (!decide (a0.Code = a1.Code))) rfl rfl hb33 ?_
  refine wp_seq ?_
  refine wp_region_lit ?_
  refine s_val (v := (.bool false)) (won rfl) rfl rfl (x_assign rfl rfl) ?_
  refine wpList_nil ?_
  have hm34 : Mem w0 w28 (cat [hF]) := Mem.pick [2] rfl hm29
  refine nx ?_
  refine wp_ret ?_
  refine xr ?_
  obtain rfl := Option.some.inj he
  refine r_ret (v := (.bool false)) (rv_one rfl (RVs.tmp (v := (.bool false)) rfl rfl RVs.nil)) rfl ?_
  exact ⟨rfl, Mem.pick [0] rfl hm34⟩
 ·
  replace he := bifF he hb33
  refine c_false rfl (p := (!decide (a0.Code = a1.Code))) rfl rfl hb33 ?_
  refine wp_skip ?_
  refine nx ?_
  refine wp_seq ?_
  refine wp_seq ?_
  obtain ⟨r40, hr40, he⟩ := bindE he
  refine wp_region_lit ?_
  refine s_val (v := (.pointer (some ⟨g23, 1, none⟩))) (won rfl) rfl rfl (x_field rfl fa_71x1 (ev (t := 2) rfl rfl)) ?_
  refine s_val (v := v0x1) (won rfl) rfl rfl (x_load rfl ty1x26 (ev (t := 10) rfl rfl) (seg_cell (o' := 0) (j := 1) hm29 (k := 1) rfl rfl rfl)) ?_
  refine s_val (v := (.pointer (some ⟨g27, 1, none⟩))) (won rfl) rfl rfl (x_field rfl fa_71x1 (ev (t := 3) rfl rfl)) ?_
  refine s_val (v := v1x1) (won rfl) rfl rfl (x_load rfl ty1x26 (ev (t := 12) rfl rfl) (seg_cell (o' := 0) (j := 1) hm29 (k := 0) rfl rfl rfl)) ?_
  refine s_call (won rfl) rfl rfl (x_call rfl rfl cl_69 (map_lit (map_cons (ev (t := 11) rfl rfl) (map_cons (ev (t := 13) rfl rfl) map_nil)))) (laws_eqIntS_ok F (hR := (cat [hR])) (hF := cat [sg g27 71 (0, 0) [] [(.int .i64 a1.Code), v1x1] [], sg g23 71 (0, 0) [] [(.int .i64 a0.Code), v0x1] [], hF]) a0.List a1.List (H0x1.mono (Sub.at_ (k := 0) rfl)) (H1x1.mono (Sub.at_ (k := 0) rfl)) (subc (Sub.trans hs (Sub.at_ (k := 2) rfl)) subn) (Mem.one hm29) hr40) ?_
  rintro e w41 ⟨rfl, hm42⟩
  refine ⟨_, rfl, ?_⟩
  replace hm42 : Mem w0 w41 (cat [sg g27 71 (0, 0) [] [(.int .i64 a1.Code), v1x1] [], sg g23 71 (0, 0) [] [(.int .i64 a0.Code), v0x1] [], hF]) := Mem.un hm42
  refine s_val (v := (.bool (!r40))) (won rfl) rfl rfl (x_not rfl (ev (t := 14) rfl rfl)) ?_
  refine wpList_nil ?_
  have hm43 : Mem w0 w41 (cat [hF]) := Mem.pick [2] rfl hm42
  refine nx ?_
  rcases Bool.eq_false_or_eq_true ((!r40)) with hb44 | hb44
  ·
   replace he := bifT he hb44
   refine c_true rfl (p := (!r40)) rfl rfl hb44 ?_
   refine wp_seq ?_
   refine wp_region_lit ?_
   refine s_val (v := (.bool false)) (won rfl) rfl rfl (x_assign rfl rfl) ?_
   refine wpList_nil ?_
   refine nx ?_
   refine wp_ret ?_
   refine xr ?_
   obtain rfl := Option.some.inj he
   refine r_ret (v := (.bool false)) (rv_one rfl (RVs.tmp (v := (.bool false)) rfl rfl RVs.nil)) rfl ?_
   exact ⟨rfl, Mem.pick [0] rfl hm43⟩
  ·
   replace he := bifF he hb44
   refine c_false rfl (p := (!r40)) rfl rfl hb44 ?_
   refine wp_skip ?_
   refine nx ?_
   refine wp_seq ?_
   refine wp_region_lit ?_
   refine s_val (v := (.bool true)) (won rfl) rfl rfl (x_assign rfl rfl) ?_
   refine wpList_nil ?_
   refine nx ?_
   refine wp_ret ?_
   obtain rfl := Option.some.inj he
   refine r_ret (v := (.bool true)) (rv_one rfl (RVs.tmp (v := (.bool true)) rfl rfl RVs.nil)) rfl ?_
   exact ⟨rfl, Mem.pick [0] rfl hm43⟩
def laws_eqRingReplyS_l1 (F : Nat) (a0 : (List impl_RingReply)) (a1 : (List impl_RingReply)) : Nat → Int → Option (Fl (Bool) (Unit))
  | 0, _ => none
  | k + 1, s353 => (bif (decide (s353 < (a0.length : Int))) then gd ((0 : Int) ≤ s353 ∧ s353 < (a0.length : Int)) (gd ((0 : Int) ≤ s353 ∧ s353 < (a1.length : Int)) ((laws_eqRingReply F (impl_RingReply.mk (ix a0 s353).Code (ix a0 s353).List) (impl_RingReply.mk (ix a1 s353).Code (ix a1 s353).List)).bind fun r415 => (bif (!r415) then (some (Fl.out false)) else laws_eqRingReplyS_l1 F a0 a1 k (IntKind.wrap .i64 (s353 + 1))))) else (some (Fl.go ())))
def laws_eqRingReplyS (F : Nat) (a0 : (List impl_RingReply)) (a1 : (List impl_RingReply)) : Option (Bool) := (bif (!decide ((a0.length : Int) = (a1.length : Int))) then (some false) else (laws_eqRingReplyS_l1 F a0 a1 F 0 : Option (Fl (Bool) (Unit))).bind fun l315 => l315.on fun (s314 : (Unit)) => (some true))
set_option maxHeartbeats 400000 in
set_option maxRecDepth 100000 in
theorem laws_eqRingReplyS_ok (F : Nat) {w0 w : World} {hR hF : Hp} {v0x0 : Value} {v1x0 : Value} (a0 : (List impl_RingReply)) (a1 : (List impl_RingReply)) {r : (Bool)} (H0x0 : RdD w0 impl_RingReply_D v0x0 a0 hR) (H1x0 : RdD w0 impl_RingReply_D v1x0 a1 hR) (hs : Sub hR hF) (hm : Mem w0 w (cat [hF])) (he : laws_eqRingReplyS F a0 a1 = some r) :
    Calls Try.prog 51 #[v0x0, v1x0] w (fun e w' => e = .returned (.bool r) ∧ Mem w0 w' (cat [hF])) := by
 refine calls_fr (n := 27) Try.func51 rfl rfl rfl ?_
 unfold laws_eqRingReplyS at he
 refine wp_seq ?_
 refine wp_region_lit ?_
 refine s_val (v := (.bool false)) (won rfl) rfl rfl (x_assign rfl rfl) ?_
 refine wpList_nil ?_
 refine nx ?_
 refine wp_seq ?_
 refine wp_seq ?_
 refine wp_region_lit ?_
 refine s_val (v := v0x0) (won rfl) rfl rfl (x_move rfl (ev (t := 0) rfl rfl)) ?_
 refine s_val (v := (.int .i64 (a0.length : Int))) (won rfl) rfl rfl (x_len rfl slt_66 (ev (t := 6) rfl rfl) (H0x0).sl) ?_
 refine s_val (v := v1x0) (won rfl) rfl rfl (x_move rfl (ev (t := 1) rfl rfl)) ?_
 refine s_val (v := (.int .i64 (a1.length : Int))) (won rfl) rfl rfl (x_len rfl slt_66 (ev (t := 8) rfl rfl) (H1x0).sl) ?_
 refine s_val (v := (.bool (!decide ((a0.length : Int) = (a1.length : Int))))) (won rfl) rfl rfl (x_neq rfl (ev (t := 7) rfl rfl) (ev (t := 9) rfl rfl)) ?_
 refine wpList_nil ?_
 refine nx ?_
 rcases Bool.eq_false_or_eq_true ((!decide ((a0.length : Int) = (a1.length : Int)))) with hb212 | hb212
 ·
  replace he := bifT he hb212
  refine c_true rfl (p := (!decide ((a0.length : Int) = (a1.length : Int)))) rfl rfl hb212 ?_
  refine wp_seq ?_
  refine wp_region_lit ?_
  refine s_val (v := (.bool false)) (won rfl) rfl rfl (x_assign rfl rfl) ?_
  refine wpList_nil ?_
  refine nx ?_
  refine wp_ret ?_
  refine xr ?_
  obtain rfl := Option.some.inj he
  refine r_ret (v := (.bool false)) (rv_one rfl (RVs.tmp (v := (.bool false)) rfl rfl RVs.nil)) rfl ?_
  exact ⟨rfl, Mem.pick [0] rfl hm⟩
 ·
  replace he := bifF he hb212
  refine c_false rfl (p := (!decide ((a0.length : Int) = (a1.length : Int)))) rfl rfl hb212 ?_
  refine wp_skip ?_
  refine nx ?_
  obtain ⟨l315, hT317, hk316⟩ := bindE he
  replace he := hT317
  refine wp_seqJ (fun a w => ∃ (s314 : (Unit)) (f : Nat → Value), l315 = Fl.go s314 ∧ a = fr 27 f ∧ Mem w0 w (cat [hF])) ?_ ?_
  ·
   refine wp_seq ?_
   refine wp_region_lit ?_
   refine s_val (v := (.int .i64 0)) (won rfl) rfl rfl (x_assign rfl rfl) ?_
   refine wpList_nil ?_
   refine nx ?_
   refine wp_block ?_
   refine wp_fuel (I := fun k => fun a w => ∃ (s353 : Int) (f : Nat → Value), laws_eqRingReplyS_l1 F a0 a1 k s353 = some l315 ∧ a = fr 27 f ∧ f 0 = v0x0 ∧ f 1 = v1x0 ∧ f 5 = (.int .i64 s353) ∧ Mem w0 w (cat [hF])) F _ _ ⟨0, _, he, rfl, rfl, rfl, rfl, Mem.pick [0] rfl hm⟩ ?_ ?_
   ·
    rintro a w ⟨s353, f, he, rfl, q351, q352, q354, hm386⟩
    rw [laws_eqRingReplyS_l1] at he; exact none_no he
   ·
    rintro k a w ⟨s353, f, he, rfl, q351, q352, q354, hm388⟩
    rw [laws_eqRingReplyS_l1] at he
    refine wp_seq ?_
    refine wp_seq ?_
    refine wp_region_lit ?_
    refine s_val (v := (.int .i64 s353)) (won rfl) rfl rfl (x_move rfl (ev (t := 5) (v := (.int .i64 s353)) rfl q354)) ?_
    refine s_val (v := v0x0) (won rfl) rfl rfl (x_move rfl (ev (t := 0) (v := v0x0) rfl q351)) ?_
    refine s_val (v := (.int .i64 (a0.length : Int))) (won rfl) rfl rfl (x_len rfl slt_66 (ev (t := 12) rfl rfl) (H0x0).sl) ?_
    refine s_val (v := (.bool (decide (s353 < (a0.length : Int))))) (won rfl) rfl rfl (x_lss rfl (ev (t := 11) rfl rfl) (ev (t := 13) rfl rfl)) ?_
    refine wpList_nil ?_
    refine nx ?_
    rcases Bool.eq_false_or_eq_true ((decide (s353 < (a0.length : Int)))) with hb390 | hb390
    ·
     replace he := bifT he hb390
     refine c_true rfl (p := (decide (s353 < (a0.length : Int)))) rfl rfl hb390 ?_
     refine wp_skip ?_
     refine nx ?_
     refine wp_seq ?_
     refine wp_block ?_
     refine wp_seq ?_
     obtain ⟨hg405, he⟩ := gdE he
     obtain ⟨cs406, hq407, hc408⟩ := RdD.get H0x0 hg405.1 hg405.2
     replace hq407 := impl_RingReply_Kget hq407
     obtain ⟨hg410, he⟩ := gdE he
     obtain ⟨cs411, hq412, hc413⟩ := RdD.get H1x0 hg410.1 hg410.2
     replace hq412 := impl_RingReply_Kget hq412
     obtain ⟨r415, hr415, he⟩ := bindE he
     refine wp_qregion (cat [hF]) mixed (by kernel_rfl) hm388 ?_
     refine q_val (v := v0x0) (won rfl) rfl rfl (fun wq hq => (x_move rfl (ev (t := 0) (v := v0x0) rfl q351))) ?_
     refine q_val (v := (.int .i64 s353)) (won rfl) rfl rfl (fun wq hq => (x_move rfl (ev (t := 5) (v := (.int .i64 s353)) rfl q354))) ?_
     refine q_val (v := (.pointer (some ((slA v0x0).add (Int.toNat s353 * 2))))) (won rfl) rfl rfl (fun wq hq => (x_indexD rfl slt_66 (ev (t := 17) rfl rfl) (ev (t := 18) rfl rfl) H0x0.sl H0x0.some hg405.1 hg405.2)) ?_
     refine q_val (v := (.agg #[(.int .i64 (ix a0 s353).Code), (cs406.getD 1 undef)])) (won rfl) rfl rfl (fun wq hq => (x_loadN (vs := [(.int .i64 (ix a0 s353).Code), (cs406.getD 1 undef)]) rfl tyN_71 (ev (t := 19) rfl rfl) (ci_cellsE hc408 hq407.1 hq (Sub.trans hs (Sub.at_ (k := 0) rfl))))) ?_
     refine q_val (v := v1x0) (won rfl) rfl rfl (fun wq hq => (x_move rfl (ev (t := 1) (v := v1x0) rfl q352))) ?_
     refine q_val (v := (.int .i64 s353)) (won rfl) rfl rfl (fun wq hq => (x_move rfl (ev (t := 5) (v := (.int .i64 s353)) rfl q354))) ?_
     refine q_val (v := (.pointer (some ((slA v1x0).add (Int.toNat s353 * 2))))) (won rfl) rfl rfl (fun wq hq => (x_indexD rfl slt_66 (ev (t := 21) rfl rfl) (ev (t := 22) rfl rfl) H1x0.sl H1x0.some hg410.1 hg410.2)) ?_
     refine q_val (v := (.agg #[(.int .i64 (ix a1 s353).Code), (cs411.getD 1 undef)])) (won rfl) rfl rfl (fun wq hq => (x_loadN (vs := [(.int .i64 (ix a1 s353).Code), (cs411.getD 1 undef)]) rfl tyN_71 (ev (t := 23) rfl rfl) (ci_cellsE hc413 hq412.1 hq (Sub.trans hs (Sub.at_ (k := 0) rfl))))) ?_
     refine q_call (v := (.bool r415)) (won rfl) rfl rfl (fun wq hq => (x_call rfl rfl cl_44 (map_lit (map_cons (ev (t := 20) rfl rfl) (map_cons (ev (t := 24) rfl rfl) map_nil))))) (fun wq hq => ((laws_eqRingReply_ok F (hR := (cat [hR])) (hF := cat [hF]) (impl_RingReply.mk (ix a0 s353).Code (ix a0 s353).List) (impl_RingReply.mk (ix a1 s353).Code (ix a1 s353).List) (hq407.2.mono (Sub.at_ (k := 0) rfl)) (hq412.2.mono (Sub.at_ (k := 0) rfl)) (subc (Sub.trans hs (Sub.at_ (k := 0) rfl)) subn) (Mem.one hq) hr415)).mono fun e w2 h => ⟨h.1, Mem.un h.2⟩) ?_
     refine q_val (v := (.bool (!r415))) (won rfl) rfl rfl (fun wq hq => (x_not rfl (ev (t := 25) rfl rfl))) ?_
     refine wpQuiet_nil ?_
     intro w416 hm417
     refine nx ?_
     rcases Bool.eq_false_or_eq_true ((!r415)) with hb418 | hb418
     ·
      replace he := bifT he hb418
      refine c_true rfl (p := (!r415)) rfl rfl hb418 ?_
      refine wp_seq ?_
      refine wp_region_lit ?_
      refine s_val (v := (.bool false)) (won rfl) rfl rfl (x_assign rfl rfl) ?_
      refine wpList_nil ?_
      refine nx ?_
      refine wp_ret ?_
      refine rb ?_
      refine xr ?_
      refine xr ?_
      refine rb ?_
      refine xr ?_
      obtain rfl := Option.some.inj he
      replace he := outE hk316
      obtain rfl := Option.some.inj he
      refine r_ret (v := (.bool false)) (rv_one rfl (RVs.tmp (v := (.bool false)) rfl rfl RVs.nil)) rfl ?_
      exact ⟨rfl, Mem.pick [0] rfl hm417⟩
     ·
      replace he := bifF he hb418
      refine c_false rfl (p := (!r415)) rfl rfl hb418 ?_
      refine wp_skip ?_
      refine nb ?_
      refine nx ?_
      refine wp_region_lit ?_
      refine s_val (v := (.int .i64 s353)) (won rfl) rfl rfl (x_move rfl (ev (t := 5) (v := (.int .i64 s353)) rfl q354)) ?_
      refine s_val (v := (.int .i64 (IntKind.wrap .i64 (s353 + 1)))) (won rfl) rfl rfl (x_add rfl (ev (t := 15) rfl rfl) rfl) ?_
      refine s_val (v := (.int .i64 (IntKind.wrap .i64 (s353 + 1)))) (won rfl) rfl rfl (x_assign rfl (ev (t := 16) rfl rfl)) ?_
      refine wpList_nil ?_
      refine nx ?_
      exact ⟨(IntKind.wrap .i64 (s353 + 1)), _, he, rfl, q351, q352, rfl, Mem.pick [0] rfl hm417⟩
    ·
     replace he := bifF he hb390
     refine c_false rfl (p := (decide (s353 < (a0.length : Int)))) rfl rfl hb390 ?_
     refine wp_exit ?_
     refine xs ?_
     refine xs ?_
     refine xb ?_
     refine nx ?_
     obtain rfl := Option.some.inj he
     exact ⟨(), _, rfl, rfl, Mem.pick [0] rfl hm388⟩
  ·
   rintro a w ⟨s314, f, rfl, rfl, hm420⟩
   replace he := goE hk316
   refine wp_seq ?_
   refine wp_region_lit ?_
   refine s_val (v := (.bool true)) (won rfl) rfl rfl (x_assign rfl rfl) ?_
   refine wpList_nil ?_
   refine nx ?_
   refine wp_ret ?_
   obtain rfl := Option.some.inj he
   refine r_ret (v := (.bool true)) (rv_one rfl (RVs.tmp (v := (.bool true)) rfl rfl RVs.nil)) rfl ?_
   exact ⟨rfl, Mem.pick [0] rfl hm420⟩
def laws_eqRingAct (a0 : impl_RingAct) (a1 : impl_RingAct) : Option (Bool) := (bif (!decide (a0.Kind = a1.Kind)) then (some false) else (bif (!decide (a0.N = a1.N)) then (some false) else (some true)))
set_option maxHeartbeats 400000 in
set_option maxRecDepth 100000 in
theorem laws_eqRingAct_ok {w0 w : World} {hR hF : Hp} (a0 : impl_RingAct) (a1 : impl_RingAct) {r : (Bool)} (hm : Mem w0 w (cat [hF])) (he : laws_eqRingAct a0 a1 = some r) :
    Calls Try.prog 82 #[(.agg #[(.int .i64 a0.Kind), (.int .i64 a0.N)]), (.agg #[(.int .i64 a1.Kind), (.int .i64 a1.N)])] w (fun e w' => e = .returned (.bool r) ∧ Mem w0 w' (cat [hF])) := by
 refine calls_fr (n := 15) Try.func82 rfl rfl rfl ?_
 unfold laws_eqRingAct at he
 refine wp_seq ?_
 refine wp_region_lit ?_
 refine s_exv (won rfl) rfl rfl (e_box (vs := [(.int .i64 a0.Kind), (.int .i64 a0.N)]) rfl (ev (t := 0) rfl rfl) rfl hm) ?_
 rintro g17 w18 hm19
 refine s_exv (won rfl) rfl rfl (e_box (vs := [(.int .i64 a1.Kind), (.int .i64 a1.N)]) rfl (ev (t := 1) rfl rfl) rfl hm19) ?_
 rintro g21 w22 hm23
 refine s_val (v := (.bool false)) (won rfl) rfl rfl (x_assign rfl rfl) ?_
 refine wpList_nil ?_
 refine nx ?_
 refine wp_seq ?_
 refine wp_seq ?_
 refine wp_region_lit ?_
 refine s_val (v := (.pointer (some ⟨g17, 0, none⟩))) (won rfl) rfl rfl (x_field rfl fa_74x0 (ev (t := 2) rfl rfl)) ?_
 refine s_val (v := (.int .i64 a0.Kind)) (won rfl) rfl rfl (x_load rfl ty1x3 (ev (t := 5) rfl rfl) (seg_cell (o' := 0) (j := 0) hm23 (k := 1) rfl rfl rfl)) ?_
 refine s_val (v := (.pointer (some ⟨g21, 0, none⟩))) (won rfl) rfl rfl (x_field rfl fa_74x0 (ev (t := 3) rfl rfl)) ?_
 refine s_val (v := (.int .i64 a1.Kind)) (won rfl) rfl rfl (x_load rfl ty1x3 (ev (t := 7) rfl rfl) (seg_cell (o' := 0) (j := 0) hm23 (k := 0) rfl rfl rfl)) ?_
 refine s_val (v := (.bool (!decide (a0.Kind = a1.Kind)))) (won rfl) rfl rfl (x_neq rfl (ev (t := 6) rfl rfl) (ev (t := 8) rfl rfl)) ?_
 refine wpList_nil ?_
 refine nx ?_
 rcases Bool.eq_false_or_eq_true ((!decide (a0.Kind = a1.Kind))) with hb27 | hb27
 ·
  replace he := bifT he hb27
  refine c_true rfl (p := (!decide (a0.Kind = a1.Kind))) rfl rfl hb27 ?_
  refine wp_seq ?_
  refine wp_region_lit ?_
  refine s_val (v := (.bool false)) (won rfl) rfl rfl (x_assign rfl rfl) ?_
  refine wpList_nil ?_
  have hm28 : Mem w0 w22 (cat [hF]) := Mem.pick [2] rfl hm23
  refine nx ?_
  refine wp_ret ?_
  refine xr ?_
  obtain rfl := Option.some.inj he
  refine r_ret (v := (.bool false)) (rv_one rfl (RVs.tmp (v := (.bool false)) rfl rfl RVs.nil)) rfl ?_
  exact ⟨rfl, Mem.pick [0] rfl hm28⟩
 ·
  replace he := bifF he hb27
  refine c_false rfl (p := (!decide (a0.Kind = a1.Kind))) rfl rfl hb27 ?_
  refine wp_skip ?_
  refine nx ?_
  refine wp_seq ?_
  refine wp_seq ?_
  refine wp_region_lit ?_
  refine s_val (v := (.pointer (some ⟨g17, 1, none⟩))) (won rfl) rfl rfl (x_field rfl fa_74x1 (ev (t := 2) rfl rfl)) ?_
  refine s_val (v := (.int .i64 a0.N)) (won rfl) rfl rfl (x_load rfl ty1x3 (ev (t := 10) rfl rfl) (seg_cell (o' := 0) (j := 1) hm23 (k := 1) rfl rfl rfl)) ?_
  refine s_val (v := (.pointer (some ⟨g21, 1, none⟩))) (won rfl) rfl rfl (x_field rfl fa_74x1 (ev (t := 3) rfl rfl)) ?_
  refine s_val (v := (.int .i64 a1.N)) (won rfl) rfl rfl (x_load rfl ty1x3 (ev (t := 12) rfl rfl) (seg_cell (o' := 0) (j := 1) hm23 (k := 0) rfl rfl rfl)) ?_
  refine s_val (v := (.bool (!decide (a0.N = a1.N)))) (won rfl) rfl rfl (x_neq rfl (ev (t := 11) rfl rfl) (ev (t := 13) rfl rfl)) ?_
  refine wpList_nil ?_
  have hm31 : Mem w0 w22 (cat [hF]) := Mem.pick [2] rfl hm23
  refine nx ?_
  rcases Bool.eq_false_or_eq_true ((!decide (a0.N = a1.N))) with hb32 | hb32
  ·
   replace he := bifT he hb32
   refine c_true rfl (p := (!decide (a0.N = a1.N))) rfl rfl hb32 ?_
   refine wp_seq ?_
   refine wp_region_lit ?_
   refine s_val (v := (.bool false)) (won rfl) rfl rfl (x_assign rfl rfl) ?_
   refine wpList_nil ?_
   refine nx ?_
   refine wp_ret ?_
   refine xr ?_
   obtain rfl := Option.some.inj he
   refine r_ret (v := (.bool false)) (rv_one rfl (RVs.tmp (v := (.bool false)) rfl rfl RVs.nil)) rfl ?_
   exact ⟨rfl, Mem.pick [0] rfl hm31⟩
  ·
   replace he := bifF he hb32
   refine c_false rfl (p := (!decide (a0.N = a1.N))) rfl rfl hb32 ?_
   refine wp_skip ?_
   refine nx ?_
   refine wp_seq ?_
   refine wp_region_lit ?_
   refine s_val (v := (.bool true)) (won rfl) rfl rfl (x_assign rfl rfl) ?_
   refine wpList_nil ?_
   refine nx ?_
   refine wp_ret ?_
   obtain rfl := Option.some.inj he
   refine r_ret (v := (.bool true)) (rv_one rfl (RVs.tmp (v := (.bool true)) rfl rfl RVs.nil)) rfl ?_
   exact ⟨rfl, Mem.pick [0] rfl hm31⟩
def laws_eqRingActS_l1 (F : Nat) (a0 : (List impl_RingAct)) (a1 : (List impl_RingAct)) : Nat → Int → Option (Fl (Bool) (Unit))
  | 0, _ => none
  | k + 1, s193 => (bif (decide (s193 < (a0.length : Int))) then gd ((0 : Int) ≤ s193 ∧ s193 < (a0.length : Int)) (gd ((0 : Int) ≤ s193 ∧ s193 < (a1.length : Int)) ((laws_eqRingAct (impl_RingAct.mk (ix a0 s193).Kind (ix a0 s193).N) (impl_RingAct.mk (ix a1 s193).Kind (ix a1 s193).N)).bind fun r223 => (bif (!r223) then (some (Fl.out false)) else laws_eqRingActS_l1 F a0 a1 k (IntKind.wrap .i64 (s193 + 1))))) else (some (Fl.go ())))
def laws_eqRingActS (F : Nat) (a0 : (List impl_RingAct)) (a1 : (List impl_RingAct)) : Option (Bool) := (bif (!decide ((a0.length : Int) = (a1.length : Int))) then (some false) else (laws_eqRingActS_l1 F a0 a1 F 0 : Option (Fl (Bool) (Unit))).bind fun l171 => l171.on fun (s170 : (Unit)) => (some true))
set_option maxHeartbeats 400000 in
set_option maxRecDepth 100000 in
theorem laws_eqRingActS_ok (F : Nat) {w0 w : World} {hR hF : Hp} {v0x0 : Value} {v1x0 : Value} (a0 : (List impl_RingAct)) (a1 : (List impl_RingAct)) {r : (Bool)} (H0x0 : RdF w0 impl_RingAct.K v0x0 a0 hR) (H1x0 : RdF w0 impl_RingAct.K v1x0 a1 hR) (hs : Sub hR hF) (hm : Mem w0 w (cat [hF])) (he : laws_eqRingActS F a0 a1 = some r) :
    Calls Try.prog 52 #[v0x0, v1x0] w (fun e w' => e = .returned (.bool r) ∧ Mem w0 w' (cat [hF])) := by
 refine calls_fr (n := 27) Try.func52 rfl rfl rfl ?_
 unfold laws_eqRingActS at he
 refine wp_seq ?_
 refine wp_region_lit ?_
 refine s_val (v := (.bool false)) (won rfl) rfl rfl (x_assign rfl rfl) ?_
 refine wpList_nil ?_
 refine nx ?_
 refine wp_seq ?_
 refine wp_seq ?_
 refine wp_region_lit ?_
 refine s_val (v := v0x0) (won rfl) rfl rfl (x_move rfl (ev (t := 0) rfl rfl)) ?_
 refine s_val (v := (.int .i64 (a0.length : Int))) (won rfl) rfl rfl (x_len rfl slt_62 (ev (t := 6) rfl rfl) (H0x0).sl) ?_
 refine s_val (v := v1x0) (won rfl) rfl rfl (x_move rfl (ev (t := 1) rfl rfl)) ?_
 refine s_val (v := (.int .i64 (a1.length : Int))) (won rfl) rfl rfl (x_len rfl slt_62 (ev (t := 8) rfl rfl) (H1x0).sl) ?_
 refine s_val (v := (.bool (!decide ((a0.length : Int) = (a1.length : Int))))) (won rfl) rfl rfl (x_neq rfl (ev (t := 7) rfl rfl) (ev (t := 9) rfl rfl)) ?_
 refine wpList_nil ?_
 refine nx ?_
 rcases Bool.eq_false_or_eq_true ((!decide ((a0.length : Int) = (a1.length : Int)))) with hb116 | hb116
 ·
  replace he := bifT he hb116
  refine c_true rfl (p := (!decide ((a0.length : Int) = (a1.length : Int)))) rfl rfl hb116 ?_
  refine wp_seq ?_
  refine wp_region_lit ?_
  refine s_val (v := (.bool false)) (won rfl) rfl rfl (x_assign rfl rfl) ?_
  refine wpList_nil ?_
  refine nx ?_
  refine wp_ret ?_
  refine xr ?_
  obtain rfl := Option.some.inj he
  refine r_ret (v := (.bool false)) (rv_one rfl (RVs.tmp (v := (.bool false)) rfl rfl RVs.nil)) rfl ?_
  exact ⟨rfl, Mem.pick [0] rfl hm⟩
 ·
  replace he := bifF he hb116
  refine c_false rfl (p := (!decide ((a0.length : Int) = (a1.length : Int)))) rfl rfl hb116 ?_
  refine wp_skip ?_
  refine nx ?_
  obtain ⟨l171, hT173, hk172⟩ := bindE he
  replace he := hT173
  refine wp_seqJ (fun a w => ∃ (s170 : (Unit)) (f : Nat → Value), l171 = Fl.go s170 ∧ a = fr 27 f ∧ Mem w0 w (cat [hF])) ?_ ?_
  ·
   refine wp_seq ?_
   refine wp_region_lit ?_
   refine s_val (v := (.int .i64 0)) (won rfl) rfl rfl (x_assign rfl rfl) ?_
   refine wpList_nil ?_
   refine nx ?_
   refine wp_block ?_
   refine wp_fuel (I := fun k => fun a w => ∃ (s193 : Int) (f : Nat → Value), laws_eqRingActS_l1 F a0 a1 k s193 = some l171 ∧ a = fr 27 f ∧ f 0 = v0x0 ∧ f 1 = v1x0 ∧ f 5 = (.int .i64 s193) ∧ Mem w0 w (cat [hF])) F _ _ ⟨0, _, he, rfl, rfl, rfl, rfl, Mem.pick [0] rfl hm⟩ ?_ ?_
   ·
    rintro a w ⟨s193, f, he, rfl, q191, q192, q194, hm210⟩
    rw [laws_eqRingActS_l1] at he; exact none_no he
   ·
    rintro k a w ⟨s193, f, he, rfl, q191, q192, q194, hm212⟩
    rw [laws_eqRingActS_l1] at he
    refine wp_seq ?_
    refine wp_seq ?_
    refine wp_region_lit ?_
    refine s_val (v := (.int .i64 s193)) (won rfl) rfl rfl (x_move rfl (ev (t := 5) (v := (.int .i64 s193)) rfl q194)) ?_
    refine s_val (v := v0x0) (won rfl) rfl rfl (x_move rfl (ev (t := 0) (v := v0x0) rfl q191)) ?_
    refine s_val (v := (.int .i64 (a0.length : Int))) (won rfl) rfl rfl (x_len rfl slt_62 (ev (t := 12) rfl rfl) (H0x0).sl) ?_
    refine s_val (v := (.bool (decide (s193 < (a0.length : Int))))) (won rfl) rfl rfl (x_lss rfl (ev (t := 11) rfl rfl) (ev (t := 13) rfl rfl)) ?_
    refine wpList_nil ?_
    refine nx ?_
    rcases Bool.eq_false_or_eq_true ((decide (s193 < (a0.length : Int)))) with hb214 | hb214
    ·
     replace he := bifT he hb214
     refine c_true rfl (p := (decide (s193 < (a0.length : Int)))) rfl rfl hb214 ?_
     refine wp_skip ?_
     refine nx ?_
     refine wp_seq ?_
     refine wp_block ?_
     refine wp_seq ?_
     obtain ⟨hg221, he⟩ := gdE he
     obtain ⟨hg222, he⟩ := gdE he
     obtain ⟨r223, hr223, he⟩ := bindE he
     refine wp_qregion (cat [hF]) mixed (by kernel_rfl) hm212 ?_
     refine q_val (v := v0x0) (won rfl) rfl rfl (fun wq hq => (x_move rfl (ev (t := 0) (v := v0x0) rfl q191))) ?_
     refine q_val (v := (.int .i64 s193)) (won rfl) rfl rfl (fun wq hq => (x_move rfl (ev (t := 5) (v := (.int .i64 s193)) rfl q194))) ?_
     refine q_val (v := (.pointer (some ((slA v0x0).add (Int.toNat s193 * 2))))) (won rfl) rfl rfl (fun wq hq => (x_index (d := impl_RingAct.K) rfl slt_62 (ev (t := 17) rfl rfl) (ev (t := 18) rfl rfl) H0x0 hg221.1 hg221.2)) ?_
     refine q_val (v := (.agg #[(.int .i64 (ix a0 s193).Kind), (.int .i64 (ix a0 s193).N)])) (won rfl) rfl rfl (fun wq hq => (x_loadN (vs := [(.int .i64 (ix a0 s193).Kind), (.int .i64 (ix a0 s193).N)]) rfl tyN_74 (ev (t := 19) rfl rfl) (RdF.cells H0x0 hq (Sub.trans hs (Sub.at_ (k := 0) rfl)) hg221.1 hg221.2))) ?_
     refine q_val (v := v1x0) (won rfl) rfl rfl (fun wq hq => (x_move rfl (ev (t := 1) (v := v1x0) rfl q192))) ?_
     refine q_val (v := (.int .i64 s193)) (won rfl) rfl rfl (fun wq hq => (x_move rfl (ev (t := 5) (v := (.int .i64 s193)) rfl q194))) ?_
     refine q_val (v := (.pointer (some ((slA v1x0).add (Int.toNat s193 * 2))))) (won rfl) rfl rfl (fun wq hq => (x_index (d := impl_RingAct.K) rfl slt_62 (ev (t := 21) rfl rfl) (ev (t := 22) rfl rfl) H1x0 hg222.1 hg222.2)) ?_
     refine q_val (v := (.agg #[(.int .i64 (ix a1 s193).Kind), (.int .i64 (ix a1 s193).N)])) (won rfl) rfl rfl (fun wq hq => (x_loadN (vs := [(.int .i64 (ix a1 s193).Kind), (.int .i64 (ix a1 s193).N)]) rfl tyN_74 (ev (t := 23) rfl rfl) (RdF.cells H1x0 hq (Sub.trans hs (Sub.at_ (k := 0) rfl)) hg222.1 hg222.2))) ?_
     refine q_call (v := (.bool r223)) (won rfl) rfl rfl (fun wq hq => (x_call rfl rfl cl_82 (map_lit (map_cons (ev (t := 20) rfl rfl) (map_cons (ev (t := 24) rfl rfl) map_nil))))) (fun wq hq => ((laws_eqRingAct_ok (hR := (cat [])) (hF := cat [hF]) (impl_RingAct.mk (ix a0 s193).Kind (ix a0 s193).N) (impl_RingAct.mk (ix a1 s193).Kind (ix a1 s193).N)  (Mem.one hq) hr223)).mono fun e w2 h => ⟨h.1, Mem.un h.2⟩) ?_
     refine q_val (v := (.bool (!r223))) (won rfl) rfl rfl (fun wq hq => (x_not rfl (ev (t := 25) rfl rfl))) ?_
     refine wpQuiet_nil ?_
     intro w224 hm225
     refine nx ?_
     rcases Bool.eq_false_or_eq_true ((!r223)) with hb226 | hb226
     ·
      replace he := bifT he hb226
      refine c_true rfl (p := (!r223)) rfl rfl hb226 ?_
      refine wp_seq ?_
      refine wp_region_lit ?_
      refine s_val (v := (.bool false)) (won rfl) rfl rfl (x_assign rfl rfl) ?_
      refine wpList_nil ?_
      refine nx ?_
      refine wp_ret ?_
      refine rb ?_
      refine xr ?_
      refine xr ?_
      refine rb ?_
      refine xr ?_
      obtain rfl := Option.some.inj he
      replace he := outE hk172
      obtain rfl := Option.some.inj he
      refine r_ret (v := (.bool false)) (rv_one rfl (RVs.tmp (v := (.bool false)) rfl rfl RVs.nil)) rfl ?_
      exact ⟨rfl, Mem.pick [0] rfl hm225⟩
     ·
      replace he := bifF he hb226
      refine c_false rfl (p := (!r223)) rfl rfl hb226 ?_
      refine wp_skip ?_
      refine nb ?_
      refine nx ?_
      refine wp_region_lit ?_
      refine s_val (v := (.int .i64 s193)) (won rfl) rfl rfl (x_move rfl (ev (t := 5) (v := (.int .i64 s193)) rfl q194)) ?_
      refine s_val (v := (.int .i64 (IntKind.wrap .i64 (s193 + 1)))) (won rfl) rfl rfl (x_add rfl (ev (t := 15) rfl rfl) rfl) ?_
      refine s_val (v := (.int .i64 (IntKind.wrap .i64 (s193 + 1)))) (won rfl) rfl rfl (x_assign rfl (ev (t := 16) rfl rfl)) ?_
      refine wpList_nil ?_
      refine nx ?_
      exact ⟨(IntKind.wrap .i64 (s193 + 1)), _, he, rfl, q191, q192, rfl, Mem.pick [0] rfl hm225⟩
    ·
     replace he := bifF he hb214
     refine c_false rfl (p := (decide (s193 < (a0.length : Int)))) rfl rfl hb214 ?_
     refine wp_exit ?_
     refine xs ?_
     refine xs ?_
     refine xb ?_
     refine nx ?_
     obtain rfl := Option.some.inj he
     exact ⟨(), _, rfl, rfl, Mem.pick [0] rfl hm212⟩
  ·
   rintro a w ⟨s170, f, rfl, rfl, hm228⟩
   replace he := goE hk172
   refine wp_seq ?_
   refine wp_region_lit ?_
   refine s_val (v := (.bool true)) (won rfl) rfl rfl (x_assign rfl rfl) ?_
   refine wpList_nil ?_
   refine nx ?_
   refine wp_ret ?_
   obtain rfl := Option.some.inj he
   refine r_ret (v := (.bool true)) (rv_one rfl (RVs.tmp (v := (.bool true)) rfl rfl RVs.nil)) rfl ?_
   exact ⟨rfl, Mem.pick [0] rfl hm228⟩
def laws_markRingActS_l1 (F : Nat) : Nat → (List impl_RingAct) → Int → Int → Option ((List impl_RingAct) × Int)
  | 0, _, _, _ => none
  | k + 1, s409, s413, s415 => (bif (decide (s415 < (s409.length : Int))) then gd ((0 : Int) ≤ s415 ∧ s415 < (s409.length : Int)) (gd ((0 : Int) ≤ s415 ∧ s415 < ((List.set s409 (Int.toNat s415) (impl_RingAct.mk s413 (ix s409 s415).N)).length : Int)) (laws_markRingActS_l1 F k (List.set s409 (Int.toNat s415) (impl_RingAct.mk s413 (IntKind.wrap .i64 (s413 + 1)))) (IntKind.wrap .i64 ((IntKind.wrap .i64 (s413 + 1)) + 1)) (IntKind.wrap .i64 (s415 + 1)))) else (some (s409, s413)))
def laws_markRingActS (F : Nat) (a0 : (List impl_RingAct)) (a1 : Int) : Option (Int × (List impl_RingAct)) := (laws_markRingActS_l1 F F a0 a1 0 : Option ((List impl_RingAct) × Int)).bind fun (s352 : ((List impl_RingAct) × Int)) => (some (s352.2, s352.1))
set_option maxHeartbeats 400000 in
set_option maxRecDepth 100000 in
theorem laws_markRingActS_ok (F : Nat) {w0 w : World} {hR hF : Hp} {v0x0 : Value} {h0x0 : Hp} (a0 : (List impl_RingAct)) (a1 : Int) {r : (Int × (List impl_RingAct))} (H0x0 : OwF 74 impl_RingAct.K v0x0 a0 h0x0) (hm : Mem w0 w (cat [h0x0, hF])) (he : laws_markRingActS F a0 a1 = some r) :
    Calls Try.prog 53 #[v0x0, (.int .i64 a1)] w (fun e w' => ∃ (h'0 : Hp), e = .returned (.int .i64 r.1) ∧ OwF 74 impl_RingAct.K v0x0 r.2 h'0 ∧ Mem w0 w' (cat [h'0, hF])) := by
 refine calls_fr (n := 27) Try.func53 rfl rfl rfl ?_
 unfold laws_markRingActS at he
 refine wp_seq ?_
 refine wp_region_lit ?_
 refine s_val (v := (.int .i64 0)) (won rfl) rfl rfl (x_assign rfl rfl) ?_
 refine wpList_nil ?_
 refine nx ?_
 obtain ⟨s352, hT354, hk353⟩ := bindE he
 replace he := hT354
 refine wp_seqJ (fun a w => ∃ (h348 : Hp) (f : Nat → Value), a = fr 27 f ∧ f 1 = (.int .i64 s352.2) ∧ OwF 74 impl_RingAct.K v0x0 s352.1 h348 ∧ Mem w0 w (cat [h348, hF])) ?_ ?_
 ·
  refine wp_seq ?_
  refine wp_region_lit ?_
  refine s_val (v := (.int .i64 0)) (won rfl) rfl rfl (x_assign rfl rfl) ?_
  refine wpList_nil ?_
  refine nx ?_
  refine wp_block ?_
  refine wp_fuel (I := fun k => fun a w => ∃ (s409 : (List impl_RingAct)) (s413 : Int) (s415 : Int) (h410 : Hp) (f : Nat → Value), laws_markRingActS_l1 F k s409 s413 s415 = some s352 ∧ a = fr 27 f ∧ f 0 = v0x0 ∧ f 1 = (.int .i64 s413) ∧ f 5 = (.int .i64 s415) ∧ OwF 74 impl_RingAct.K v0x0 s409 h410 ∧ Mem w0 w (cat [h410, hF])) F _ _ ⟨a0, a1, 0, h0x0, _, he, rfl, rfl, rfl, rfl, H0x0, Mem.pick [0, 1] rfl hm⟩ ?_ ?_
  ·
   rintro a w ⟨s409, s413, s415, h410, f, he, rfl, q412, q414, q416, H411, hm440⟩
   rw [laws_markRingActS_l1] at he; exact none_no he
  ·
   rintro k a w ⟨s409, s413, s415, h410, f, he, rfl, q412, q414, q416, H411, hm442⟩
   rw [laws_markRingActS_l1] at he
   refine wp_seq ?_
   refine wp_seq ?_
   refine wp_region_lit ?_
   refine s_val (v := (.int .i64 s415)) (won rfl) rfl rfl (x_move rfl (ev (t := 5) (v := (.int .i64 s415)) rfl q416)) ?_
   refine s_val (v := v0x0) (won rfl) rfl rfl (x_move rfl (ev (t := 0) (v := v0x0) rfl q412)) ?_
   refine s_val (v := (.int .i64 (s409.length : Int))) (won rfl) rfl rfl (x_len rfl slt_62 (ev (t := 7) rfl rfl) (H411).sl) ?_
   refine s_val (v := (.bool (decide (s415 < (s409.length : Int))))) (won rfl) rfl rfl (x_lss rfl (ev (t := 6) rfl rfl) (ev (t := 8) rfl rfl)) ?_
   refine wpList_nil ?_
   refine nx ?_
   rcases Bool.eq_false_or_eq_true ((decide (s415 < (s409.length : Int)))) with hb444 | hb444
   ·
    replace he := bifT he hb444
    refine c_true rfl (p := (decide (s415 < (s409.length : Int)))) rfl rfl hb444 ?_
    refine wp_skip ?_
    refine nx ?_
    refine wp_seq ?_
    refine wp_block ?_
    refine wp_seq ?_
    obtain ⟨hg455, he⟩ := gdE he
    refine wp_region_lit ?_
    refine s_val (v := v0x0) (won rfl) rfl rfl (x_move rfl (ev (t := 0) (v := v0x0) rfl q412)) ?_
    refine s_val (v := (.int .i64 s415)) (won rfl) rfl rfl (x_move rfl (ev (t := 5) (v := (.int .i64 s415)) rfl q416)) ?_
    refine s_val (v := (.int .i64 s413)) (won rfl) rfl rfl (x_move rfl (ev (t := 1) (v := (.int .i64 s413)) rfl q414)) ?_
    refine s_val (v := (.pointer (some ((slA v0x0).add (Int.toNat s415 * 2))))) (won rfl) rfl rfl (x_index (d := impl_RingAct.K) rfl slt_62 (ev (t := 12) rfl rfl) (ev (t := 13) rfl rfl) (H411.rd w0) hg455.1 hg455.2) ?_
    refine s_val (v := (.pointer (some (((slA v0x0).add (Int.toNat s415 * 2)).add 0)))) (won rfl) rfl rfl (x_fielda rfl fa_74x0 (ev (t := 15) rfl rfl)) ?_
    refine s_exw (won rfl) rfl (e_storeF (d := impl_RingAct.K) (s := (impl_RingAct.mk s413 (ix s409 s415).N)) (vs := [(.int .i64 s413)]) (j := 0) rfl sz_3 (ev (t := 16) rfl rfl) rfl (ev (t := 14) rfl rfl) rfl rfl H411 hg455.1 hg455.2 rfl rfl hm442 (k := 0) rfl) ?_
    rintro h456 w458 ⟨H457, hm459⟩
    replace hm459 : Mem w0 w458 (cat [h456, hF]) := hm459
    refine wpList_nil ?_
    refine nx ?_
    refine wp_seq ?_
    refine wp_region_lit ?_
    refine s_val (v := (.int .i64 s413)) (won rfl) rfl rfl (x_move rfl (ev (t := 1) (v := (.int .i64 s413)) rfl q414)) ?_
    refine s_val (v := (.int .i64 (IntKind.wrap .i64 (s413 + 1)))) (won rfl) rfl rfl (x_add rfl (ev (t := 17) rfl rfl) rfl) ?_
    refine s_val (v := (.int .i64 (IntKind.wrap .i64 (s413 + 1)))) (won rfl) rfl rfl (x_assign rfl (ev (t := 18) rfl rfl)) ?_
    refine wpList_nil ?_
    refine nx ?_
    refine wp_seq ?_
    obtain ⟨hg460, he⟩ := gdE he
    refine wp_region_lit ?_
    refine s_val (v := v0x0) (won rfl) rfl rfl (x_move rfl (ev (t := 0) (v := v0x0) rfl q412)) ?_
    refine s_val (v := (.int .i64 s415)) (won rfl) rfl rfl (x_move rfl (ev (t := 5) (v := (.int .i64 s415)) rfl q416)) ?_
    refine s_val (v := (.int .i64 (IntKind.wrap .i64 (s413 + 1)))) (won rfl) rfl rfl (x_move rfl (ev (t := 1) rfl rfl)) ?_
    refine s_val (v := (.pointer (some ((slA v0x0).add (Int.toNat s415 * 2))))) (won rfl) rfl rfl (x_index (d := impl_RingAct.K) rfl slt_62 (ev (t := 19) rfl rfl) (ev (t := 20) rfl rfl) (H457.rd w0) hg460.1 hg460.2) ?_
    refine s_val (v := (.pointer (some (((slA v0x0).add (Int.toNat s415 * 2)).add 1)))) (won rfl) rfl rfl (x_fielda rfl fa_74x1 (ev (t := 22) rfl rfl)) ?_
    refine s_exw (won rfl) rfl (e_storeF (d := impl_RingAct.K) (s := (impl_RingAct.mk s413 (IntKind.wrap .i64 (s413 + 1)))) (vs := [(.int .i64 (IntKind.wrap .i64 (s413 + 1)))]) (j := 1) rfl sz_3 (ev (t := 23) rfl rfl) rfl (ev (t := 21) rfl rfl) rfl rfl H457 hg460.1 hg460.2 rfl (by rw [ix_set_self hg460.1 (by have := hg460.2; rwa [List.length_set] at this)]; rfl) hm459 (k := 0) rfl) ?_
    rintro h461 w463 ⟨H462, hm464⟩
    rw [List.set_set] at H462
    replace hm464 : Mem w0 w463 (cat [h461, hF]) := hm464
    refine wpList_nil ?_
    refine nx ?_
    refine wp_region_lit ?_
    refine s_val (v := (.int .i64 (IntKind.wrap .i64 (s413 + 1)))) (won rfl) rfl rfl (x_move rfl (ev (t := 1) rfl rfl)) ?_
    refine s_val (v := (.int .i64 (IntKind.wrap .i64 ((IntKind.wrap .i64 (s413 + 1)) + 1)))) (won rfl) rfl rfl (x_add rfl (ev (t := 24) rfl rfl) rfl) ?_
    refine s_val (v := (.int .i64 (IntKind.wrap .i64 ((IntKind.wrap .i64 (s413 + 1)) + 1)))) (won rfl) rfl rfl (x_assign rfl (ev (t := 25) rfl rfl)) ?_
    refine wpList_nil ?_
    refine nb ?_
    refine nx ?_
    refine wp_region_lit ?_
    refine s_val (v := (.int .i64 s415)) (won rfl) rfl rfl (x_move rfl (ev (t := 5) (v := (.int .i64 s415)) rfl q416)) ?_
    refine s_val (v := (.int .i64 (IntKind.wrap .i64 (s415 + 1)))) (won rfl) rfl rfl (x_add rfl (ev (t := 10) rfl rfl) rfl) ?_
    refine s_val (v := (.int .i64 (IntKind.wrap .i64 (s415 + 1)))) (won rfl) rfl rfl (x_assign rfl (ev (t := 11) rfl rfl)) ?_
    refine wpList_nil ?_
    refine nx ?_
    exact ⟨(List.set s409 (Int.toNat s415) (impl_RingAct.mk s413 (IntKind.wrap .i64 (s413 + 1)))), (IntKind.wrap .i64 ((IntKind.wrap .i64 (s413 + 1)) + 1)), (IntKind.wrap .i64 (s415 + 1)), h461, _, he, rfl, q412, rfl, rfl, H462, Mem.pick [0, 1] rfl hm464⟩
   ·
    replace he := bifF he hb444
    refine c_false rfl (p := (decide (s415 < (s409.length : Int)))) rfl rfl hb444 ?_
    refine wp_exit ?_
    refine xs ?_
    refine xs ?_
    refine xb ?_
    refine nx ?_
    obtain rfl := Option.some.inj he
    exact ⟨h410, _, rfl, q414, H411, Mem.pick [0, 1] rfl hm442⟩
 ·
  rintro a w ⟨h348, f, rfl, q351, H349, hm466⟩
  replace he := hk353
  refine wp_seq ?_
  refine wp_region_lit ?_
  refine s_val (v := (.int .i64 s352.2)) (won rfl) rfl rfl (x_move rfl (ev (t := 1) (v := (.int .i64 s352.2)) rfl q351)) ?_
  refine s_val (v := (.int .i64 s352.2)) (won rfl) rfl rfl (x_assign rfl (ev (t := 26) rfl rfl)) ?_
  refine wpList_nil ?_
  refine nx ?_
  refine wp_ret ?_
  obtain rfl := Option.some.inj he
  refine r_ret (v := (.int .i64 s352.2)) (rv_one rfl (RVs.tmp (v := (.int .i64 s352.2)) rfl rfl RVs.nil)) rfl ?_
  exact ⟨h348, rfl, H349, Mem.pick [0, 1] rfl hm466⟩
def laws_markIntS_l1 (F : Nat) : Nat → (List Int) → Int → Int → Option ((List Int) × Int)
  | 0, _, _, _ => none
  | k + 1, s269, s273, s275 => (bif (decide (s275 < (s269.length : Int))) then gd ((0 : Int) ≤ s275 ∧ s275 < (s269.length : Int)) (laws_markIntS_l1 F k (List.set s269 (Int.toNat s275) s273) (IntKind.wrap .i64 (s273 + 1)) (IntKind.wrap .i64 (s275 + 1))) else (some (s269, s273)))
def laws_markIntS (F : Nat) (a0 : (List Int)) (a1 : Int) : Option (Int × (List Int)) := (laws_markIntS_l1 F F a0 a1 0 : Option ((List Int) × Int)).bind fun (s232 : ((List Int) × Int)) => (some (s232.2, s232.1))
set_option maxHeartbeats 400000 in
set_option maxRecDepth 100000 in
theorem laws_markIntS_ok (F : Nat) {w0 w : World} {hR hF : Hp} {v0x0 : Value} {h0x0 : Hp} (a0 : (List Int)) (a1 : Int) {r : (Int × (List Int))} (H0x0 : OwF 3 (FK.int .i64) v0x0 a0 h0x0) (hm : Mem w0 w (cat [h0x0, hF])) (he : laws_markIntS F a0 a1 = some r) :
    Calls Try.prog 70 #[v0x0, (.int .i64 a1)] w (fun e w' => ∃ (h'0 : Hp), e = .returned (.int .i64 r.1) ∧ OwF 3 (FK.int .i64) v0x0 r.2 h'0 ∧ Mem w0 w' (cat [h'0, hF])) := by
 refine calls_fr (n := 19) Try.func70 rfl rfl rfl ?_
 unfold laws_markIntS at he
 refine wp_seq ?_
 refine wp_region_lit ?_
 refine s_val (v := (.int .i64 0)) (won rfl) rfl rfl (x_assign rfl rfl) ?_
 refine wpList_nil ?_
 refine nx ?_
 obtain ⟨s232, hT234, hk233⟩ := bindE he
 replace he := hT234
 refine wp_seqJ (fun a w => ∃ (h228 : Hp) (f : Nat → Value), a = fr 19 f ∧ f 1 = (.int .i64 s232.2) ∧ OwF 3 (FK.int .i64) v0x0 s232.1 h228 ∧ Mem w0 w (cat [h228, hF])) ?_ ?_
 ·
  refine wp_seq ?_
  refine wp_region_lit ?_
  refine s_val (v := (.int .i64 0)) (won rfl) rfl rfl (x_assign rfl rfl) ?_
  refine wpList_nil ?_
  refine nx ?_
  refine wp_block ?_
  refine wp_fuel (I := fun k => fun a w => ∃ (s269 : (List Int)) (s273 : Int) (s275 : Int) (h270 : Hp) (f : Nat → Value), laws_markIntS_l1 F k s269 s273 s275 = some s232 ∧ a = fr 19 f ∧ f 0 = v0x0 ∧ f 1 = (.int .i64 s273) ∧ f 5 = (.int .i64 s275) ∧ OwF 3 (FK.int .i64) v0x0 s269 h270 ∧ Mem w0 w (cat [h270, hF])) F _ _ ⟨a0, a1, 0, h0x0, _, he, rfl, rfl, rfl, rfl, H0x0, Mem.pick [0, 1] rfl hm⟩ ?_ ?_
  ·
   rintro a w ⟨s269, s273, s275, h270, f, he, rfl, q272, q274, q276, H271, hm290⟩
   rw [laws_markIntS_l1] at he; exact none_no he
  ·
   rintro k a w ⟨s269, s273, s275, h270, f, he, rfl, q272, q274, q276, H271, hm292⟩
   rw [laws_markIntS_l1] at he
   refine wp_seq ?_
   refine wp_seq ?_
   refine wp_region_lit ?_
   refine s_val (v := (.int .i64 s275)) (won rfl) rfl rfl (x_move rfl (ev (t := 5) (v := (.int .i64 s275)) rfl q276)) ?_
   refine s_val (v := v0x0) (won rfl) rfl rfl (x_move rfl (ev (t := 0) (v := v0x0) rfl q272)) ?_
   refine s_val (v := (.int .i64 (s269.length : Int))) (won rfl) rfl rfl (x_len rfl slt_26 (ev (t := 7) rfl rfl) (H271).sl) ?_
   refine s_val (v := (.bool (decide (s275 < (s269.length : Int))))) (won rfl) rfl rfl (x_lss rfl (ev (t := 6) rfl rfl) (ev (t := 8) rfl rfl)) ?_
   refine wpList_nil ?_
   refine nx ?_
   rcases Bool.eq_false_or_eq_true ((decide (s275 < (s269.length : Int)))) with hb294 | hb294
   ·
    replace he := bifT he hb294
    refine c_true rfl (p := (decide (s275 < (s269.length : Int)))) rfl rfl hb294 ?_
    refine wp_skip ?_
    refine nx ?_
    refine wp_seq ?_
    refine wp_block ?_
    refine wp_seq ?_
    obtain ⟨hg300, he⟩ := gdE he
    refine wp_region_lit ?_
    refine s_val (v := v0x0) (won rfl) rfl rfl (x_move rfl (ev (t := 0) (v := v0x0) rfl q272)) ?_
    refine s_val (v := (.int .i64 s275)) (won rfl) rfl rfl (x_move rfl (ev (t := 5) (v := (.int .i64 s275)) rfl q276)) ?_
    refine s_val (v := (.int .i64 s273)) (won rfl) rfl rfl (x_move rfl (ev (t := 1) (v := (.int .i64 s273)) rfl q274)) ?_
    refine s_val (v := (.pointer (some ((slA v0x0).add (Int.toNat s275 * 1))))) (won rfl) rfl rfl (x_index (d := (FK.int .i64)) rfl slt_26 (ev (t := 12) rfl rfl) (ev (t := 13) rfl rfl) (H271.rd w0) hg300.1 hg300.2) ?_
    refine s_exw (won rfl) rfl (e_storeF (d := (FK.int .i64)) (s := s273) (vs := [(.int .i64 s273)]) (j := 0) rfl sz_3 (ev (t := 15) rfl rfl) (add_0 _).symm (ev (t := 14) rfl rfl) rfl rfl H271 hg300.1 hg300.2 rfl rfl hm292 (k := 0) rfl) ?_
    rintro h301 w303 ⟨H302, hm304⟩
    replace hm304 : Mem w0 w303 (cat [h301, hF]) := hm304
    refine wpList_nil ?_
    refine nx ?_
    refine wp_region_lit ?_
    refine s_val (v := (.int .i64 s273)) (won rfl) rfl rfl (x_move rfl (ev (t := 1) (v := (.int .i64 s273)) rfl q274)) ?_
    refine s_val (v := (.int .i64 (IntKind.wrap .i64 (s273 + 1)))) (won rfl) rfl rfl (x_add rfl (ev (t := 16) rfl rfl) rfl) ?_
    refine s_val (v := (.int .i64 (IntKind.wrap .i64 (s273 + 1)))) (won rfl) rfl rfl (x_assign rfl (ev (t := 17) rfl rfl)) ?_
    refine wpList_nil ?_
    refine nb ?_
    refine nx ?_
    refine wp_region_lit ?_
    refine s_val (v := (.int .i64 s275)) (won rfl) rfl rfl (x_move rfl (ev (t := 5) (v := (.int .i64 s275)) rfl q276)) ?_
    refine s_val (v := (.int .i64 (IntKind.wrap .i64 (s275 + 1)))) (won rfl) rfl rfl (x_add rfl (ev (t := 10) rfl rfl) rfl) ?_
    refine s_val (v := (.int .i64 (IntKind.wrap .i64 (s275 + 1)))) (won rfl) rfl rfl (x_assign rfl (ev (t := 11) rfl rfl)) ?_
    refine wpList_nil ?_
    refine nx ?_
    exact ⟨(List.set s269 (Int.toNat s275) s273), (IntKind.wrap .i64 (s273 + 1)), (IntKind.wrap .i64 (s275 + 1)), h301, _, he, rfl, q272, rfl, rfl, H302, Mem.pick [0, 1] rfl hm304⟩
   ·
    replace he := bifF he hb294
    refine c_false rfl (p := (decide (s275 < (s269.length : Int)))) rfl rfl hb294 ?_
    refine wp_exit ?_
    refine xs ?_
    refine xs ?_
    refine xb ?_
    refine nx ?_
    obtain rfl := Option.some.inj he
    exact ⟨h270, _, rfl, q274, H271, Mem.pick [0, 1] rfl hm292⟩
 ·
  rintro a w ⟨h228, f, rfl, q231, H229, hm306⟩
  replace he := hk233
  refine wp_seq ?_
  refine wp_region_lit ?_
  refine s_val (v := (.int .i64 s232.2)) (won rfl) rfl rfl (x_move rfl (ev (t := 1) (v := (.int .i64 s232.2)) rfl q231)) ?_
  refine s_val (v := (.int .i64 s232.2)) (won rfl) rfl rfl (x_assign rfl (ev (t := 18) rfl rfl)) ?_
  refine wpList_nil ?_
  refine nx ?_
  refine wp_ret ?_
  obtain rfl := Option.some.inj he
  refine r_ret (v := (.int .i64 s232.2)) (rv_one rfl (RVs.tmp (v := (.int .i64 s232.2)) rfl rfl RVs.nil)) rfl ?_
  exact ⟨h228, rfl, H229, Mem.pick [0, 1] rfl hm306⟩
def laws_markRing (F : Nat) (a0 : impl_Ring) (a1 : Int) : Option (Int × (List Int) × (List Int)) := (laws_markIntS F a0.Posted a1).bind fun r33 => (laws_markIntS F a0.Done r33.1).bind fun r38 => (some (r38.1, r33.2, r38.2))
set_option maxHeartbeats 400000 in
set_option maxRecDepth 100000 in
theorem laws_markRing_ok (F : Nat) {w0 w : World} {hR hF : Hp} {v0x2 : Value} {h0x2 : Hp} {v0x3 : Value} {h0x3 : Hp} (a0 : impl_Ring) (a1 : Int) {r : (Int × (List Int) × (List Int))} (H0x2 : OwF 3 (FK.int .i64) v0x2 a0.Posted h0x2) (H0x3 : OwF 3 (FK.int .i64) v0x3 a0.Done h0x3) (hm : Mem w0 w (cat [h0x2, h0x3, hF])) (he : laws_markRing F a0 a1 = some r) :
    Calls Try.prog 45 #[(.agg #[(.int .i64 a0.Size), (.bool a0.Up), v0x2, v0x3, (.int .i64 a0.Lost), (.int .i64 a0.Pending), (.int .i64 a0.Every), (.int .i64 a0.Signals)]), (.int .i64 a1)] w (fun e w' => ∃ (h'0 : Hp) (h'1 : Hp), e = .returned (.int .i64 r.1) ∧ OwF 3 (FK.int .i64) v0x2 r.2.1 h'0 ∧ OwF 3 (FK.int .i64) v0x3 r.2.2 h'1 ∧ Mem w0 w' (cat [h'0, h'1, hF])) := by
 refine calls_fr (n := 14) Try.func45 rfl rfl rfl ?_
 unfold laws_markRing at he
 refine wp_seq ?_
 refine wp_region_lit ?_
 refine s_exv (won rfl) rfl rfl (e_box (vs := [(.int .i64 a0.Size), (.bool a0.Up), v0x2, v0x3, (.int .i64 a0.Lost), (.int .i64 a0.Pending), (.int .i64 a0.Every), (.int .i64 a0.Signals)]) rfl (ev (t := 0) rfl rfl) rfl hm) ?_
 rintro g29 w30 hm31
 refine s_val (v := (.int .i64 0)) (won rfl) rfl rfl (x_assign rfl rfl) ?_
 refine wpList_nil ?_
 refine nx ?_
 refine wp_seq ?_
 obtain ⟨r33, hr33, he⟩ := bindE he
 refine wp_region_lit ?_
 refine s_val (v := (.pointer (some ⟨g29, 2, none⟩))) (won rfl) rfl rfl (x_field rfl fa_65x2 (ev (t := 2) rfl rfl)) ?_
 refine s_val (v := v0x2) (won rfl) rfl rfl (x_load rfl ty1x26 (ev (t := 5) rfl rfl) (seg_cell (o' := 0) (j := 2) hm31 (k := 0) rfl rfl rfl)) ?_
 refine s_val (v := (.int .i64 a1)) (won rfl) rfl rfl (x_move rfl (ev (t := 1) rfl rfl)) ?_
 refine s_call (won rfl) rfl rfl (x_call rfl rfl cl_70 (map_lit (map_cons (ev (t := 6) rfl rfl) (map_cons (ev (t := 7) rfl rfl) map_nil)))) (laws_markIntS_ok F (hR := (cat [])) (hF := cat [sg g29 65 (0, 0) [] [(.int .i64 a0.Size), (.bool a0.Up), v0x2, v0x3, (.int .i64 a0.Lost), (.int .i64 a0.Pending), (.int .i64 a0.Every), (.int .i64 a0.Signals)] [], h0x3, hF]) a0.Posted a1 H0x2 (Mem.grp [h0x2] [sg g29 65 (0, 0) [] [(.int .i64 a0.Size), (.bool a0.Up), v0x2, v0x3, (.int .i64 a0.Lost), (.int .i64 a0.Pending), (.int .i64 a0.Every), (.int .i64 a0.Signals)] [], h0x3, hF] (Mem.pick [1, 0, 2, 3] rfl hm31)) hr33) ?_
 rintro e w36 ⟨h34, rfl, H35, hm37⟩
 refine ⟨_, rfl, ?_⟩
 replace hm37 : Mem w0 w36 (cat [h34, sg g29 65 (0, 0) [] [(.int .i64 a0.Size), (.bool a0.Up), v0x2, v0x3, (.int .i64 a0.Lost), (.int .i64 a0.Pending), (.int .i64 a0.Every), (.int .i64 a0.Signals)] [], h0x3, hF]) := Mem.ung [h34] [sg g29 65 (0, 0) [] [(.int .i64 a0.Size), (.bool a0.Up), v0x2, v0x3, (.int .i64 a0.Lost), (.int .i64 a0.Pending), (.int .i64 a0.Every), (.int .i64 a0.Signals)] [], h0x3, hF] hm37
 refine s_val (v := (.int .i64 r33.1)) (won rfl) rfl rfl (x_assign rfl (ev (t := 8) rfl rfl)) ?_
 refine wpList_nil ?_
 refine nx ?_
 refine wp_seq ?_
 obtain ⟨r38, hr38, he⟩ := bindE he
 refine wp_region_lit ?_
 refine s_val (v := (.pointer (some ⟨g29, 3, none⟩))) (won rfl) rfl rfl (x_field rfl fa_65x3 (ev (t := 2) rfl rfl)) ?_
 refine s_val (v := v0x3) (won rfl) rfl rfl (x_load rfl ty1x26 (ev (t := 9) rfl rfl) (seg_cell (o' := 0) (j := 3) hm37 (k := 1) rfl rfl rfl)) ?_
 refine s_val (v := (.int .i64 r33.1)) (won rfl) rfl rfl (x_move rfl (ev (t := 1) rfl rfl)) ?_
 refine s_call (won rfl) rfl rfl (x_call rfl rfl cl_70 (map_lit (map_cons (ev (t := 10) rfl rfl) (map_cons (ev (t := 11) rfl rfl) map_nil)))) (laws_markIntS_ok F (hR := (cat [])) (hF := cat [h34, sg g29 65 (0, 0) [] [(.int .i64 a0.Size), (.bool a0.Up), v0x2, v0x3, (.int .i64 a0.Lost), (.int .i64 a0.Pending), (.int .i64 a0.Every), (.int .i64 a0.Signals)] [], hF]) a0.Done r33.1 H0x3 (Mem.grp [h0x3] [h34, sg g29 65 (0, 0) [] [(.int .i64 a0.Size), (.bool a0.Up), v0x2, v0x3, (.int .i64 a0.Lost), (.int .i64 a0.Pending), (.int .i64 a0.Every), (.int .i64 a0.Signals)] [], hF] (Mem.pick [2, 0, 1, 3] rfl hm37)) hr38) ?_
 rintro e w41 ⟨h39, rfl, H40, hm42⟩
 refine ⟨_, rfl, ?_⟩
 replace hm42 : Mem w0 w41 (cat [h39, h34, sg g29 65 (0, 0) [] [(.int .i64 a0.Size), (.bool a0.Up), v0x2, v0x3, (.int .i64 a0.Lost), (.int .i64 a0.Pending), (.int .i64 a0.Every), (.int .i64 a0.Signals)] [], hF]) := Mem.ung [h39] [h34, sg g29 65 (0, 0) [] [(.int .i64 a0.Size), (.bool a0.Up), v0x2, v0x3, (.int .i64 a0.Lost), (.int .i64 a0.Pending), (.int .i64 a0.Every), (.int .i64 a0.Signals)] [], hF] hm42
 refine s_val (v := (.int .i64 r38.1)) (won rfl) rfl rfl (x_assign rfl (ev (t := 12) rfl rfl)) ?_
 refine wpList_nil ?_
 have hm43 : Mem w0 w41 (cat [h39, h34, hF]) := Mem.pick [0, 1, 3] rfl hm42
 refine nx ?_
 refine wp_seq ?_
 refine wp_region_lit ?_
 refine s_val (v := (.int .i64 r38.1)) (won rfl) rfl rfl (x_move rfl (ev (t := 1) rfl rfl)) ?_
 refine s_val (v := (.int .i64 r38.1)) (won rfl) rfl rfl (x_assign rfl (ev (t := 13) rfl rfl)) ?_
 refine wpList_nil ?_
 refine nx ?_
 refine wp_ret ?_
 obtain rfl := Option.some.inj he
 refine r_ret (v := (.int .i64 r38.1)) (rv_one rfl (RVs.tmp (v := (.int .i64 r38.1)) rfl rfl RVs.nil)) rfl ?_
 exact ⟨h34, h39, rfl, H35, H40, Mem.pick [1, 0, 2] rfl hm43⟩
def laws_markRingReplyS_l1 (F : Nat) : Nat → (List impl_RingReply) → Int → Int → Option ((List impl_RingReply) × Int)
  | 0, _, _, _ => none
  | k + 1, s997, s1001, s1003 => (bif (decide (s1003 < (s997.length : Int))) then gd ((0 : Int) ≤ s1003 ∧ s1003 < (s997.length : Int)) (gd ((0 : Int) ≤ s1003 ∧ s1003 < (s997.length : Int)) ((laws_markIntS F (ix s997 s1003).List (IntKind.wrap .i64 (s1001 + 1))).bind fun r1129 => laws_markRingReplyS_l1 F k (List.set s997 (Int.toNat s1003) (impl_RingReply.mk s1001 r1129.2)) r1129.1 (IntKind.wrap .i64 (s1003 + 1)))) else (some (s997, s1001)))
def laws_markRingReplyS (F : Nat) (a0 : (List impl_RingReply)) (a1 : Int) : Option (Int × (List impl_RingReply)) := (laws_markRingReplyS_l1 F F a0 a1 0 : Option ((List impl_RingReply) × Int)).bind fun (s856 : ((List impl_RingReply) × Int)) => (some (s856.2, s856.1))
set_option maxHeartbeats 400000 in
set_option maxRecDepth 100000 in
theorem laws_markRingReplyS_ok (F : Nat) {w0 w : World} {hR hF : Hp} {v0x0 : Value} {h0x0 : Hp} (a0 : (List impl_RingReply)) (a1 : Int) {r : (Int × (List impl_RingReply))} (H0x0 : OwD 71 impl_RingReply_D v0x0 a0 h0x0) (hm : Mem w0 w (cat [h0x0, hF])) (he : laws_markRingReplyS F a0 a1 = some r) :
    Calls Try.prog 54 #[v0x0, (.int .i64 a1)] w (fun e w' => ∃ (h'0 : Hp), e = .returned (.int .i64 r.1) ∧ OwD 71 impl_RingReply_D v0x0 r.2 h'0 ∧ Mem w0 w' (cat [h'0, hF])) := by
 refine calls_fr (n := 27) Try.func54 rfl rfl rfl ?_
 unfold laws_markRingReplyS at he
 refine wp_seq ?_
 refine wp_region_lit ?_
 refine s_val (v := (.int .i64 0)) (won rfl) rfl rfl (x_assign rfl rfl) ?_
 refine wpList_nil ?_
 refine nx ?_
 obtain ⟨s856, hT858, hk857⟩ := bindE he
 replace he := hT858
 refine wp_seqJ (fun a w => ∃ (h852 : Hp) (f : Nat → Value), a = fr 27 f ∧ f 1 = (.int .i64 s856.2) ∧ OwD 71 impl_RingReply_D v0x0 s856.1 h852 ∧ Mem w0 w (cat [h852, hF])) ?_ ?_
 ·
  refine wp_seq ?_
  refine wp_region_lit ?_
  refine s_val (v := (.int .i64 0)) (won rfl) rfl rfl (x_assign rfl rfl) ?_
  refine wpList_nil ?_
  refine nx ?_
  refine wp_block ?_
  refine wp_fuel (I := fun k => fun a w => ∃ (s997 : (List impl_RingReply)) (s1001 : Int) (s1003 : Int) (h998 : Hp) (f : Nat → Value), laws_markRingReplyS_l1 F k s997 s1001 s1003 = some s856 ∧ a = fr 27 f ∧ f 0 = v0x0 ∧ f 1 = (.int .i64 s1001) ∧ f 5 = (.int .i64 s1003) ∧ OwD 71 impl_RingReply_D v0x0 s997 h998 ∧ Mem w0 w (cat [h998, hF])) F _ _ ⟨a0, a1, 0, h0x0, _, he, rfl, rfl, rfl, rfl, H0x0, Mem.pick [0, 1] rfl hm⟩ ?_ ?_
  ·
   rintro a w ⟨s997, s1001, s1003, h998, f, he, rfl, q1000, q1002, q1004, H999, hm1070⟩
   rw [laws_markRingReplyS_l1] at he; exact none_no he
  ·
   rintro k a w ⟨s997, s1001, s1003, h998, f, he, rfl, q1000, q1002, q1004, H999, hm1072⟩
   rw [laws_markRingReplyS_l1] at he
   refine wp_seq ?_
   refine wp_seq ?_
   refine wp_region_lit ?_
   refine s_val (v := (.int .i64 s1003)) (won rfl) rfl rfl (x_move rfl (ev (t := 5) (v := (.int .i64 s1003)) rfl q1004)) ?_
   refine s_val (v := v0x0) (won rfl) rfl rfl (x_move rfl (ev (t := 0) (v := v0x0) rfl q1000)) ?_
   refine s_val (v := (.int .i64 (s997.length : Int))) (won rfl) rfl rfl (x_len rfl slt_66 (ev (t := 7) rfl rfl) (H999).sl) ?_
   refine s_val (v := (.bool (decide (s1003 < (s997.length : Int))))) (won rfl) rfl rfl (x_lss rfl (ev (t := 6) rfl rfl) (ev (t := 8) rfl rfl)) ?_
   refine wpList_nil ?_
   refine nx ?_
   rcases Bool.eq_false_or_eq_true ((decide (s1003 < (s997.length : Int)))) with hb1074 | hb1074
   ·
    replace he := bifT he hb1074
    refine c_true rfl (p := (decide (s1003 < (s997.length : Int)))) rfl rfl hb1074 ?_
    refine wp_skip ?_
    refine nx ?_
    refine wp_seq ?_
    refine wp_block ?_
    refine wp_seq ?_
    obtain ⟨hg1106, he⟩ := gdE he
    refine wp_region_lit ?_
    refine s_val (v := v0x0) (won rfl) rfl rfl (x_move rfl (ev (t := 0) (v := v0x0) rfl q1000)) ?_
    refine s_val (v := (.int .i64 s1003)) (won rfl) rfl rfl (x_move rfl (ev (t := 5) (v := (.int .i64 s1003)) rfl q1004)) ?_
    refine s_val (v := (.int .i64 s1001)) (won rfl) rfl rfl (x_move rfl (ev (t := 1) (v := (.int .i64 s1001)) rfl q1002)) ?_
    refine s_val (v := (.pointer (some ((slA v0x0).add (Int.toNat s1003 * 2))))) (won rfl) rfl rfl (x_indexD rfl slt_66 (ev (t := 12) rfl rfl) (ev (t := 13) rfl rfl) H999.sl H999.some hg1106.1 hg1106.2) ?_
    refine s_val (v := (.pointer (some (((slA v0x0).add (Int.toNat s1003 * 2)).add 0)))) (won rfl) rfl rfl (x_fielda rfl fa_71x0 (ev (t := 15) rfl rfl)) ?_
    obtain ⟨g1107, fr1108, pre1109, cs1110, post1111, hx1112, hr1113, ha1114, how1115, hm1116, hw1117⟩ := OwD.focus (d := impl_RingReply_D) (i := s1003) H999 hg1106.1 hg1106.2 (k := 0) rfl hm1072
    obtain ⟨v1118, h1119, e1121, H1120, e1122⟩ := impl_RingReply_Kown how1115
    subst e1121; subst e1122
    have hm1125 : Mem w0 w (cat [sg g1107 71 fr1108 pre1109 [(.int .i64 (ix s997 s1003).Code), v1118] post1111, h1119, hr1113, hF]) := Mem.eqv (by simp only [cat, List.set_cons_zero, List.set_cons_succ, List.append_assoc, List.append_nil, List.nil_append]) hm1116
    refine s_exs (won rfl) rfl (e_store (vs := [(.int .i64 s1001)]) (o' := pre1109.length) (j := 0) rfl sz_3 ((ev (t := 16) rfl rfl).trans (congrArg (fun a => Value.pointer (some a)) ((congrArg (fun a => Addr.add a 0) ha1114).trans (add_lit _ _ _)))) (ev (t := 14) rfl rfl) rfl rfl hm1125 (k := 0) rfl rfl rfl) ?_
    intro w1126 hm1127
    replace hm1127 : Mem w0 w1126 (cat [sg g1107 71 fr1108 pre1109 [(.int .i64 s1001), v1118] post1111, h1119, hr1113, hF]) := hm1127
    refine wpList_nil ?_
    refine nx ?_
    refine wp_seq ?_
    refine wp_region_lit ?_
    refine s_val (v := (.int .i64 s1001)) (won rfl) rfl rfl (x_move rfl (ev (t := 1) (v := (.int .i64 s1001)) rfl q1002)) ?_
    refine s_val (v := (.int .i64 (IntKind.wrap .i64 (s1001 + 1)))) (won rfl) rfl rfl (x_add rfl (ev (t := 17) rfl rfl) rfl) ?_
    refine s_val (v := (.int .i64 (IntKind.wrap .i64 (s1001 + 1)))) (won rfl) rfl rfl (x_assign rfl (ev (t := 18) rfl rfl)) ?_
    refine wpList_nil ?_
    refine nx ?_
    obtain ⟨hg1128, he⟩ := gdE he
    obtain ⟨r1129, hr1129, he⟩ := bindE he
    refine wp_region_lit ?_
    refine s_val (v := v0x0) (won rfl) rfl rfl (x_move rfl (ev (t := 0) (v := v0x0) rfl q1000)) ?_
    refine s_val (v := (.int .i64 s1003)) (won rfl) rfl rfl (x_move rfl (ev (t := 5) (v := (.int .i64 s1003)) rfl q1004)) ?_
    refine s_val (v := (.pointer (some ((slA v0x0).add (Int.toNat s1003 * 2))))) (won rfl) rfl rfl (x_indexD rfl slt_66 (ev (t := 19) rfl rfl) (ev (t := 20) rfl rfl) H999.sl H999.some hg1128.1 hg1128.2) ?_
    refine s_val (v := (.pointer (some (((slA v0x0).add (Int.toNat s1003 * 2)).add 1)))) (won rfl) rfl rfl (x_fielda rfl fa_71x1 (ev (t := 21) rfl rfl)) ?_
    refine s_val (v := v1118) (won rfl) rfl rfl (x_load rfl ty1x26 ((ev (t := 22) rfl rfl).trans (congrArg (fun a => Value.pointer (some a)) ((congrArg (fun a => Addr.add a 1) ha1114).trans (add_lit _ _ _)))) (seg_cell (o' := pre1109.length) (j := 1) hm1127 (k := 0) rfl rfl rfl)) ?_
    refine s_val (v := (.int .i64 (IntKind.wrap .i64 (s1001 + 1)))) (won rfl) rfl rfl (x_move rfl (ev (t := 1) rfl rfl)) ?_
    refine s_call (won rfl) rfl rfl (x_call rfl rfl cl_70 (map_lit (map_cons (ev (t := 23) rfl rfl) (map_cons (ev (t := 24) rfl rfl) map_nil)))) (laws_markIntS_ok F (hR := (cat [])) (hF := cat [sg g1107 71 fr1108 pre1109 [(.int .i64 s1001), v1118] post1111, hr1113, hF]) (ix s997 s1003).List (IntKind.wrap .i64 (s1001 + 1)) H1120 (Mem.grp [h1119] [sg g1107 71 fr1108 pre1109 [(.int .i64 s1001), v1118] post1111, hr1113, hF] (Mem.pick [1, 0, 2, 3] rfl hm1127)) hr1129) ?_
    rintro e w1132 ⟨h1130, rfl, H1131, hm1133⟩
    refine ⟨_, rfl, ?_⟩
    replace hm1133 : Mem w0 w1132 (cat [h1130, sg g1107 71 fr1108 pre1109 [(.int .i64 s1001), v1118] post1111, hr1113, hF]) := Mem.ung [h1130] [sg g1107 71 fr1108 pre1109 [(.int .i64 s1001), v1118] post1111, hr1113, hF] hm1133
    refine s_val (v := (.int .i64 r1129.1)) (won rfl) rfl rfl (x_assign rfl (ev (t := 25) rfl rfl)) ?_
    refine wpList_nil ?_
    refine nb ?_
    refine nx ?_
    refine wp_region_lit ?_
    refine s_val (v := (.int .i64 s1003)) (won rfl) rfl rfl (x_move rfl (ev (t := 5) (v := (.int .i64 s1003)) rfl q1004)) ?_
    refine s_val (v := (.int .i64 (IntKind.wrap .i64 (s1003 + 1)))) (won rfl) rfl rfl (x_add rfl (ev (t := 10) rfl rfl) rfl) ?_
    refine s_val (v := (.int .i64 (IntKind.wrap .i64 (s1003 + 1)))) (won rfl) rfl rfl (x_assign rfl (ev (t := 11) rfl rfl)) ?_
    refine wpList_nil ?_
    refine nx ?_
    have H1134 : OwD 71 impl_RingReply_D v0x0 (List.set s997 (Int.toNat s1003) (impl_RingReply.mk s1001 r1129.2)) (cat [sg g1107 71 fr1108 pre1109 [(.int .i64 s1001), v1118] post1111, (cat [h1130]), hr1113]) := hw1117 _ _ _ (impl_RingReply_Kmk ⟨v1118, h1130, rfl, H1131, rfl⟩)
    have hm1136 : Mem w0 w1132 (cat [sg g1107 71 fr1108 pre1109 [(.int .i64 s1001), v1118] post1111, h1130, hr1113, hF]) := Mem.pick [1, 0, 2, 3] rfl hm1133
    have hm1135 : Mem w0 w1132 (cat ((cat [sg g1107 71 fr1108 pre1109 [(.int .i64 s1001), v1118] post1111, (cat [h1130]), hr1113]) :: [hF])) := Mem.eqv (by simp only [cat, List.append_assoc, List.append_nil, List.nil_append]) hm1136
    exact ⟨(List.set s997 (Int.toNat s1003) (impl_RingReply.mk s1001 r1129.2)), r1129.1, (IntKind.wrap .i64 (s1003 + 1)), (cat [sg g1107 71 fr1108 pre1109 [(.int .i64 s1001), v1118] post1111, (cat [h1130]), hr1113]), _, he, rfl, q1000, rfl, rfl, H1134, Mem.pick [0, 1] rfl hm1135⟩
   ·
    replace he := bifF he hb1074
    refine c_false rfl (p := (decide (s1003 < (s997.length : Int)))) rfl rfl hb1074 ?_
    refine wp_exit ?_
    refine xs ?_
    refine xs ?_
    refine xb ?_
    refine nx ?_
    obtain rfl := Option.some.inj he
    exact ⟨h998, _, rfl, q1002, H999, Mem.pick [0, 1] rfl hm1072⟩
 ·
  rintro a w ⟨h852, f, rfl, q855, H853, hm1138⟩
  replace he := hk857
  refine wp_seq ?_
  refine wp_region_lit ?_
  refine s_val (v := (.int .i64 s856.2)) (won rfl) rfl rfl (x_move rfl (ev (t := 1) (v := (.int .i64 s856.2)) rfl q855)) ?_
  refine s_val (v := (.int .i64 s856.2)) (won rfl) rfl rfl (x_assign rfl (ev (t := 26) rfl rfl)) ?_
  refine wpList_nil ?_
  refine nx ?_
  refine wp_ret ?_
  obtain rfl := Option.some.inj he
  refine r_ret (v := (.int .i64 s856.2)) (rv_one rfl (RVs.tmp (v := (.int .i64 s856.2)) rfl rfl RVs.nil)) rfl ?_
  exact ⟨h852, rfl, H853, Mem.pick [0, 1] rfl hm1138⟩
def laws_heldIntS_l1 (F : Nat) (a0 : (List Int)) : Nat → Int → Int → Option (Fl (Int) (Int))
  | 0, _, _ => none
  | k + 1, s155, s157 => (bif (decide (s157 < (a0.length : Int))) then gd ((0 : Int) ≤ s157 ∧ s157 < (a0.length : Int)) ((bif (!decide ((ix a0 s157) = s155)) then (some (Fl.out (-1))) else laws_heldIntS_l1 F a0 k (IntKind.wrap .i64 (s155 + 1)) (IntKind.wrap .i64 (s157 + 1)))) else (some (Fl.go s155)))
def laws_heldIntS (F : Nat) (a0 : (List Int)) (a1 : Int) : Option (Int) := (laws_heldIntS_l1 F a0 F a1 0 : Option (Fl (Int) (Int))).bind fun l138 => l138.on fun (s137 : (Int)) => (some s137)
set_option maxHeartbeats 400000 in
set_option maxRecDepth 100000 in
theorem laws_heldIntS_ok (F : Nat) {w0 w : World} {hR hF : Hp} {v0x0 : Value} (a0 : (List Int)) (a1 : Int) {r : (Int)} (H0x0 : RdF w0 (FK.int .i64) v0x0 a0 hR) (hs : Sub hR hF) (hm : Mem w0 w (cat [hF])) (he : laws_heldIntS F a0 a1 = some r) :
    Calls Try.prog 71 #[v0x0, (.int .i64 a1)] w (fun e w' => e = .returned (.int .i64 r) ∧ Mem w0 w' (cat [hF])) := by
 refine calls_fr (n := 21) Try.func71 rfl rfl rfl ?_
 unfold laws_heldIntS at he
 refine wp_seq ?_
 refine wp_region_lit ?_
 refine s_val (v := (.int .i64 0)) (won rfl) rfl rfl (x_assign rfl rfl) ?_
 refine wpList_nil ?_
 refine nx ?_
 obtain ⟨l138, hT140, hk139⟩ := bindE he
 replace he := hT140
 refine wp_seqJ (fun a w => ∃ (s137 : (Int)) (f : Nat → Value), l138 = Fl.go s137 ∧ a = fr 21 f ∧ f 1 = (.int .i64 s137) ∧ Mem w0 w (cat [hF])) ?_ ?_
 ·
  refine wp_seq ?_
  refine wp_region_lit ?_
  refine s_val (v := (.int .i64 0)) (won rfl) rfl rfl (x_assign rfl rfl) ?_
  refine wpList_nil ?_
  refine nx ?_
  refine wp_block ?_
  refine wp_fuel (I := fun k => fun a w => ∃ (s155 : Int) (s157 : Int) (f : Nat → Value), laws_heldIntS_l1 F a0 k s155 s157 = some l138 ∧ a = fr 21 f ∧ f 0 = v0x0 ∧ f 1 = (.int .i64 s155) ∧ f 5 = (.int .i64 s157) ∧ Mem w0 w (cat [hF])) F _ _ ⟨a1, 0, _, he, rfl, rfl, rfl, rfl, Mem.pick [0] rfl hm⟩ ?_ ?_
  ·
   rintro a w ⟨s155, s157, f, he, rfl, q154, q156, q158, hm170⟩
   rw [laws_heldIntS_l1] at he; exact none_no he
  ·
   rintro k a w ⟨s155, s157, f, he, rfl, q154, q156, q158, hm172⟩
   rw [laws_heldIntS_l1] at he
   refine wp_seq ?_
   refine wp_seq ?_
   refine wp_region_lit ?_
   refine s_val (v := (.int .i64 s157)) (won rfl) rfl rfl (x_move rfl (ev (t := 5) (v := (.int .i64 s157)) rfl q158)) ?_
   refine s_val (v := v0x0) (won rfl) rfl rfl (x_move rfl (ev (t := 0) (v := v0x0) rfl q154)) ?_
   refine s_val (v := (.int .i64 (a0.length : Int))) (won rfl) rfl rfl (x_len rfl slt_26 (ev (t := 7) rfl rfl) (H0x0).sl) ?_
   refine s_val (v := (.bool (decide (s157 < (a0.length : Int))))) (won rfl) rfl rfl (x_lss rfl (ev (t := 6) rfl rfl) (ev (t := 8) rfl rfl)) ?_
   refine wpList_nil ?_
   refine nx ?_
   rcases Bool.eq_false_or_eq_true ((decide (s157 < (a0.length : Int)))) with hb174 | hb174
   ·
    replace he := bifT he hb174
    refine c_true rfl (p := (decide (s157 < (a0.length : Int)))) rfl rfl hb174 ?_
    refine wp_skip ?_
    refine nx ?_
    refine wp_seq ?_
    refine wp_block ?_
    refine wp_seq ?_
    refine wp_seq ?_
    obtain ⟨hg181, he⟩ := gdE he
    refine wp_region_lit ?_
    refine s_val (v := v0x0) (won rfl) rfl rfl (x_move rfl (ev (t := 0) (v := v0x0) rfl q154)) ?_
    refine s_val (v := (.int .i64 s157)) (won rfl) rfl rfl (x_move rfl (ev (t := 5) (v := (.int .i64 s157)) rfl q158)) ?_
    refine s_val (v := (.pointer (some ((slA v0x0).add (Int.toNat s157 * 1))))) (won rfl) rfl rfl (x_index (d := (FK.int .i64)) rfl slt_26 (ev (t := 12) rfl rfl) (ev (t := 13) rfl rfl) H0x0 hg181.1 hg181.2) ?_
    refine s_val (v := (.int .i64 (ix a0 s157))) (won rfl) rfl rfl (x_load rfl ty1x3 (ev (t := 14) rfl rfl) (RdF.cell0 H0x0 hm172 (Sub.trans hs (Sub.at_ (k := 0) rfl)) hg181.1 hg181.2 rfl)) ?_
    refine s_val (v := (.int .i64 s155)) (won rfl) rfl rfl (x_move rfl (ev (t := 1) (v := (.int .i64 s155)) rfl q156)) ?_
    refine s_val (v := (.bool (!decide ((ix a0 s157) = s155)))) (won rfl) rfl rfl (x_neq rfl (ev (t := 15) rfl rfl) (ev (t := 16) rfl rfl)) ?_
    refine wpList_nil ?_
    refine nx ?_
    rcases Bool.eq_false_or_eq_true ((!decide ((ix a0 s157) = s155))) with hb182 | hb182
    ·
     replace he := bifT he hb182
     refine c_true rfl (p := (!decide ((ix a0 s157) = s155))) rfl rfl hb182 ?_
     refine wp_seq ?_
     refine wp_region_lit ?_
     refine s_val (v := (.int .i64 (-1))) (won rfl) rfl rfl (x_assign rfl rfl) ?_
     refine wpList_nil ?_
     refine nx ?_
     refine wp_ret ?_
     refine xr ?_
     refine rb ?_
     refine xr ?_
     refine xr ?_
     refine rb ?_
     refine xr ?_
     obtain rfl := Option.some.inj he
     replace he := outE hk139
     obtain rfl := Option.some.inj he
     refine r_ret (v := (.int .i64 (-1))) (rv_one rfl (RVs.tmp (v := (.int .i64 (-1))) rfl rfl RVs.nil)) rfl ?_
     exact ⟨rfl, Mem.pick [0] rfl hm172⟩
    ·
     replace he := bifF he hb182
     refine c_false rfl (p := (!decide ((ix a0 s157) = s155))) rfl rfl hb182 ?_
     refine wp_skip ?_
     refine nx ?_
     refine wp_region_lit ?_
     refine s_val (v := (.int .i64 s155)) (won rfl) rfl rfl (x_move rfl (ev (t := 1) (v := (.int .i64 s155)) rfl q156)) ?_
     refine s_val (v := (.int .i64 (IntKind.wrap .i64 (s155 + 1)))) (won rfl) rfl rfl (x_add rfl (ev (t := 18) rfl rfl) rfl) ?_
     refine s_val (v := (.int .i64 (IntKind.wrap .i64 (s155 + 1)))) (won rfl) rfl rfl (x_assign rfl (ev (t := 19) rfl rfl)) ?_
     refine wpList_nil ?_
     refine nb ?_
     refine nx ?_
     refine wp_region_lit ?_
     refine s_val (v := (.int .i64 s157)) (won rfl) rfl rfl (x_move rfl (ev (t := 5) (v := (.int .i64 s157)) rfl q158)) ?_
     refine s_val (v := (.int .i64 (IntKind.wrap .i64 (s157 + 1)))) (won rfl) rfl rfl (x_add rfl (ev (t := 10) rfl rfl) rfl) ?_
     refine s_val (v := (.int .i64 (IntKind.wrap .i64 (s157 + 1)))) (won rfl) rfl rfl (x_assign rfl (ev (t := 11) rfl rfl)) ?_
     refine wpList_nil ?_
     refine nx ?_
     exact ⟨(IntKind.wrap .i64 (s155 + 1)), (IntKind.wrap .i64 (s157 + 1)), _, he, rfl, q154, rfl, rfl, Mem.pick [0] rfl hm172⟩
   ·
    replace he := bifF he hb174
    refine c_false rfl (p := (decide (s157 < (a0.length : Int)))) rfl rfl hb174 ?_
    refine wp_exit ?_
    refine xs ?_
    refine xs ?_
    refine xb ?_
    refine nx ?_
    obtain rfl := Option.some.inj he
    exact ⟨s155, _, rfl, rfl, q156, Mem.pick [0] rfl hm172⟩
 ·
  rintro a w ⟨s137, f, rfl, rfl, q136, hm184⟩
  replace he := goE hk139
  refine wp_seq ?_
  refine wp_region_lit ?_
  refine s_val (v := (.int .i64 s137)) (won rfl) rfl rfl (x_move rfl (ev (t := 1) (v := (.int .i64 s137)) rfl q136)) ?_
  refine s_val (v := (.int .i64 s137)) (won rfl) rfl rfl (x_assign rfl (ev (t := 20) rfl rfl)) ?_
  refine wpList_nil ?_
  refine nx ?_
  refine wp_ret ?_
  obtain rfl := Option.some.inj he
  refine r_ret (v := (.int .i64 s137)) (rv_one rfl (RVs.tmp (v := (.int .i64 s137)) rfl rfl RVs.nil)) rfl ?_
  exact ⟨rfl, Mem.pick [0] rfl hm184⟩
def laws_heldRing (F : Nat) (a0 : impl_Ring) (a1 : Int) : Option (Int) := (laws_heldIntS F a0.Posted a1).bind fun r22 => (bif (decide (r22 < 0)) then (some (-1)) else (laws_heldIntS F a0.Done r22).bind fun r29 => (bif (decide (r29 < 0)) then (some (-1)) else (some r29)))
set_option maxHeartbeats 400000 in
set_option maxRecDepth 100000 in
theorem laws_heldRing_ok (F : Nat) {w0 w : World} {hR hF : Hp} {v0x2 : Value} {v0x3 : Value} (a0 : impl_Ring) (a1 : Int) {r : (Int)} (H0x2 : RdF w0 (FK.int .i64) v0x2 a0.Posted hR) (H0x3 : RdF w0 (FK.int .i64) v0x3 a0.Done hR) (hs : Sub hR hF) (hm : Mem w0 w (cat [hF])) (he : laws_heldRing F a0 a1 = some r) :
    Calls Try.prog 47 #[(.agg #[(.int .i64 a0.Size), (.bool a0.Up), v0x2, v0x3, (.int .i64 a0.Lost), (.int .i64 a0.Pending), (.int .i64 a0.Every), (.int .i64 a0.Signals)]), (.int .i64 a1)] w (fun e w' => e = .returned (.int .i64 r) ∧ Mem w0 w' (cat [hF])) := by
 refine calls_fr (n := 18) Try.func47 rfl rfl rfl ?_
 unfold laws_heldRing at he
 refine wp_seq ?_
 refine wp_region_lit ?_
 refine s_exv (won rfl) rfl rfl (e_box (vs := [(.int .i64 a0.Size), (.bool a0.Up), v0x2, v0x3, (.int .i64 a0.Lost), (.int .i64 a0.Pending), (.int .i64 a0.Every), (.int .i64 a0.Signals)]) rfl (ev (t := 0) rfl rfl) rfl hm) ?_
 rintro g18 w19 hm20
 refine s_val (v := (.int .i64 0)) (won rfl) rfl rfl (x_assign rfl rfl) ?_
 refine wpList_nil ?_
 refine nx ?_
 refine wp_seq ?_
 obtain ⟨r22, hr22, he⟩ := bindE he
 refine wp_region_lit ?_
 refine s_val (v := (.pointer (some ⟨g18, 2, none⟩))) (won rfl) rfl rfl (x_field rfl fa_65x2 (ev (t := 2) rfl rfl)) ?_
 refine s_val (v := v0x2) (won rfl) rfl rfl (x_load rfl ty1x26 (ev (t := 5) rfl rfl) (seg_cell (o' := 0) (j := 2) hm20 (k := 0) rfl rfl rfl)) ?_
 refine s_val (v := (.int .i64 a1)) (won rfl) rfl rfl (x_move rfl (ev (t := 1) rfl rfl)) ?_
 refine s_call (won rfl) rfl rfl (x_call rfl rfl cl_71 (map_lit (map_cons (ev (t := 6) rfl rfl) (map_cons (ev (t := 7) rfl rfl) map_nil)))) (laws_heldIntS_ok F (hR := (cat [hR])) (hF := cat [sg g18 65 (0, 0) [] [(.int .i64 a0.Size), (.bool a0.Up), v0x2, v0x3, (.int .i64 a0.Lost), (.int .i64 a0.Pending), (.int .i64 a0.Every), (.int .i64 a0.Signals)] [], hF]) a0.Posted a1 (H0x2.mono (Sub.at_ (k := 0) rfl)) (subc (Sub.trans hs (Sub.at_ (k := 1) rfl)) subn) (Mem.one hm20) hr22) ?_
 rintro e w23 ⟨rfl, hm24⟩
 refine ⟨_, rfl, ?_⟩
 replace hm24 : Mem w0 w23 (cat [sg g18 65 (0, 0) [] [(.int .i64 a0.Size), (.bool a0.Up), v0x2, v0x3, (.int .i64 a0.Lost), (.int .i64 a0.Pending), (.int .i64 a0.Every), (.int .i64 a0.Signals)] [], hF]) := Mem.un hm24
 refine s_val (v := (.int .i64 r22)) (won rfl) rfl rfl (x_assign rfl (ev (t := 8) rfl rfl)) ?_
 refine wpList_nil ?_
 refine nx ?_
 refine wp_seq ?_
 refine wp_seq ?_
 refine wp_region_lit ?_
 refine s_val (v := (.int .i64 r22)) (won rfl) rfl rfl (x_move rfl (ev (t := 1) rfl rfl)) ?_
 refine s_val (v := (.bool (decide (r22 < 0)))) (won rfl) rfl rfl (x_lss rfl (ev (t := 9) rfl rfl) rfl) ?_
 refine wpList_nil ?_
 refine nx ?_
 rcases Bool.eq_false_or_eq_true ((decide (r22 < 0))) with hb27 | hb27
 ·
  replace he := bifT he hb27
  refine c_true rfl (p := (decide (r22 < 0))) rfl rfl hb27 ?_
  refine wp_seq ?_
  refine wp_region_lit ?_
  refine s_val (v := (.int .i64 (-1))) (won rfl) rfl rfl (x_assign rfl rfl) ?_
  refine wpList_nil ?_
  have hm28 : Mem w0 w23 (cat [hF]) := Mem.pick [1] rfl hm24
  refine nx ?_
  refine wp_ret ?_
  refine xr ?_
  obtain rfl := Option.some.inj he
  refine r_ret (v := (.int .i64 (-1))) (rv_one rfl (RVs.tmp (v := (.int .i64 (-1))) rfl rfl RVs.nil)) rfl ?_
  exact ⟨rfl, Mem.pick [0] rfl hm28⟩
 ·
  replace he := bifF he hb27
  refine c_false rfl (p := (decide (r22 < 0))) rfl rfl hb27 ?_
  refine wp_skip ?_
  refine nx ?_
  refine wp_seq ?_
  obtain ⟨r29, hr29, he⟩ := bindE he
  refine wp_region_lit ?_
  refine s_val (v := (.pointer (some ⟨g18, 3, none⟩))) (won rfl) rfl rfl (x_field rfl fa_65x3 (ev (t := 2) rfl rfl)) ?_
  refine s_val (v := v0x3) (won rfl) rfl rfl (x_load rfl ty1x26 (ev (t := 11) rfl rfl) (seg_cell (o' := 0) (j := 3) hm24 (k := 0) rfl rfl rfl)) ?_
  refine s_val (v := (.int .i64 r22)) (won rfl) rfl rfl (x_move rfl (ev (t := 1) rfl rfl)) ?_
  refine s_call (won rfl) rfl rfl (x_call rfl rfl cl_71 (map_lit (map_cons (ev (t := 12) rfl rfl) (map_cons (ev (t := 13) rfl rfl) map_nil)))) (laws_heldIntS_ok F (hR := (cat [hR])) (hF := cat [sg g18 65 (0, 0) [] [(.int .i64 a0.Size), (.bool a0.Up), v0x2, v0x3, (.int .i64 a0.Lost), (.int .i64 a0.Pending), (.int .i64 a0.Every), (.int .i64 a0.Signals)] [], hF]) a0.Done r22 (H0x3.mono (Sub.at_ (k := 0) rfl)) (subc (Sub.trans hs (Sub.at_ (k := 1) rfl)) subn) (Mem.one hm24) hr29) ?_
  rintro e w30 ⟨rfl, hm31⟩
  refine ⟨_, rfl, ?_⟩
  replace hm31 : Mem w0 w30 (cat [sg g18 65 (0, 0) [] [(.int .i64 a0.Size), (.bool a0.Up), v0x2, v0x3, (.int .i64 a0.Lost), (.int .i64 a0.Pending), (.int .i64 a0.Every), (.int .i64 a0.Signals)] [], hF]) := Mem.un hm31
  refine s_val (v := (.int .i64 r29)) (won rfl) rfl rfl (x_assign rfl (ev (t := 14) rfl rfl)) ?_
  refine wpList_nil ?_
  have hm32 : Mem w0 w30 (cat [hF]) := Mem.pick [1] rfl hm31
  refine nx ?_
  refine wp_seq ?_
  refine wp_seq ?_
  refine wp_region_lit ?_
  refine s_val (v := (.int .i64 r29)) (won rfl) rfl rfl (x_move rfl (ev (t := 1) rfl rfl)) ?_
  refine s_val (v := (.bool (decide (r29 < 0)))) (won rfl) rfl rfl (x_lss rfl (ev (t := 15) rfl rfl) rfl) ?_
  refine wpList_nil ?_
  refine nx ?_
  rcases Bool.eq_false_or_eq_true ((decide (r29 < 0))) with hb34 | hb34
  ·
   replace he := bifT he hb34
   refine c_true rfl (p := (decide (r29 < 0))) rfl rfl hb34 ?_
   refine wp_seq ?_
   refine wp_region_lit ?_
   refine s_val (v := (.int .i64 (-1))) (won rfl) rfl rfl (x_assign rfl rfl) ?_
   refine wpList_nil ?_
   refine nx ?_
   refine wp_ret ?_
   refine xr ?_
   obtain rfl := Option.some.inj he
   refine r_ret (v := (.int .i64 (-1))) (rv_one rfl (RVs.tmp (v := (.int .i64 (-1))) rfl rfl RVs.nil)) rfl ?_
   exact ⟨rfl, Mem.pick [0] rfl hm32⟩
  ·
   replace he := bifF he hb34
   refine c_false rfl (p := (decide (r29 < 0))) rfl rfl hb34 ?_
   refine wp_skip ?_
   refine nx ?_
   refine wp_seq ?_
   refine wp_region_lit ?_
   refine s_val (v := (.int .i64 r29)) (won rfl) rfl rfl (x_move rfl (ev (t := 1) rfl rfl)) ?_
   refine s_val (v := (.int .i64 r29)) (won rfl) rfl rfl (x_assign rfl (ev (t := 17) rfl rfl)) ?_
   refine wpList_nil ?_
   refine nx ?_
   refine wp_ret ?_
   obtain rfl := Option.some.inj he
   refine r_ret (v := (.int .i64 r29)) (rv_one rfl (RVs.tmp (v := (.int .i64 r29)) rfl rfl RVs.nil)) rfl ?_
   exact ⟨rfl, Mem.pick [0] rfl hm32⟩
def laws_heldRingReplyS_l1 (F : Nat) (a0 : (List impl_RingReply)) : Nat → Int → Int → Option (Fl (Int) (Int))
  | 0, _, _ => none
  | k + 1, s495, s497 => (bif (decide (s497 < (a0.length : Int))) then gd ((0 : Int) ≤ s497 ∧ s497 < (a0.length : Int)) ((bif (!decide ((ix a0 s497).Code = s495)) then (some (Fl.out (-1))) else gd ((0 : Int) ≤ s497 ∧ s497 < (a0.length : Int)) ((laws_heldIntS F (ix a0 s497).List (IntKind.wrap .i64 (s495 + 1))).bind fun r587 => (bif (decide (r587 < 0)) then (some (Fl.out (-1))) else laws_heldRingReplyS_l1 F a0 k r587 (IntKind.wrap .i64 (s497 + 1)))))) else (some (Fl.go s495)))
def laws_heldRingReplyS (F : Nat) (a0 : (List impl_RingReply)) (a1 : Int) : Option (Int) := (laws_heldRingReplyS_l1 F a0 F a1 0 : Option (Fl (Int) (Int))).bind fun l444 => l444.on fun (s443 : (Int)) => (some s443)
set_option maxHeartbeats 400000 in
set_option maxRecDepth 100000 in
theorem laws_heldRingReplyS_ok (F : Nat) {w0 w : World} {hR hF : Hp} {v0x0 : Value} (a0 : (List impl_RingReply)) (a1 : Int) {r : (Int)} (H0x0 : RdD w0 impl_RingReply_D v0x0 a0 hR) (hs : Sub hR hF) (hm : Mem w0 w (cat [hF])) (he : laws_heldRingReplyS F a0 a1 = some r) :
    Calls Try.prog 55 #[v0x0, (.int .i64 a1)] w (fun e w' => e = .returned (.int .i64 r) ∧ Mem w0 w' (cat [hF])) := by
 refine calls_fr (n := 31) Try.func55 rfl rfl rfl ?_
 unfold laws_heldRingReplyS at he
 refine wp_seq ?_
 refine wp_region_lit ?_
 refine s_val (v := (.int .i64 0)) (won rfl) rfl rfl (x_assign rfl rfl) ?_
 refine wpList_nil ?_
 refine nx ?_
 obtain ⟨l444, hT446, hk445⟩ := bindE he
 replace he := hT446
 refine wp_seqJ (fun a w => ∃ (s443 : (Int)) (f : Nat → Value), l444 = Fl.go s443 ∧ a = fr 31 f ∧ f 1 = (.int .i64 s443) ∧ Mem w0 w (cat [hF])) ?_ ?_
 ·
  refine wp_seq ?_
  refine wp_region_lit ?_
  refine s_val (v := (.int .i64 0)) (won rfl) rfl rfl (x_assign rfl rfl) ?_
  refine wpList_nil ?_
  refine nx ?_
  refine wp_block ?_
  refine wp_fuel (I := fun k => fun a w => ∃ (s495 : Int) (s497 : Int) (f : Nat → Value), laws_heldRingReplyS_l1 F a0 k s495 s497 = some l444 ∧ a = fr 31 f ∧ f 0 = v0x0 ∧ f 1 = (.int .i64 s495) ∧ f 5 = (.int .i64 s497) ∧ Mem w0 w (cat [hF])) F _ _ ⟨a1, 0, _, he, rfl, rfl, rfl, rfl, Mem.pick [0] rfl hm⟩ ?_ ?_
  ·
   rintro a w ⟨s495, s497, f, he, rfl, q494, q496, q498, hm544⟩
   rw [laws_heldRingReplyS_l1] at he; exact none_no he
  ·
   rintro k a w ⟨s495, s497, f, he, rfl, q494, q496, q498, hm546⟩
   rw [laws_heldRingReplyS_l1] at he
   refine wp_seq ?_
   refine wp_seq ?_
   refine wp_region_lit ?_
   refine s_val (v := (.int .i64 s497)) (won rfl) rfl rfl (x_move rfl (ev (t := 5) (v := (.int .i64 s497)) rfl q498)) ?_
   refine s_val (v := v0x0) (won rfl) rfl rfl (x_move rfl (ev (t := 0) (v := v0x0) rfl q494)) ?_
   refine s_val (v := (.int .i64 (a0.length : Int))) (won rfl) rfl rfl (x_len rfl slt_66 (ev (t := 7) rfl rfl) (H0x0).sl) ?_
   refine s_val (v := (.bool (decide (s497 < (a0.length : Int))))) (won rfl) rfl rfl (x_lss rfl (ev (t := 6) rfl rfl) (ev (t := 8) rfl rfl)) ?_
   refine wpList_nil ?_
   refine nx ?_
   rcases Bool.eq_false_or_eq_true ((decide (s497 < (a0.length : Int)))) with hb548 | hb548
   ·
    replace he := bifT he hb548
    refine c_true rfl (p := (decide (s497 < (a0.length : Int)))) rfl rfl hb548 ?_
    refine wp_skip ?_
    refine nx ?_
    refine wp_seq ?_
    refine wp_block ?_
    refine wp_seq ?_
    refine wp_seq ?_
    obtain ⟨hg576, he⟩ := gdE he
    obtain ⟨cs577, hq578, hc579⟩ := RdD.get H0x0 hg576.1 hg576.2
    replace hq578 := impl_RingReply_Kget hq578
    refine wp_region_lit ?_
    refine s_val (v := v0x0) (won rfl) rfl rfl (x_move rfl (ev (t := 0) (v := v0x0) rfl q494)) ?_
    refine s_val (v := (.int .i64 s497)) (won rfl) rfl rfl (x_move rfl (ev (t := 5) (v := (.int .i64 s497)) rfl q498)) ?_
    refine s_val (v := (.pointer (some ((slA v0x0).add (Int.toNat s497 * 2))))) (won rfl) rfl rfl (x_indexD rfl slt_66 (ev (t := 12) rfl rfl) (ev (t := 13) rfl rfl) H0x0.sl H0x0.some hg576.1 hg576.2) ?_
    refine s_val (v := (.pointer (some (((slA v0x0).add (Int.toNat s497 * 2)).add 0)))) (won rfl) rfl rfl (x_fielda rfl fa_71x0 (ev (t := 14) rfl rfl)) ?_
    refine s_val (v := (.int .i64 (ix a0 s497).Code)) (won rfl) rfl rfl (x_load rfl ty1x3 (ev (t := 15) rfl rfl) (ci_cell (o := 0) hc579 (by rw [hq578.1]; rfl) hm546 (Sub.trans hs (Sub.at_ (k := 0) rfl)))) ?_
    refine s_val (v := (.int .i64 s495)) (won rfl) rfl rfl (x_move rfl (ev (t := 1) (v := (.int .i64 s495)) rfl q496)) ?_
    refine s_val (v := (.bool (!decide ((ix a0 s497).Code = s495)))) (won rfl) rfl rfl (x_neq rfl (ev (t := 16) rfl rfl) (ev (t := 17) rfl rfl)) ?_
    refine wpList_nil ?_
    refine nx ?_
    rcases Bool.eq_false_or_eq_true ((!decide ((ix a0 s497).Code = s495))) with hb581 | hb581
    ·
     replace he := bifT he hb581
     refine c_true rfl (p := (!decide ((ix a0 s497).Code = s495))) rfl rfl hb581 ?_
     refine wp_seq ?_
     refine wp_region_lit ?_
     refine s_val (v := (.int .i64 (-1))) (won rfl) rfl rfl (x_assign rfl rfl) ?_
     refine wpList_nil ?_
     refine nx ?_
     refine wp_ret ?_
     refine xr ?_
     refine rb ?_
     refine xr ?_
     refine xr ?_
     refine rb ?_
     refine xr ?_
     obtain rfl := Option.some.inj he
     replace he := outE hk445
     obtain rfl := Option.some.inj he
     refine r_ret (v := (.int .i64 (-1))) (rv_one rfl (RVs.tmp (v := (.int .i64 (-1))) rfl rfl RVs.nil)) rfl ?_
     exact ⟨rfl, Mem.pick [0] rfl hm546⟩
    ·
     replace he := bifF he hb581
     refine c_false rfl (p := (!decide ((ix a0 s497).Code = s495))) rfl rfl hb581 ?_
     refine wp_skip ?_
     refine nx ?_
     refine wp_seq ?_
     refine wp_region_lit ?_
     refine s_val (v := (.int .i64 s495)) (won rfl) rfl rfl (x_move rfl (ev (t := 1) (v := (.int .i64 s495)) rfl q496)) ?_
     refine s_val (v := (.int .i64 (IntKind.wrap .i64 (s495 + 1)))) (won rfl) rfl rfl (x_add rfl (ev (t := 19) rfl rfl) rfl) ?_
     refine s_val (v := (.int .i64 (IntKind.wrap .i64 (s495 + 1)))) (won rfl) rfl rfl (x_assign rfl (ev (t := 20) rfl rfl)) ?_
     refine wpList_nil ?_
     refine nx ?_
     refine wp_seq ?_
     obtain ⟨hg582, he⟩ := gdE he
     obtain ⟨cs583, hq584, hc585⟩ := RdD.get H0x0 hg582.1 hg582.2
     replace hq584 := impl_RingReply_Kget hq584
     obtain ⟨r587, hr587, he⟩ := bindE he
     refine wp_region_lit ?_
     refine s_val (v := v0x0) (won rfl) rfl rfl (x_move rfl (ev (t := 0) (v := v0x0) rfl q494)) ?_
     refine s_val (v := (.int .i64 s497)) (won rfl) rfl rfl (x_move rfl (ev (t := 5) (v := (.int .i64 s497)) rfl q498)) ?_
     refine s_val (v := (.pointer (some ((slA v0x0).add (Int.toNat s497 * 2))))) (won rfl) rfl rfl (x_indexD rfl slt_66 (ev (t := 21) rfl rfl) (ev (t := 22) rfl rfl) H0x0.sl H0x0.some hg582.1 hg582.2) ?_
     refine s_val (v := (.pointer (some (((slA v0x0).add (Int.toNat s497 * 2)).add 1)))) (won rfl) rfl rfl (x_fielda rfl fa_71x1 (ev (t := 23) rfl rfl)) ?_
     refine s_val (v := (cs583.getD 1 undef)) (won rfl) rfl rfl (x_load rfl ty1x26 (ev (t := 24) rfl rfl) (ci_cell (o := 1) hc585 (by rw [hq584.1]; rfl) hm546 (Sub.trans hs (Sub.at_ (k := 0) rfl)))) ?_
     refine s_val (v := (.int .i64 (IntKind.wrap .i64 (s495 + 1)))) (won rfl) rfl rfl (x_move rfl (ev (t := 1) rfl rfl)) ?_
     refine s_call (won rfl) rfl rfl (x_call rfl rfl cl_71 (map_lit (map_cons (ev (t := 25) rfl rfl) (map_cons (ev (t := 26) rfl rfl) map_nil)))) (laws_heldIntS_ok F (hR := (cat [hR])) (hF := cat [hF]) (ix a0 s497).List (IntKind.wrap .i64 (s495 + 1)) (hq584.2.mono (Sub.at_ (k := 0) rfl)) (subc (Sub.trans hs (Sub.at_ (k := 0) rfl)) subn) (Mem.one hm546) hr587) ?_
     rintro e w588 ⟨rfl, hm589⟩
     refine ⟨_, rfl, ?_⟩
     replace hm589 : Mem w0 w588 (cat [hF]) := Mem.un hm589
     refine s_val (v := (.int .i64 r587)) (won rfl) rfl rfl (x_assign rfl (ev (t := 27) rfl rfl)) ?_
     refine wpList_nil ?_
     refine nx ?_
     refine wp_seq ?_
     refine wp_region_lit ?_
     refine s_val (v := (.int .i64 r587)) (won rfl) rfl rfl (x_move rfl (ev (t := 1) rfl rfl)) ?_
     refine s_val (v := (.bool (decide (r587 < 0)))) (won rfl) rfl rfl (x_lss rfl (ev (t := 28) rfl rfl) rfl) ?_
     refine wpList_nil ?_
     refine nx ?_
     rcases Bool.eq_false_or_eq_true ((decide (r587 < 0))) with hb590 | hb590
     ·
      replace he := bifT he hb590
      refine c_true rfl (p := (decide (r587 < 0))) rfl rfl hb590 ?_
      refine wp_seq ?_
      refine wp_region_lit ?_
      refine s_val (v := (.int .i64 (-1))) (won rfl) rfl rfl (x_assign rfl rfl) ?_
      refine wpList_nil ?_
      refine nx ?_
      refine wp_ret ?_
      refine rb ?_
      refine xr ?_
      refine xr ?_
      refine rb ?_
      refine xr ?_
      obtain rfl := Option.some.inj he
      replace he := outE hk445
      obtain rfl := Option.some.inj he
      refine r_ret (v := (.int .i64 (-1))) (rv_one rfl (RVs.tmp (v := (.int .i64 (-1))) rfl rfl RVs.nil)) rfl ?_
      exact ⟨rfl, Mem.pick [0] rfl hm589⟩
     ·
      replace he := bifF he hb590
      refine c_false rfl (p := (decide (r587 < 0))) rfl rfl hb590 ?_
      refine wp_skip ?_
      refine nb ?_
      refine nx ?_
      refine wp_region_lit ?_
      refine s_val (v := (.int .i64 s497)) (won rfl) rfl rfl (x_move rfl (ev (t := 5) (v := (.int .i64 s497)) rfl q498)) ?_
      refine s_val (v := (.int .i64 (IntKind.wrap .i64 (s497 + 1)))) (won rfl) rfl rfl (x_add rfl (ev (t := 10) rfl rfl) rfl) ?_
      refine s_val (v := (.int .i64 (IntKind.wrap .i64 (s497 + 1)))) (won rfl) rfl rfl (x_assign rfl (ev (t := 11) rfl rfl)) ?_
      refine wpList_nil ?_
      refine nx ?_
      exact ⟨r587, (IntKind.wrap .i64 (s497 + 1)), _, he, rfl, q494, rfl, rfl, Mem.pick [0] rfl hm589⟩
   ·
    replace he := bifF he hb548
    refine c_false rfl (p := (decide (s497 < (a0.length : Int)))) rfl rfl hb548 ?_
    refine wp_exit ?_
    refine xs ?_
    refine xs ?_
    refine xb ?_
    refine nx ?_
    obtain rfl := Option.some.inj he
    exact ⟨s495, _, rfl, rfl, q496, Mem.pick [0] rfl hm546⟩
 ·
  rintro a w ⟨s443, f, rfl, rfl, q442, hm592⟩
  replace he := goE hk445
  refine wp_seq ?_
  refine wp_region_lit ?_
  refine s_val (v := (.int .i64 s443)) (won rfl) rfl rfl (x_move rfl (ev (t := 1) (v := (.int .i64 s443)) rfl q442)) ?_
  refine s_val (v := (.int .i64 s443)) (won rfl) rfl rfl (x_assign rfl (ev (t := 30) rfl rfl)) ?_
  refine wpList_nil ?_
  refine nx ?_
  refine wp_ret ?_
  obtain rfl := Option.some.inj he
  refine r_ret (v := (.int .i64 s443)) (rv_one rfl (RVs.tmp (v := (.int .i64 s443)) rfl rfl RVs.nil)) rfl ?_
  exact ⟨rfl, Mem.pick [0] rfl hm592⟩
end Go.Proofs.Ytpkdolmbhfmjcaa.FnExactRingRun
