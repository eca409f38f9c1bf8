/- What functions of the program compute, and their walks: printed. -/
import Derived.Test.YtpkdolmbhfmjcaaFnRingT
import Derived.Test.YtpkdolmbhfmjcaaFnRingF0
set_option linter.unusedVariables false
set_option linter.unusedSimpArgs false
set_option linter.unusedSectionVars false
namespace Go.Proofs.Ytpkdolmbhfmjcaa.FnRing
open Go.RowKit Go.Proofs.Gw
attribute [local irreducible] wpList DG wpQuiet wl
def impl_Ring_act_l1 (F : Nat) (a0 : impl_Ring) (a1 : impl_RingAct) : Nat → (List Int) → (List Int) → Int → Int → Int → (List Int) → Int → Option ((List Int) × (List Int) × Int × Int × Int × (List Int))
  | 0, _, _, _, _, _, _, _ => none
  | k + 1, s6821, s6825, s6829, s6830, s6831, s6835, s6841 => (bif (decide (s6841 < a1.N)) then (impl_Ring_arrive (impl_Ring.mk a0.Size a0.Up s6821 s6825 s6829 s6830 a0.Every s6831) s6835).bind fun r6902 => impl_Ring_act_l1 F a0 a1 k r6902.2.Posted r6902.2.Done r6902.2.Lost r6902.2.Pending r6902.2.Signals r6902.1 (IntKind.wrap .i64 (s6841 + 1)) else (some (s6821, s6825, s6829, s6830, s6831, s6835)))
def impl_Ring_act (F : Nat) (a0 : impl_Ring) (a1 : impl_RingAct) : Option (impl_RingReply × impl_Ring) := ((bif (decide (a1.Kind = 1)) then (impl_Ring_post F a0 a1.N).bind fun r6478 => (some (Fl.out ((impl_RingReply.mk r6478.1 ([] : List Int)), (impl_Ring.mk a0.Size a0.Up r6478.2.Posted a0.Done a0.Lost a0.Pending a0.Every a0.Signals)))) else (bif (decide (a1.Kind = 2)) then (impl_inRange a1.N 0 100).bind fun r6498 => (bif (!r6498) then (some (Fl.out ((impl_RingReply.mk 4 ([] : List Int)), a0))) else (impl_Ring_act_l1 F a0 a1 F a0.Posted a0.Done a0.Lost a0.Pending a0.Signals [] 0 : Option ((List Int) × (List Int) × Int × Int × Int × (List Int))).bind fun (s6724 : ((List Int) × (List Int) × Int × Int × Int × (List Int))) => (some (Fl.out ((impl_RingReply.mk 0 s6724.2.2.2.2.2), (impl_Ring.mk a0.Size a0.Up s6724.1 s6724.2.1 s6724.2.2.1 s6724.2.2.2.1 a0.Every s6724.2.2.2.2.1))))) else (bif (decide (a1.Kind = 3)) then (bif (decide (a1.N ≤ 0)) then (some (Fl.out ((impl_RingReply.mk 4 ([] : List Int)), a0))) else gd ((0 : Int) ≤ (iMin a1.N (a0.Done.length : Int)) ∧ (iMin a1.N (a0.Done.length : Int)) ≤ (a0.Done.length : Int)) (gd ((([] : List Int).length + (slc a0.Done 0 (Int.toNat (iMin a1.N (a0.Done.length : Int)))).length) * 8 ≤ 140737488355328) (gd ((0 : Int) ≤ (iMin a1.N (a0.Done.length : Int)) ∧ (iMin a1.N (a0.Done.length : Int)) ≤ (a0.Done.length : Int)) ((some (Fl.out ((impl_RingReply.mk 0 (([] : List Int) ++ (slc a0.Done 0 (Int.toNat (iMin a1.N (a0.Done.length : Int)))))), (impl_Ring.mk a0.Size a0.Up a0.Posted (slc a0.Done (Int.toNat (iMin a1.N (a0.Done.length : Int))) a0.Done.length) a0.Lost (iMin a0.Pending ((slc a0.Done (Int.toNat (iMin a1.N (a0.Done.length : Int))) a0.Done.length).length : Int)) a0.Every a0.Signals)))))))) else (bif (decide (a1.Kind = 4)) then gd ((([] : List Int).length + a0.Done.length) * 8 ≤ 140737488355328) (gd (((([] : List Int) ++ a0.Done).length + a0.Posted.length) * 8 ≤ 140737488355328) ((some (Fl.out ((impl_RingReply.mk 0 ((([] : List Int) ++ a0.Done) ++ a0.Posted)), (impl_Ring.mk a0.Size a0.Up ([] : List Int) ([] : List Int) a0.Lost 0 a0.Every a0.Signals)))))) else (bif (decide (a1.Kind = 5)) then (some (Fl.out ((impl_RingReply.mk 0 ([] : List Int)), (impl_Ring.mk a0.Size (decide (a1.N = 1)) a0.Posted a0.Done a0.Lost a0.Pending a0.Every a0.Signals)))) else (some (Fl.go ()))))))) : Option (Fl (impl_RingReply × impl_Ring) (Unit))).bind fun l6474 => l6474.on fun (s6473 : (Unit)) => (some ((impl_RingReply.mk 3 ([] : List Int)), a0))
set_option maxHeartbeats 400000 in
set_option maxRecDepth 100000 in
theorem impl_Ring_act_ok (F : Nat) {w0 w : World} {hR hF : Hp} {v0x2 : Value} {h0x2 : Hp} {v0x3 : Value} {h0x3 : Hp} {g0 T0 o0 : Nat} {fr0 : Nat × Nat} {pre0 post0 : List Value} (a0 : impl_Ring) (a1 : impl_RingAct) {r : (impl_RingReply × impl_Ring)} (H0x2 : OwF 3 (FK.int .i64) v0x2 a0.Posted h0x2) (H0x3 : OwF 3 (FK.int .i64) v0x3 a0.Done h0x3) (hp0 : pre0.length = o0) (hm : Mem w0 w (cat [sg g0 T0 fr0 pre0 [(.int .i64 a0.Size), (.bool a0.Up), v0x2, v0x3, (.int .i64 a0.Lost), (.int .i64 a0.Pending), (.int .i64 a0.Every), (.int .i64 a0.Signals)] post0, h0x2, h0x3, hF])) (he : impl_Ring_act F a0 a1 = some r) :
    Calls Try.prog 75 #[(.pointer (some ⟨g0, o0, none⟩)), (.agg #[(.int .i64 a1.Kind), (.int .i64 a1.N)])] w (fun e w' => ∃ (v'0 : Value) (h'0 : Hp) (v'1 : Value) (h'1 : Hp) (v'2 : Value) (h'2 : Hp), e = .returned (.agg #[(.int .i64 r.1.Code), v'2]) ∧ OwF 3 (FK.int .i64) v'0 r.2.Posted h'0 ∧ OwF 3 (FK.int .i64) v'1 r.2.Done h'1 ∧ OwF 3 (FK.int .i64) v'2 r.1.List h'2 ∧ Mem w0 w' (cat [sg g0 T0 fr0 pre0 [(.int .i64 a0.Size), (.bool r.2.Up), v'0, v'1, (.int .i64 r.2.Lost), (.int .i64 r.2.Pending), (.int .i64 a0.Every), (.int .i64 r.2.Signals)] post0, h'0, h'1, h'2, hF])) := by
 refine calls_fr (n := 117) Try.func75 rfl rfl rfl ?_
 unfold impl_Ring_act at he
 refine wp_seq ?_
 refine wp_region_lit ?_
 refine s_exv (won rfl) rfl rfl (e_box (vs := [(.int .i64 a1.Kind), (.int .i64 a1.N)]) rfl (ev (t := 1) rfl rfl) rfl hm) ?_
 rintro g4477 w4478 hm4479
 refine s_exv (won rfl) rfl rfl (e_alloc (vs := [(.int .i64 0), (.slice none 0 0)]) rfl zt_71 rfl hm4479) ?_
 rintro g4482 w4483 hm4484
 refine wpList_nil ?_
 refine nx ?_
 obtain ⟨l6474, hT6476, hk6475⟩ := bindE he
 replace he := hT6476
 refine wp_seqJ (fun a w => ∃ (s6473 : (Unit)) (f : Nat → Value), l6474 = Fl.go s6473 ∧ a = fr 117 f ∧ f 4 = (.pointer (some ⟨g4482, 0, none⟩)) ∧ Mem w0 w (cat [sg g0 T0 fr0 pre0 [(.int .i64 a0.Size), (.bool a0.Up), v0x2, v0x3, (.int .i64 a0.Lost), (.int .i64 a0.Pending), (.int .i64 a0.Every), (.int .i64 a0.Signals)] post0, sg g4482 71 (0, 0) [] [(.int .i64 0), (.slice none 0 0)] [], h0x2, h0x3, hF])) ?_ ?_
 ·
  refine wp_seq ?_
  refine wp_region_lit ?_
  refine s_val (v := (.pointer (some ⟨g4477, 0, none⟩))) (won rfl) rfl rfl (x_field rfl fa_74x0 (ev (t := 3) rfl rfl)) ?_
  refine s_val (v := (.int .i64 a1.Kind)) (won rfl) rfl rfl (x_load rfl ty1x3 (ev (t := 9) rfl rfl) (seg_cell (o' := 0) (j := 0) hm4484 (k := 1) rfl rfl rfl)) ?_
  refine wpList_nil ?_
  refine nx ?_
  refine wp_block ?_
  refine wp_seq ?_
  refine wp_region_lit ?_
  refine s_val (v := (.bool (decide (a1.Kind = 1)))) (won rfl) rfl rfl (x_eql rfl (ev (t := 10) rfl rfl) rfl) ?_
  refine s_val (v := (.bool (decide (a1.Kind = 1)))) (won rfl) rfl rfl (x_assign rfl (ev (t := 12) rfl rfl)) ?_
  refine wpList_nil ?_
  refine nx ?_
  rcases Bool.eq_false_or_eq_true ((decide (a1.Kind = 1))) with hb6477 | hb6477
  ·
   replace he := bifT he hb6477
   refine c_true rfl (p := (decide (a1.Kind = 1))) rfl rfl hb6477 ?_
   refine wp_seq ?_
   obtain ⟨r6478, hr6478, he⟩ := bindE he
   refine wp_region_lit ?_
   refine s_val (v := (.pointer (some ⟨g0, o0, none⟩))) (won rfl) rfl rfl (x_move rfl (ev (t := 0) rfl rfl)) ?_
   refine s_val (v := (.pointer (some ⟨g4477, 1, none⟩))) (won rfl) rfl rfl (x_field rfl fa_74x1 (ev (t := 3) rfl rfl)) ?_
   refine s_val (v := (.int .i64 a1.N)) (won rfl) rfl rfl (x_load rfl ty1x3 (ev (t := 14) rfl rfl) (seg_cell (o' := 0) (j := 1) hm4484 (k := 1) rfl rfl rfl)) ?_
   refine s_call (won rfl) rfl rfl (x_call rfl rfl cl_90 (map_lit (map_cons (ev (t := 13) rfl rfl) (map_cons (ev (t := 15) rfl rfl) map_nil)))) (impl_Ring_post_ok F (hR := (cat [h0x3])) (hF := cat [sg g4482 71 (0, 0) [] [(.int .i64 0), (.slice none 0 0)] [], sg g4477 74 (0, 0) [] [(.int .i64 a1.Kind), (.int .i64 a1.N)] [], h0x3, hF]) a0 a1.N H0x2 ((H0x3.rd w0).mono (Sub.at_ (k := 0) rfl)) (subc (Sub.at_ (k := 2) rfl) subn) hp0 (Mem.grp [sg g0 T0 fr0 pre0 [(.int .i64 a0.Size), (.bool a0.Up), v0x2, v0x3, (.int .i64 a0.Lost), (.int .i64 a0.Pending), (.int .i64 a0.Every), (.int .i64 a0.Signals)] post0, h0x2] [sg g4482 71 (0, 0) [] [(.int .i64 0), (.slice none 0 0)] [], sg g4477 74 (0, 0) [] [(.int .i64 a1.Kind), (.int .i64 a1.N)] [], h0x3, hF] (Mem.pick [2, 3, 0, 1, 4, 5] rfl hm4484)) hr6478) ?_
   rintro e w6483 ⟨v6480, h6482, rfl, H6481, hm6484⟩
   refine ⟨_, rfl, ?_⟩
   replace hm6484 : Mem w0 w6483 (cat [sg g0 T0 fr0 pre0 [(.int .i64 a0.Size), (.bool a0.Up), v6480, v0x3, (.int .i64 a0.Lost), (.int .i64 a0.Pending), (.int .i64 a0.Every), (.int .i64 a0.Signals)] post0, h6482, sg g4482 71 (0, 0) [] [(.int .i64 0), (.slice none 0 0)] [], sg g4477 74 (0, 0) [] [(.int .i64 a1.Kind), (.int .i64 a1.N)] [], h0x3, hF]) := Mem.ung [sg g0 T0 fr0 pre0 [(.int .i64 a0.Size), (.bool a0.Up), v6480, v0x3, (.int .i64 a0.Lost), (.int .i64 a0.Pending), (.int .i64 a0.Every), (.int .i64 a0.Signals)] post0, h6482] [sg g4482 71 (0, 0) [] [(.int .i64 0), (.slice none 0 0)] [], sg g4477 74 (0, 0) [] [(.int .i64 a1.Kind), (.int .i64 a1.N)] [], h0x3, hF] hm6484
   refine s_val (v := (.agg #[(.int .i64 r6478.1), (.slice none 0 0)])) (won rfl) rfl rfl (x_build (cells := [(.int .i64 r6478.1), (.slice none 0 0)]) (zc := [.int .i64 0, .slice none 0 0]) (sizes := [(0, 1), (1, 1)]) (ps := [(0, (.int .i64 r6478.1))]) rfl zt_71 rfl uf_71 ufz_71 (pmap_lit (pmap_cons (ev (t := 16) rfl rfl) pmap_nil)) (fill_cons (cs := [(.int .i64 r6478.1)]) rfl rfl rfl fill_nil)) ?_
   refine s_exs (won rfl) rfl (e_store (vs := [(.int .i64 r6478.1), (.slice none 0 0)]) (o' := 0) (j := 0) rfl sz_71 (ev (t := 4) rfl rfl) (ev (t := 17) rfl rfl) rfl rfl hm6484 (k := 2) rfl rfl rfl) ?_
   intro w6486 hm6487
   replace hm6487 : Mem w0 w6486 (cat [sg g0 T0 fr0 pre0 [(.int .i64 a0.Size), (.bool a0.Up), v6480, v0x3, (.int .i64 a0.Lost), (.int .i64 a0.Pending), (.int .i64 a0.Every), (.int .i64 a0.Signals)] post0, h6482, sg g4482 71 (0, 0) [] [(.int .i64 r6478.1), (.slice none 0 0)] [], sg g4477 74 (0, 0) [] [(.int .i64 a1.Kind), (.int .i64 a1.N)] [], h0x3, hF]) := hm6487
   refine wpList_nil ?_
   have hm6488 : Mem w0 w6486 (cat [sg g0 T0 fr0 pre0 [(.int .i64 a0.Size), (.bool a0.Up), v6480, v0x3, (.int .i64 a0.Lost), (.int .i64 a0.Pending), (.int .i64 a0.Every), (.int .i64 a0.Signals)] post0, h6482, sg g4482 71 (0, 0) [] [(.int .i64 r6478.1), (.slice none 0 0)] [], h0x3, hF]) := Mem.pick [0, 1, 2, 4, 5] rfl hm6487
   refine nx ?_
   refine wp_ret ?_
   refine rb ?_
   refine xr ?_
   obtain rfl := Option.some.inj he
   replace he := outE hk6475
   obtain rfl := Option.some.inj he
   refine r_ret (v := (.agg #[(.int .i64 r6478.1), (.slice none 0 0)])) (rv_one rfl (RVs.cell (cs := [(.int .i64 r6478.1), (.slice none 0 0)]) rfl rfl tyN_71 (seg_cells (o' := 0) (j := 0) hm6488 (k := 2) rfl rfl rfl) RVs.nil)) rfl ?_
   exact ⟨v6480, h6482, v0x3, h0x3, (.slice none 0 0), [], rfl, H6481, H0x3, (OwF.nil 3 (FK.int .i64)), Mem.pick [0, 1, 3, 1000, 4] rfl hm6488⟩
  ·
   replace he := bifF he hb6477
   refine c_false rfl (p := (decide (a1.Kind = 1))) rfl rfl hb6477 ?_
   refine wp_seq ?_
   refine wp_region_lit ?_
   refine s_val (v := (.bool (decide (a1.Kind = 2)))) (won rfl) rfl rfl (x_eql rfl (ev (t := 10) rfl rfl) rfl) ?_
   refine s_val (v := (.bool (decide (a1.Kind = 2)))) (won rfl) rfl rfl (x_assign rfl (ev (t := 19) rfl rfl)) ?_
   refine wpList_nil ?_
   refine nx ?_
   rcases Bool.eq_false_or_eq_true ((decide (a1.Kind = 2))) with hb6489 | hb6489
   ·
    replace he := bifT he hb6489
    refine c_true rfl (p := (decide (a1.Kind = 2))) rfl rfl hb6489 ?_
    refine wp_seq ?_
    refine wp_seq ?_
    obtain ⟨r6498, hr6498, he⟩ := bindE he
    refine wp_region_lit ?_
    refine s_val (v := (.pointer (some ⟨g4477, 1, none⟩))) (won rfl) rfl rfl (x_field rfl fa_74x1 (ev (t := 3) rfl rfl)) ?_
    refine s_val (v := (.int .i64 a1.N)) (won rfl) rfl rfl (x_load rfl ty1x3 (ev (t := 20) rfl rfl) (seg_cell (o' := 0) (j := 1) hm4484 (k := 1) rfl rfl rfl)) ?_
    refine s_call (won rfl) rfl rfl (x_call rfl rfl cl_58 (map_lit (map_cons (ev (t := 21) rfl rfl) (map_cons rfl (map_cons rfl map_nil))))) (impl_inRange_ok (hR := (cat [])) (hF := cat [sg g4482 71 (0, 0) [] [(.int .i64 0), (.slice none 0 0)] [], sg g4477 74 (0, 0) [] [(.int .i64 a1.Kind), (.int .i64 a1.N)] [], sg g0 T0 fr0 pre0 [(.int .i64 a0.Size), (.bool a0.Up), v0x2, v0x3, (.int .i64 a0.Lost), (.int .i64 a0.Pending), (.int .i64 a0.Every), (.int .i64 a0.Signals)] post0, h0x2, h0x3, hF]) a1.N 0 100  (Mem.one hm4484) hr6498) ?_
    rintro e w6499 ⟨rfl, hm6500⟩
    refine ⟨_, rfl, ?_⟩
    replace hm6500 : Mem w0 w6499 (cat [sg g4482 71 (0, 0) [] [(.int .i64 0), (.slice none 0 0)] [], sg g4477 74 (0, 0) [] [(.int .i64 a1.Kind), (.int .i64 a1.N)] [], sg g0 T0 fr0 pre0 [(.int .i64 a0.Size), (.bool a0.Up), v0x2, v0x3, (.int .i64 a0.Lost), (.int .i64 a0.Pending), (.int .i64 a0.Every), (.int .i64 a0.Signals)] post0, h0x2, h0x3, hF]) := Mem.un hm6500
    refine s_val (v := (.bool (!r6498))) (won rfl) rfl rfl (x_not rfl (ev (t := 22) rfl rfl)) ?_
    refine wpList_nil ?_
    refine nx ?_
    rcases Bool.eq_false_or_eq_true ((!r6498)) with hb6501 | hb6501
    ·
     replace he := bifT he hb6501
     refine c_true rfl (p := (!r6498)) rfl rfl hb6501 ?_
     refine wp_seq ?_
     refine wp_region_lit ?_
     refine s_val (v := (.agg #[(.int .i64 4), (.slice none 0 0)])) (won rfl) rfl rfl (x_build (cells := [(.int .i64 4), (.slice none 0 0)]) (zc := [.int .i64 0, .slice none 0 0]) (sizes := [(0, 1), (1, 1)]) (ps := [(0, (.int .i64 4))]) rfl zt_71 rfl uf_71 ufz_71 (pmap_lit (pmap_cons rfl pmap_nil)) (fill_cons (cs := [(.int .i64 4)]) rfl rfl rfl fill_nil)) ?_
     refine s_exs (won rfl) rfl (e_store (vs := [(.int .i64 4), (.slice none 0 0)]) (o' := 0) (j := 0) rfl sz_71 (ev (t := 4) rfl rfl) (ev (t := 24) rfl rfl) rfl rfl hm6500 (k := 0) rfl rfl rfl) ?_
     intro w6503 hm6504
     replace hm6504 : Mem w0 w6503 (cat [sg g4482 71 (0, 0) [] [(.int .i64 4), (.slice none 0 0)] [], sg g4477 74 (0, 0) [] [(.int .i64 a1.Kind), (.int .i64 a1.N)] [], sg g0 T0 fr0 pre0 [(.int .i64 a0.Size), (.bool a0.Up), v0x2, v0x3, (.int .i64 a0.Lost), (.int .i64 a0.Pending), (.int .i64 a0.Every), (.int .i64 a0.Signals)] post0, h0x2, h0x3, hF]) := hm6504
     refine wpList_nil ?_
     have hm6505 : Mem w0 w6503 (cat [sg g4482 71 (0, 0) [] [(.int .i64 4), (.slice none 0 0)] [], sg g0 T0 fr0 pre0 [(.int .i64 a0.Size), (.bool a0.Up), v0x2, v0x3, (.int .i64 a0.Lost), (.int .i64 a0.Pending), (.int .i64 a0.Every), (.int .i64 a0.Signals)] post0, h0x2, h0x3, hF]) := Mem.pick [0, 2, 3, 4, 5] rfl hm6504
     refine nx ?_
     refine wp_ret ?_
     refine xr ?_
     refine rb ?_
     refine xr ?_
     obtain rfl := Option.some.inj he
     replace he := outE hk6475
     obtain rfl := Option.some.inj he
     refine r_ret (v := (.agg #[(.int .i64 4), (.slice none 0 0)])) (rv_one rfl (RVs.cell (cs := [(.int .i64 4), (.slice none 0 0)]) rfl rfl tyN_71 (seg_cells (o' := 0) (j := 0) hm6505 (k := 0) rfl rfl rfl) RVs.nil)) rfl ?_
     exact ⟨v0x2, h0x2, v0x3, h0x3, (.slice none 0 0), [], rfl, H0x2, H0x3, (OwF.nil 3 (FK.int .i64)), Mem.pick [1, 2, 3, 1000, 4] rfl hm6505⟩
    ·
     replace he := bifF he hb6501
     refine c_false rfl (p := (!r6498)) rfl rfl hb6501 ?_
     refine wp_skip ?_
     refine nx ?_
     refine wp_seq ?_
     refine wp_region_lit ?_
     refine s_val (v := (.agg #[(.int .i64 0), (.slice none 0 0)])) (won rfl) rfl rfl (x_build (cells := [(.int .i64 0), (.slice none 0 0)]) (zc := [.int .i64 0, .slice none 0 0]) (sizes := [(0, 1), (1, 1)]) (ps := []) rfl zt_71 rfl uf_71 ufz_71 (pmap_lit pmap_nil) fill_nil) ?_
     refine s_exv (won rfl) rfl rfl (e_alloc (vs := [(.int .i64 0), (.slice none 0 0)]) rfl zt_71 rfl hm6500) ?_
     rintro g6508 w6509 hm6510
     refine s_exs (won rfl) rfl (e_store (vs := [(.int .i64 0), (.slice none 0 0)]) (o' := 0) (j := 0) rfl sz_71 (ev (t := 5) rfl rfl) (ev (t := 25) rfl rfl) rfl rfl hm6510 (k := 0) rfl rfl rfl) ?_
     intro w6512 hm6513
     replace hm6513 : Mem w0 w6512 (cat [sg g6508 71 (0, 0) [] [(.int .i64 0), (.slice none 0 0)] [], sg g4482 71 (0, 0) [] [(.int .i64 0), (.slice none 0 0)] [], sg g4477 74 (0, 0) [] [(.int .i64 a1.Kind), (.int .i64 a1.N)] [], sg g0 T0 fr0 pre0 [(.int .i64 a0.Size), (.bool a0.Up), v0x2, v0x3, (.int .i64 a0.Lost), (.int .i64 a0.Pending), (.int .i64 a0.Every), (.int .i64 a0.Signals)] post0, h0x2, h0x3, hF]) := hm6513
     refine wpList_nil ?_
     refine nx ?_
     obtain ⟨s6724, hT6726, hk6725⟩ := bindE he
     replace he := hT6726
     refine wp_seqJ (fun a w => ∃ (v6707 : Value) (h6708 : Hp) (v6711 : Value) (h6712 : Hp) (v6720 : Value) (h6721 : Hp) (f : Nat → Value), a = fr 117 f ∧ f 4 = (.pointer (some ⟨g4482, 0, none⟩)) ∧ f 5 = (.pointer (some ⟨g6508, 0, none⟩)) ∧ OwF 3 (FK.int .i64) v6707 s6724.1 h6708 ∧ OwF 3 (FK.int .i64) v6711 s6724.2.1 h6712 ∧ OwF 3 (FK.int .i64) v6720 s6724.2.2.2.2.2 h6721 ∧ Mem w0 w (cat [sg g0 T0 fr0 pre0 [(.int .i64 a0.Size), (.bool a0.Up), v6707, v6711, (.int .i64 s6724.2.2.1), (.int .i64 s6724.2.2.2.1), (.int .i64 a0.Every), (.int .i64 s6724.2.2.2.2.1)] post0, sg g4482 71 (0, 0) [] [(.int .i64 0), (.slice none 0 0)] [], sg g6508 71 (0, 0) [] [(.int .i64 0), v6720] [], h6708, h6712, h6721, hF])) ?_ ?_
     ·
      refine wp_seq ?_
      refine wp_region_lit ?_
      refine s_val (v := (.pointer (some ⟨g4477, 1, none⟩))) (won rfl) rfl rfl (x_field rfl fa_74x1 (ev (t := 3) rfl rfl)) ?_
      refine s_val (v := (.int .i64 a1.N)) (won rfl) rfl rfl (x_load rfl ty1x3 (ev (t := 26) rfl rfl) (seg_cell (o' := 0) (j := 1) hm6513 (k := 2) rfl rfl rfl)) ?_
      refine s_val (v := (.int .i64 0)) (won rfl) rfl rfl (x_move rfl rfl) ?_
      refine wpList_nil ?_
      have hm6727 : Mem w0 w6512 (cat [sg g6508 71 (0, 0) [] [(.int .i64 0), (.slice none 0 0)] [], sg g4482 71 (0, 0) [] [(.int .i64 0), (.slice none 0 0)] [], sg g0 T0 fr0 pre0 [(.int .i64 a0.Size), (.bool a0.Up), v0x2, v0x3, (.int .i64 a0.Lost), (.int .i64 a0.Pending), (.int .i64 a0.Every), (.int .i64 a0.Signals)] post0, h0x2, h0x3, hF]) := Mem.pick [0, 1, 3, 4, 5, 6] rfl hm6513
      refine nx ?_
      refine wp_block ?_
      refine wp_fuel (I := fun k => fun a w => ∃ (s6821 : (List Int)) (s6825 : (List Int)) (s6829 : Int) (s6830 : Int) (s6831 : Int) (s6835 : (List Int)) (s6841 : Int) (v6822 : Value) (h6823 : Hp) (v6826 : Value) (h6827 : Hp) (v6836 : Value) (h6837 : Hp) (f : Nat → Value), impl_Ring_act_l1 F a0 a1 k s6821 s6825 s6829 s6830 s6831 s6835 s6841 = some s6724 ∧ a = fr 117 f ∧ f 0 = (.pointer (some ⟨g0, o0, none⟩)) ∧ f 4 = (.pointer (some ⟨g4482, 0, none⟩)) ∧ f 5 = (.pointer (some ⟨g6508, 0, none⟩)) ∧ f 27 = (.int .i64 a1.N) ∧ f 28 = (.int .i64 s6841) ∧ OwF 3 (FK.int .i64) v6822 s6821 h6823 ∧ OwF 3 (FK.int .i64) v6826 s6825 h6827 ∧ OwF 3 (FK.int .i64) v6836 s6835 h6837 ∧ Mem w0 w (cat [sg g0 T0 fr0 pre0 [(.int .i64 a0.Size), (.bool a0.Up), v6822, v6826, (.int .i64 s6829), (.int .i64 s6830), (.int .i64 a0.Every), (.int .i64 s6831)] post0, sg g4482 71 (0, 0) [] [(.int .i64 0), (.slice none 0 0)] [], sg g6508 71 (0, 0) [] [(.int .i64 0), v6836] [], h6823, h6827, h6837, hF])) F _ _ ⟨a0.Posted, a0.Done, a0.Lost, a0.Pending, a0.Signals, [], 0, v0x2, h0x2, v0x3, h0x3, (.slice none 0 0), [], _, he, rfl, rfl, rfl, rfl, rfl, rfl, H0x2, H0x3, (OwF.nil 3 (FK.int .i64)), Mem.pick [2, 1, 0, 3, 4, 1000, 5] rfl hm6727⟩ ?_ ?_
      ·
       rintro a w ⟨s6821, s6825, s6829, s6830, s6831, s6835, s6841, v6822, h6823, v6826, h6827, v6836, h6837, f, he, rfl, q6832, q6833, q6839, q6840, q6842, H6824, H6828, H6838, hm6880⟩
       rw [impl_Ring_act_l1] at he; exact none_no he
      ·
       rintro k a w ⟨s6821, s6825, s6829, s6830, s6831, s6835, s6841, v6822, h6823, v6826, h6827, v6836, h6837, f, he, rfl, q6832, q6833, q6839, q6840, q6842, H6824, H6828, H6838, hm6882⟩
       rw [impl_Ring_act_l1] at he
       refine wp_seq ?_
       refine wp_region_lit ?_
       refine s_val (v := (.bool (decide (s6841 < a1.N)))) (won rfl) rfl rfl (x_lss rfl (ev (t := 28) (v := (.int .i64 s6841)) rfl q6842) (ev (t := 27) (v := (.int .i64 a1.N)) rfl q6840)) ?_
       refine wpList_nil ?_
       refine nx ?_
       refine wp_seq ?_
       rcases Bool.eq_false_or_eq_true ((decide (s6841 < a1.N))) with hb6884 | hb6884
       ·
        replace he := bifT he hb6884
        refine c_true rfl (p := (decide (s6841 < a1.N))) rfl rfl hb6884 ?_
        refine wp_skip ?_
        refine nx ?_
        refine wp_seq ?_
        refine wp_block ?_
        obtain ⟨r6902, hr6902, he⟩ := bindE he
        refine wp_region_lit ?_
        refine s_val (v := (.pointer (some ⟨g0, o0, none⟩))) (won rfl) rfl rfl (x_move rfl (ev (t := 0) (v := (.pointer (some ⟨g0, o0, none⟩))) rfl q6832)) ?_
        refine s_val (v := (.pointer (some ⟨g6508, 1, none⟩))) (won rfl) rfl rfl (x_field rfl fa_71x1 (ev (t := 5) (v := (.pointer (some ⟨g6508, 0, none⟩))) rfl q6839)) ?_
        refine s_val (v := v6836) (won rfl) rfl rfl (x_load rfl ty1x26 (ev (t := 31) rfl rfl) (seg_cell (o' := 0) (j := 1) hm6882 (k := 2) rfl rfl rfl)) ?_
        refine s_call (won rfl) rfl rfl (x_call rfl rfl cl_91 (map_lit (map_cons (ev (t := 30) rfl rfl) (map_cons (ev (t := 32) rfl rfl) map_nil)))) (impl_Ring_arrive_ok (hR := (cat [])) (hF := cat [sg g4482 71 (0, 0) [] [(.int .i64 0), (.slice none 0 0)] [], sg g6508 71 (0, 0) [] [(.int .i64 0), v6836] [], hF]) (impl_Ring.mk a0.Size a0.Up s6821 s6825 s6829 s6830 a0.Every s6831) s6835 H6824 H6828 H6838 hp0 (Mem.grp [sg g0 T0 fr0 pre0 [(.int .i64 a0.Size), (.bool a0.Up), v6822, v6826, (.int .i64 s6829), (.int .i64 s6830), (.int .i64 a0.Every), (.int .i64 s6831)] post0, h6823, h6827, h6837] [sg g4482 71 (0, 0) [] [(.int .i64 0), (.slice none 0 0)] [], sg g6508 71 (0, 0) [] [(.int .i64 0), v6836] [], hF] (Mem.pick [0, 3, 4, 5, 1, 2, 6] rfl hm6882)) hr6902) ?_
        rintro e w6915 ⟨v6904, h6906, v6908, h6910, v6912, h6914, rfl, H6905, H6909, H6913, hm6916⟩
        refine ⟨_, rfl, ?_⟩
        replace hm6916 : Mem w0 w6915 (cat [sg g0 T0 fr0 pre0 [(.int .i64 a0.Size), (.bool a0.Up), v6904, v6908, (.int .i64 r6902.2.Lost), (.int .i64 r6902.2.Pending), (.int .i64 a0.Every), (.int .i64 r6902.2.Signals)] post0, h6906, h6910, h6914, sg g4482 71 (0, 0) [] [(.int .i64 0), (.slice none 0 0)] [], sg g6508 71 (0, 0) [] [(.int .i64 0), v6836] [], hF]) := Mem.ung [sg g0 T0 fr0 pre0 [(.int .i64 a0.Size), (.bool a0.Up), v6904, v6908, (.int .i64 r6902.2.Lost), (.int .i64 r6902.2.Pending), (.int .i64 a0.Every), (.int .i64 r6902.2.Signals)] post0, h6906, h6910, h6914] [sg g4482 71 (0, 0) [] [(.int .i64 0), (.slice none 0 0)] [], sg g6508 71 (0, 0) [] [(.int .i64 0), v6836] [], hF] hm6916
        refine s_val (v := (.pointer (some ⟨g6508, 1, none⟩))) (won rfl) rfl rfl (x_field rfl fa_71x1 (ev (t := 5) (v := (.pointer (some ⟨g6508, 0, none⟩))) rfl q6839)) ?_
        refine s_exs (won rfl) rfl (e_store (vs := [v6912]) (o' := 0) (j := 1) rfl sz_26 (ev (t := 34) rfl rfl) (ev (t := 33) rfl rfl) (IsSl.cells (H6913).sl) (one_cons (IsSl.one (H6913).sl) one_nil) hm6916 (k := 5) rfl rfl rfl) ?_
        intro w6917 hm6918
        replace hm6918 : Mem w0 w6917 (cat [sg g0 T0 fr0 pre0 [(.int .i64 a0.Size), (.bool a0.Up), v6904, v6908, (.int .i64 r6902.2.Lost), (.int .i64 r6902.2.Pending), (.int .i64 a0.Every), (.int .i64 r6902.2.Signals)] post0, h6906, h6910, h6914, sg g4482 71 (0, 0) [] [(.int .i64 0), (.slice none 0 0)] [], sg g6508 71 (0, 0) [] [(.int .i64 0), v6912] [], hF]) := hm6918
        refine wpList_nil ?_
        refine nb ?_
        refine nx ?_
        refine wp_region_lit ?_
        refine s_val (v := (.int .i64 (IntKind.wrap .i64 (s6841 + 1)))) (won rfl) rfl rfl (x_add rfl (ev (t := 28) (v := (.int .i64 s6841)) rfl q6842) rfl) ?_
        refine s_val (v := (.int .i64 (IntKind.wrap .i64 (s6841 + 1)))) (won rfl) rfl rfl (x_move rfl (ev (t := 35) rfl rfl)) ?_
        refine wpList_nil ?_
        refine nx ?_
        exact ⟨r6902.2.Posted, r6902.2.Done, r6902.2.Lost, r6902.2.Pending, r6902.2.Signals, r6902.1, (IntKind.wrap .i64 (s6841 + 1)), v6904, h6906, v6908, h6910, v6912, h6914, _, he, rfl, q6832, q6833, q6839, q6840, rfl, H6905, H6909, H6913, Mem.pick [0, 4, 5, 1, 2, 3, 6] rfl hm6918⟩
       ·
        replace he := bifF he hb6884
        refine c_false rfl (p := (decide (s6841 < a1.N))) rfl rfl hb6884 ?_
        refine wp_exit ?_
        refine xs ?_
        refine xs ?_
        refine xb ?_
        refine nx ?_
        obtain rfl := Option.some.inj he
        exact ⟨v6822, h6823, v6826, h6827, v6836, h6837, _, rfl, q6833, q6839, H6824, H6828, H6838, Mem.pick [0, 1, 2, 3, 4, 5, 6] rfl hm6882⟩
     ·
      rintro a w ⟨v6707, h6708, v6711, h6712, v6720, h6721, f, rfl, q6717, q6723, H6709, H6713, H6722, hm6920⟩
      replace he := hk6725
      refine wp_seq ?_
      refine wp_region_lit ?_
      refine s_val (v := (.agg #[(.int .i64 0), v6720])) (won rfl) rfl rfl (x_loadN (vs := [(.int .i64 0), v6720]) rfl tyN_71 (ev (t := 5) (v := (.pointer (some ⟨g6508, 0, none⟩))) rfl q6723) (seg_cells (o' := 0) (j := 0) hm6920 (k := 2) rfl rfl rfl)) ?_
      refine s_exs (won rfl) rfl (e_store (vs := [(.int .i64 0), v6720]) (o' := 0) (j := 0) rfl sz_71 (ev (t := 4) (v := (.pointer (some ⟨g4482, 0, none⟩))) rfl q6717) (ev (t := 36) rfl rfl) rfl (one_cons rfl (one_cons (IsSl.one (H6722).sl) one_nil)) hm6920 (k := 1) rfl rfl rfl) ?_
      intro w6921 hm6922
      replace hm6922 : Mem w0 w6921 (cat [sg g0 T0 fr0 pre0 [(.int .i64 a0.Size), (.bool a0.Up), v6707, v6711, (.int .i64 s6724.2.2.1), (.int .i64 s6724.2.2.2.1), (.int .i64 a0.Every), (.int .i64 s6724.2.2.2.2.1)] post0, sg g4482 71 (0, 0) [] [(.int .i64 0), v6720] [], sg g6508 71 (0, 0) [] [(.int .i64 0), v6720] [], h6708, h6712, h6721, hF]) := hm6922
      refine wpList_nil ?_
      have hm6923 : Mem w0 w6921 (cat [sg g0 T0 fr0 pre0 [(.int .i64 a0.Size), (.bool a0.Up), v6707, v6711, (.int .i64 s6724.2.2.1), (.int .i64 s6724.2.2.2.1), (.int .i64 a0.Every), (.int .i64 s6724.2.2.2.2.1)] post0, sg g4482 71 (0, 0) [] [(.int .i64 0), v6720] [], h6708, h6712, h6721, hF]) := Mem.pick [0, 1, 3, 4, 5, 6] rfl hm6922
      refine nx ?_
      refine wp_ret ?_
      refine rb ?_
      refine xr ?_
      obtain rfl := Option.some.inj he
      replace he := outE hk6475
      obtain rfl := Option.some.inj he
      refine r_ret (v := (.agg #[(.int .i64 0), v6720])) (rv_one rfl (RVs.cell (cs := [(.int .i64 0), v6720]) rfl q6717 tyN_71 (seg_cells (o' := 0) (j := 0) hm6923 (k := 1) rfl rfl rfl) RVs.nil)) rfl ?_
      exact ⟨v6707, h6708, v6711, h6712, v6720, h6721, rfl, H6709, H6713, H6722, Mem.pick [0, 2, 3, 4, 5] rfl hm6923⟩
   ·
    replace he := bifF he hb6489
    refine c_false rfl (p := (decide (a1.Kind = 2))) rfl rfl hb6489 ?_
    refine wp_seq ?_
    refine wp_region_lit ?_
    refine s_val (v := (.bool (decide (a1.Kind = 3)))) (won rfl) rfl rfl (x_eql rfl (ev (t := 10) rfl rfl) rfl) ?_
    refine s_val (v := (.bool (decide (a1.Kind = 3)))) (won rfl) rfl rfl (x_assign rfl (ev (t := 38) rfl rfl)) ?_
    refine wpList_nil ?_
    refine nx ?_
    rcases Bool.eq_false_or_eq_true ((decide (a1.Kind = 3))) with hb6924 | hb6924
    ·
     replace he := bifT he hb6924
     refine c_true rfl (p := (decide (a1.Kind = 3))) rfl rfl hb6924 ?_
     refine wp_seq ?_
     refine wp_seq ?_
     refine wp_region_lit ?_
     refine s_val (v := (.pointer (some ⟨g4477, 1, none⟩))) (won rfl) rfl rfl (x_field rfl fa_74x1 (ev (t := 3) rfl rfl)) ?_
     refine s_val (v := (.int .i64 a1.N)) (won rfl) rfl rfl (x_load rfl ty1x3 (ev (t := 39) rfl rfl) (seg_cell (o' := 0) (j := 1) hm4484 (k := 1) rfl rfl rfl)) ?_
     refine s_val (v := (.bool (decide (a1.N ≤ 0)))) (won rfl) rfl rfl (x_leq rfl (ev (t := 40) rfl rfl) rfl) ?_
     refine wpList_nil ?_
     refine nx ?_
     rcases Bool.eq_false_or_eq_true ((decide (a1.N ≤ 0))) with hb6930 | hb6930
     ·
      replace he := bifT he hb6930
      refine c_true rfl (p := (decide (a1.N ≤ 0))) rfl rfl hb6930 ?_
      refine wp_seq ?_
      refine wp_region_lit ?_
      refine s_val (v := (.agg #[(.int .i64 4), (.slice none 0 0)])) (won rfl) rfl rfl (x_build (cells := [(.int .i64 4), (.slice none 0 0)]) (zc := [.int .i64 0, .slice none 0 0]) (sizes := [(0, 1), (1, 1)]) (ps := [(0, (.int .i64 4))]) rfl zt_71 rfl uf_71 ufz_71 (pmap_lit (pmap_cons rfl pmap_nil)) (fill_cons (cs := [(.int .i64 4)]) rfl rfl rfl fill_nil)) ?_
      refine s_exs (won rfl) rfl (e_store (vs := [(.int .i64 4), (.slice none 0 0)]) (o' := 0) (j := 0) rfl sz_71 (ev (t := 4) rfl rfl) (ev (t := 42) rfl rfl) rfl rfl hm4484 (k := 0) rfl rfl rfl) ?_
      intro w6932 hm6933
      replace hm6933 : Mem w0 w6932 (cat [sg g4482 71 (0, 0) [] [(.int .i64 4), (.slice none 0 0)] [], sg g4477 74 (0, 0) [] [(.int .i64 a1.Kind), (.int .i64 a1.N)] [], sg g0 T0 fr0 pre0 [(.int .i64 a0.Size), (.bool a0.Up), v0x2, v0x3, (.int .i64 a0.Lost), (.int .i64 a0.Pending), (.int .i64 a0.Every), (.int .i64 a0.Signals)] post0, h0x2, h0x3, hF]) := hm6933
      refine wpList_nil ?_
      have hm6934 : Mem w0 w6932 (cat [sg g4482 71 (0, 0) [] [(.int .i64 4), (.slice none 0 0)] [], sg g0 T0 fr0 pre0 [(.int .i64 a0.Size), (.bool a0.Up), v0x2, v0x3, (.int .i64 a0.Lost), (.int .i64 a0.Pending), (.int .i64 a0.Every), (.int .i64 a0.Signals)] post0, h0x2, h0x3, hF]) := Mem.pick [0, 2, 3, 4, 5] rfl hm6933
      refine nx ?_
      refine wp_ret ?_
      refine xr ?_
      refine rb ?_
      refine xr ?_
      obtain rfl := Option.some.inj he
      replace he := outE hk6475
      obtain rfl := Option.some.inj he
      refine r_ret (v := (.agg #[(.int .i64 4), (.slice none 0 0)])) (rv_one rfl (RVs.cell (cs := [(.int .i64 4), (.slice none 0 0)]) rfl rfl tyN_71 (seg_cells (o' := 0) (j := 0) hm6934 (k := 0) rfl rfl rfl) RVs.nil)) rfl ?_
      exact ⟨v0x2, h0x2, v0x3, h0x3, (.slice none 0 0), [], rfl, H0x2, H0x3, (OwF.nil 3 (FK.int .i64)), Mem.pick [1, 2, 3, 1000, 4] rfl hm6934⟩
     ·
      replace he := bifF he hb6930
      refine c_false rfl (p := (decide (a1.N ≤ 0))) rfl rfl hb6930 ?_
      refine wp_skip ?_
      refine nx ?_
      refine wp_seq ?_
      refine wp_qregion (cat [sg g4482 71 (0, 0) [] [(.int .i64 0), (.slice none 0 0)] [], sg g4477 74 (0, 0) [] [(.int .i64 a1.Kind), (.int .i64 a1.N)] [], sg g0 T0 fr0 pre0 [(.int .i64 a0.Size), (.bool a0.Up), v0x2, v0x3, (.int .i64 a0.Lost), (.int .i64 a0.Pending), (.int .i64 a0.Every), (.int .i64 a0.Signals)] post0, h0x2, h0x3, hF]) mixed (by kernel_rfl) hm4484 ?_
      refine q_val (v := (.pointer (some ⟨g4477, 1, none⟩))) (won rfl) rfl rfl (fun wq hq => (x_field rfl fa_74x1 (ev (t := 3) rfl rfl))) ?_
      refine q_val (v := (.int .i64 a1.N)) (won rfl) rfl rfl (fun wq hq => (x_load rfl ty1x3 (ev (t := 43) rfl rfl) (seg_cell (o' := 0) (j := 1) hq (k := 1) rfl rfl rfl))) ?_
      refine q_val (v := (.pointer (some ⟨g0, o0, none⟩))) (won rfl) rfl rfl (fun wq hq => (x_move rfl (ev (t := 0) rfl rfl))) ?_
      refine q_val (v := (.pointer (some ⟨g0, o0, none⟩))) (won rfl) rfl rfl (fun wq hq => (x_nil rfl (ev (t := 45) rfl rfl))) ?_
      refine q_val (v := (.pointer (some ⟨g0, o0 + 3, none⟩))) (won rfl) rfl rfl (fun wq hq => (x_field rfl fa_65x3 (ev (t := 46) rfl rfl))) ?_
      refine q_val (v := v0x3) (won rfl) rfl rfl (fun wq hq => (x_load rfl ty1x26 (ev (t := 47) rfl rfl) (seg_cell (o' := o0) (j := 3) hq (k := 2) rfl hp0 rfl))) ?_
      refine q_val (v := (.int .i64 (a0.Done.length : Int))) (won rfl) rfl rfl (fun wq hq => (x_len rfl slt_26 (ev (t := 48) rfl rfl) (H0x3).sl)) ?_
      refine q_val (v := (.int .i64 (iMin a1.N (a0.Done.length : Int)))) (won rfl) rfl rfl (fun wq hq => (x_min rfl (ev (t := 44) rfl rfl) (ev (t := 49) rfl rfl))) ?_
      refine q_val (v := (.int .i64 (iMin a1.N (a0.Done.length : Int)))) (won rfl) rfl rfl (fun wq hq => (x_assign rfl (ev (t := 50) rfl rfl))) ?_
      refine wpQuiet_nil ?_
      intro w6935 hm6936
      have hm6937 : Mem w0 w6935 (cat [sg g4482 71 (0, 0) [] [(.int .i64 0), (.slice none 0 0)] [], sg g0 T0 fr0 pre0 [(.int .i64 a0.Size), (.bool a0.Up), v0x2, v0x3, (.int .i64 a0.Lost), (.int .i64 a0.Pending), (.int .i64 a0.Every), (.int .i64 a0.Signals)] post0, h0x2, h0x3, hF]) := Mem.pick [0, 2, 3, 4, 5] rfl hm6936
      refine nx ?_
      refine wp_seq ?_
      obtain ⟨hg6943, he⟩ := gdE he
      obtain ⟨hg6945, he⟩ := gdE he
      refine wp_region_lit ?_
      refine s_exv (won rfl) rfl rfl (e_litp (cells := []) (ps := []) rfl slt_26 (pmap_lit pmap_nil) (fun w1 => run_bslice0 slt_26) hm6937) ?_
      rintro g6940 w6938 hm6939
      have H6941 : OwF 3 (FK.int .i64) (.slice (some ⟨g6940, 0, none⟩) 0 0) ([] : List Int) (sg g6940 3 (0, 0) [] (encs (FK.int .i64) ([] : List Int)) []) := OwF.lit g6940 ([] : List Int) 0 rfl (by decide)
      replace hm6939 : Mem w0 w6938 (cat [(sg g6940 3 (0, 0) [] (encs (FK.int .i64) ([] : List Int)) []), sg g4482 71 (0, 0) [] [(.int .i64 0), (.slice none 0 0)] [], sg g0 T0 fr0 pre0 [(.int .i64 a0.Size), (.bool a0.Up), v0x2, v0x3, (.int .i64 a0.Lost), (.int .i64 a0.Pending), (.int .i64 a0.Every), (.int .i64 a0.Signals)] post0, h0x2, h0x3, hF]) := hm6939
      refine s_val (v := (.pointer (some ⟨g0, o0, none⟩))) (won rfl) rfl rfl (x_move rfl (ev (t := 0) rfl rfl)) ?_
      refine s_val (v := (.pointer (some ⟨g0, o0, none⟩))) (won rfl) rfl rfl (x_nil rfl (ev (t := 52) rfl rfl)) ?_
      refine s_val (v := (.pointer (some ⟨g0, o0 + 3, none⟩))) (won rfl) rfl rfl (x_field rfl fa_65x3 (ev (t := 53) rfl rfl)) ?_
      refine s_val (v := v0x3) (won rfl) rfl rfl (x_load rfl ty1x26 (ev (t := 54) rfl rfl) (seg_cell (o' := o0) (j := 3) hm6939 (k := 2) rfl hp0 rfl)) ?_
      refine s_val (v := (.int .i64 (iMin a1.N (a0.Done.length : Int)))) (won rfl) rfl rfl (x_move rfl (ev (t := 6) rfl rfl)) ?_
      refine s_val (v := (cutV v0x3 0 (Int.toNat (iMin a1.N (a0.Done.length : Int))) 1)) (won rfl) rfl rfl (y_slice_h rfl slt_26 (ev (t := 55) rfl rfl) (ev (t := 56) rfl rfl) (H0x3).sl hg6943.1 hg6943.2) ?_
      refine s_exv (won rfl) rfl rfl (e_append (bytes := 8) rfl slt_26 rfl (ev (t := 51) rfl rfl) (ev (t := 57) rfl rfl) H6941 (k := 0) rfl (cutV_rd (a := 0) (b := (Int.toNat (iMin a1.N (a0.Done.length : Int)))) (H0x3.rd w0) (Nat.zero_le _) (by have := hg6943; omega)) (Sub.at_ (k := 4) rfl) hm6939 hg6945 (len63 hg6945 rfl)) ?_
      rintro p6947 w6949 ⟨H6948, hm6950⟩
      replace hm6950 : Mem w0 w6949 (cat [p6947.2, sg g4482 71 (0, 0) [] [(.int .i64 0), (.slice none 0 0)] [], sg g0 T0 fr0 pre0 [(.int .i64 a0.Size), (.bool a0.Up), v0x2, v0x3, (.int .i64 a0.Lost), (.int .i64 a0.Pending), (.int .i64 a0.Every), (.int .i64 a0.Signals)] post0, h0x2, h0x3, hF]) := hm6950
      refine s_val (v := (.agg #[(.int .i64 0), p6947.1])) (won rfl) rfl rfl (x_build (cells := [(.int .i64 0), p6947.1]) (zc := [.int .i64 0, .slice none 0 0]) (sizes := [(0, 1), (1, 1)]) (ps := [(1, p6947.1)]) rfl zt_71 rfl uf_71 ufz_71 (pmap_lit (pmap_cons (ev (t := 58) rfl rfl) pmap_nil)) (fill_cons (cs := [p6947.1]) rfl (IsSl.cells (H6948).sl) rfl fill_nil)) ?_
      refine s_exv (won rfl) rfl rfl (e_alloc (vs := [(.int .i64 0), (.slice none 0 0)]) rfl zt_71 rfl hm6950) ?_
      rintro g6953 w6954 hm6955
      refine s_exs (won rfl) rfl (e_store (vs := [(.int .i64 0), p6947.1]) (o' := 0) (j := 0) rfl sz_71 (ev (t := 7) rfl rfl) (ev (t := 59) rfl rfl) rfl (one_cons rfl (one_cons (IsSl.one (H6948).sl) one_nil)) hm6955 (k := 0) rfl rfl rfl) ?_
      intro w6957 hm6958
      replace hm6958 : Mem w0 w6957 (cat [sg g6953 71 (0, 0) [] [(.int .i64 0), p6947.1] [], p6947.2, sg g4482 71 (0, 0) [] [(.int .i64 0), (.slice none 0 0)] [], sg g0 T0 fr0 pre0 [(.int .i64 a0.Size), (.bool a0.Up), v0x2, v0x3, (.int .i64 a0.Lost), (.int .i64 a0.Pending), (.int .i64 a0.Every), (.int .i64 a0.Signals)] post0, h0x2, h0x3, hF]) := hm6958
      refine wpList_nil ?_
      refine nx ?_
      refine wp_seq ?_
      obtain ⟨hg6959, he⟩ := gdE he
      refine wp_region_lit ?_
      refine s_val (v := (.pointer (some ⟨g0, o0, none⟩))) (won rfl) rfl rfl (x_move rfl (ev (t := 0) rfl rfl)) ?_
      refine s_val (v := (.pointer (some ⟨g0, o0, none⟩))) (won rfl) rfl rfl (x_move rfl (ev (t := 0) rfl rfl)) ?_
      refine s_val (v := (.pointer (some ⟨g0, o0, none⟩))) (won rfl) rfl rfl (x_nil rfl (ev (t := 61) rfl rfl)) ?_
      refine s_val (v := (.pointer (some ⟨g0, o0 + 3, none⟩))) (won rfl) rfl rfl (x_field rfl fa_65x3 (ev (t := 62) rfl rfl)) ?_
      refine s_val (v := v0x3) (won rfl) rfl rfl (x_load rfl ty1x26 (ev (t := 63) rfl rfl) (seg_cell (o' := o0) (j := 3) hm6958 (k := 3) rfl hp0 rfl)) ?_
      refine s_val (v := (.int .i64 (iMin a1.N (a0.Done.length : Int)))) (won rfl) rfl rfl (x_move rfl (ev (t := 6) rfl rfl)) ?_
      refine s_val (v := (cutV v0x3 (Int.toNat (iMin a1.N (a0.Done.length : Int))) a0.Done.length 1)) (won rfl) rfl rfl (y_slice_l rfl slt_26 (ev (t := 64) rfl rfl) (ev (t := 65) rfl rfl) (H0x3).sl hg6959.1 hg6959.2) ?_
      refine s_val (v := (.pointer (some ⟨g0, o0, none⟩))) (won rfl) rfl rfl (x_nil rfl (ev (t := 60) rfl rfl)) ?_
      refine s_val (v := (.pointer (some ⟨g0, o0 + 3, none⟩))) (won rfl) rfl rfl (x_field rfl fa_65x3 (ev (t := 67) rfl rfl)) ?_
      refine s_exs (won rfl) rfl (e_store (vs := [(cutV v0x3 (Int.toNat (iMin a1.N (a0.Done.length : Int))) a0.Done.length 1)]) (o' := o0) (j := 3) rfl sz_26 (ev (t := 68) rfl rfl) (ev (t := 66) rfl rfl) (IsSl.cells ((cutV_rd (a := (Int.toNat (iMin a1.N (a0.Done.length : Int)))) (b := a0.Done.length) (H0x3.rd w0) (by have := hg6959; omega) (Nat.le_refl _))).sl) (one_cons (IsSl.one ((cutV_rd (a := (Int.toNat (iMin a1.N (a0.Done.length : Int)))) (b := a0.Done.length) (H0x3.rd w0) (by have := hg6959; omega) (Nat.le_refl _))).sl) one_nil) hm6958 (k := 3) rfl hp0 rfl) ?_
      intro w6961 hm6962
      replace hm6962 : Mem w0 w6961 (cat [sg g6953 71 (0, 0) [] [(.int .i64 0), p6947.1] [], p6947.2, sg g4482 71 (0, 0) [] [(.int .i64 0), (.slice none 0 0)] [], sg g0 T0 fr0 pre0 [(.int .i64 a0.Size), (.bool a0.Up), v0x2, (cutV v0x3 (Int.toNat (iMin a1.N (a0.Done.length : Int))) a0.Done.length 1), (.int .i64 a0.Lost), (.int .i64 a0.Pending), (.int .i64 a0.Every), (.int .i64 a0.Signals)] post0, h0x2, h0x3, hF]) := hm6962
      refine wpList_nil ?_
      refine nx ?_
      refine wp_seq ?_
      refine wp_fit [(0, 1), (1, 1), (2, 1), (3, 1), (4, 1), (5, 1), (6, 1), (7, 1), (8, 1), (9, 1), (10, 1), (11, 1), (12, 1), (13, 2)] (fun w' => Mem w0 w' (cat [sg g6953 71 (0, 0) [] [(.int .i64 0), p6947.1] [], p6947.2, sg g4482 71 (0, 0) [] [(.int .i64 0), (.slice none 0 0)] [], h0x2, h0x3, hF])) mixed (by kernel_rfl) (Mem.drew (Mem.pick [0, 1, 2, 4, 5, 6] rfl hm6962)) ?_
      have hm6963 := Mem.drew hm6962
      refine z_r (v := (.pointer (some ⟨g0, o0, none⟩))) rfl (won rfl) rfl rfl ((x_move rfl (ev (t := 0) rfl rfl))) ?_
      refine z_r (v := (.pointer (some ⟨g0, o0, none⟩))) rfl (won rfl) rfl rfl ((x_move rfl (ev (t := 0) rfl rfl))) ?_
      refine z_r (v := (.pointer (some ⟨g0, o0, none⟩))) rfl (won rfl) rfl rfl ((x_nil rfl (ev (t := 70) rfl rfl))) ?_
      refine z_r (v := (.pointer (some ⟨g0, o0 + 5, none⟩))) rfl (won rfl) rfl rfl ((x_field rfl fa_65x5 (ev (t := 71) rfl rfl))) ?_
      refine z_r (v := (.int .i64 a0.Pending)) rfl (won rfl) rfl rfl ((x_load rfl ty1x3 (ev (t := 72) rfl rfl) (seg_cell (o' := o0) (j := 5) hm6963 (k := 3) rfl hp0 rfl))) ?_
      refine z_r (v := (.pointer (some ⟨g0, o0, none⟩))) rfl (won rfl) rfl rfl ((x_move rfl (ev (t := 0) rfl rfl))) ?_
      refine z_r (v := (.pointer (some ⟨g0, o0, none⟩))) rfl (won rfl) rfl rfl ((x_nil rfl (ev (t := 74) rfl rfl))) ?_
      refine z_r (v := (.pointer (some ⟨g0, o0 + 3, none⟩))) rfl (won rfl) rfl rfl ((x_field rfl fa_65x3 (ev (t := 75) rfl rfl))) ?_
      refine z_r (v := (cutV v0x3 (Int.toNat (iMin a1.N (a0.Done.length : Int))) a0.Done.length 1)) rfl (won rfl) rfl rfl ((x_load rfl ty1x26 (ev (t := 76) rfl rfl) (seg_cell (o' := o0) (j := 3) hm6963 (k := 3) rfl hp0 rfl))) ?_
      refine z_r (v := (.int .i64 ((slc a0.Done (Int.toNat (iMin a1.N (a0.Done.length : Int))) a0.Done.length).length : Int))) rfl (won rfl) rfl rfl ((x_len rfl slt_26 (ev (t := 77) rfl rfl) ((cutV_rd (a := (Int.toNat (iMin a1.N (a0.Done.length : Int)))) (b := a0.Done.length) (H0x3.rd w0) (by have := hg6959; omega) (Nat.le_refl _))).sl)) ?_
      refine z_r (v := (.int .i64 (iMin a0.Pending ((slc a0.Done (Int.toNat (iMin a1.N (a0.Done.length : Int))) a0.Done.length).length : Int)))) rfl (won rfl) rfl rfl ((x_min rfl (ev (t := 73) rfl rfl) (ev (t := 78) rfl rfl))) ?_
      refine z_r (v := (.pointer (some ⟨g0, o0, none⟩))) rfl (won rfl) rfl rfl ((x_nil rfl (ev (t := 69) rfl rfl))) ?_
      refine z_r (v := (.pointer (some ⟨g0, o0 + 5, none⟩))) rfl (won rfl) rfl rfl ((x_field rfl fa_65x5 (ev (t := 80) rfl rfl))) ?_
      refine z_exs rfl (won rfl) rfl (e_store (vs := [(.int .i64 (iMin a0.Pending ((slc a0.Done (Int.toNat (iMin a1.N (a0.Done.length : Int))) a0.Done.length).length : Int)))]) (o' := o0) (j := 5) rfl sz_3 (ev (t := 81) rfl rfl) (ev (t := 79) rfl rfl) rfl rfl hm6963 (k := 3) rfl hp0 rfl) ?_
      intro w6964 hm6965
      replace hm6965 : Mem w0 w6964 (cat [sg g6953 71 (0, 0) [] [(.int .i64 0), p6947.1] [], p6947.2, sg g4482 71 (0, 0) [] [(.int .i64 0), (.slice none 0 0)] [], sg g0 T0 fr0 pre0 [(.int .i64 a0.Size), (.bool a0.Up), v0x2, (cutV v0x3 (Int.toNat (iMin a1.N (a0.Done.length : Int))) a0.Done.length 1), (.int .i64 a0.Lost), (.int .i64 (iMin a0.Pending ((slc a0.Done (Int.toNat (iMin a1.N (a0.Done.length : Int))) a0.Done.length).length : Int))), (.int .i64 a0.Every), (.int .i64 a0.Signals)] post0, h0x2, h0x3, hF]) := hm6965
      refine ⟨Mem.pick [0, 1, 2, 4, 5, 6] rfl hm6965, ?_⟩
      refine z_nil ?_
      refine nx ?_
      refine wp_seq ?_
      refine wp_region_lit ?_
      refine s_val (v := (.agg #[(.int .i64 0), p6947.1])) (won rfl) rfl rfl (x_loadN (vs := [(.int .i64 0), p6947.1]) rfl tyN_71 (ev (t := 7) rfl rfl) (seg_cells (o' := 0) (j := 0) hm6965 (k := 0) rfl rfl rfl)) ?_
      refine s_exs (won rfl) rfl (e_store (vs := [(.int .i64 0), p6947.1]) (o' := 0) (j := 0) rfl sz_71 (ev (t := 4) rfl rfl) (ev (t := 82) rfl rfl) rfl (one_cons rfl (one_cons (IsSl.one (H6948).sl) one_nil)) hm6965 (k := 2) rfl rfl rfl) ?_
      intro w6966 hm6967
      replace hm6967 : Mem w0 w6966 (cat [sg g6953 71 (0, 0) [] [(.int .i64 0), p6947.1] [], p6947.2, sg g4482 71 (0, 0) [] [(.int .i64 0), p6947.1] [], sg g0 T0 fr0 pre0 [(.int .i64 a0.Size), (.bool a0.Up), v0x2, (cutV v0x3 (Int.toNat (iMin a1.N (a0.Done.length : Int))) a0.Done.length 1), (.int .i64 a0.Lost), (.int .i64 (iMin a0.Pending ((slc a0.Done (Int.toNat (iMin a1.N (a0.Done.length : Int))) a0.Done.length).length : Int))), (.int .i64 a0.Every), (.int .i64 a0.Signals)] post0, h0x2, h0x3, hF]) := hm6967
      refine wpList_nil ?_
      have hm6968 : Mem w0 w6966 (cat [p6947.2, sg g4482 71 (0, 0) [] [(.int .i64 0), p6947.1] [], sg g0 T0 fr0 pre0 [(.int .i64 a0.Size), (.bool a0.Up), v0x2, (cutV v0x3 (Int.toNat (iMin a1.N (a0.Done.length : Int))) a0.Done.length 1), (.int .i64 a0.Lost), (.int .i64 (iMin a0.Pending ((slc a0.Done (Int.toNat (iMin a1.N (a0.Done.length : Int))) a0.Done.length).length : Int))), (.int .i64 a0.Every), (.int .i64 a0.Signals)] post0, h0x2, h0x3, hF]) := Mem.pick [1, 2, 3, 4, 5, 6] rfl hm6967
      refine nx ?_
      refine wp_ret ?_
      refine rb ?_
      refine xr ?_
      obtain rfl := Option.some.inj he
      replace he := outE hk6475
      obtain rfl := Option.some.inj he
      refine r_ret (v := (.agg #[(.int .i64 0), p6947.1])) (rv_one rfl (RVs.cell (cs := [(.int .i64 0), p6947.1]) rfl rfl tyN_71 (seg_cells (o' := 0) (j := 0) hm6968 (k := 1) rfl rfl rfl) RVs.nil)) rfl ?_
      exact ⟨v0x2, h0x2, (cutV v0x3 (Int.toNat (iMin a1.N (a0.Done.length : Int))) a0.Done.length 1), h0x3, p6947.1, p6947.2, rfl, H0x2, (OwF.cut (a := (Int.toNat (iMin a1.N (a0.Done.length : Int)))) (b := a0.Done.length) H0x3 (by have := hg6959; omega) (Nat.le_refl _)), H6948, Mem.pick [2, 3, 4, 0, 5] rfl hm6968⟩
    ·
     replace he := bifF he hb6924
     refine c_false rfl (p := (decide (a1.Kind = 3))) rfl rfl hb6924 ?_
     refine wp_seq ?_
     refine wp_region_lit ?_
     refine s_val (v := (.bool (decide (a1.Kind = 4)))) (won rfl) rfl rfl (x_eql rfl (ev (t := 10) rfl rfl) rfl) ?_
     refine s_val (v := (.bool (decide (a1.Kind = 4)))) (won rfl) rfl rfl (x_assign rfl (ev (t := 84) rfl rfl)) ?_
     refine wpList_nil ?_
     refine nx ?_
     rcases Bool.eq_false_or_eq_true ((decide (a1.Kind = 4))) with hb6969 | hb6969
     ·
      replace he := bifT he hb6969
      refine c_true rfl (p := (decide (a1.Kind = 4))) rfl rfl hb6969 ?_
      refine wp_seq ?_
      obtain ⟨hg7501, he⟩ := gdE he
      obtain ⟨hg8001, he⟩ := gdE he
      obtain ⟨hz7000, hze7000⟩ : ∃ hz : Hp, hz = cat [sg g4482 71 (0, 0) [] [(.int .i64 0), (.slice none 0 0)] [], sg g4477 74 (0, 0) [] [(.int .i64 a1.Kind), (.int .i64 a1.N)] [], hF] := ⟨_, rfl⟩
      have hm7000 : Mem w0 w4483 (cat [sg g0 T0 fr0 pre0 [(.int .i64 a0.Size), (.bool a0.Up), v0x2, v0x3, (.int .i64 a0.Lost), (.int .i64 a0.Pending), (.int .i64 a0.Every), (.int .i64 a0.Signals)] post0, h0x2, h0x3, hz7000]) := by rw [hze7000]; exact Mem.grp [sg g0 T0 fr0 pre0 [(.int .i64 a0.Size), (.bool a0.Up), v0x2, v0x3, (.int .i64 a0.Lost), (.int .i64 a0.Pending), (.int .i64 a0.Every), (.int .i64 a0.Signals)] post0, h0x2, h0x3] [sg g4482 71 (0, 0) [] [(.int .i64 0), (.slice none 0 0)] [], sg g4477 74 (0, 0) [] [(.int .i64 a1.Kind), (.int .i64 a1.N)] [], hF] (Mem.pick [2, 3, 4, 0, 1, 5] rfl hm4484)
      refine wp_drawF (I := fun f b a w => ∃ (vs : Nat → Value) (g7003 : Nat) (p7503 : Value × Hp) (p8003 : Value × Hp) (g8202 : Nat), a = fr 117 (sel b [(0, 85), (1, 86), (2, 87), (3, 88), (4, 89), (5, 90), (6, 91), (7, 92), (8, 93), (9, 94), (10, 95), (11, 96), (12, 8)] vs f) ∧ (b 0 = true → vs 0 = (.slice (some ⟨g7003, 0, none⟩) 0 0)) ∧ (b 1 = true → vs 1 = (.pointer (some ⟨g0, o0, none⟩))) ∧ (b 2 = true → vs 2 = (.pointer (some ⟨g0, o0, none⟩))) ∧ (b 3 = true → vs 3 = (.pointer (some ⟨g0, o0 + 3, none⟩))) ∧ (b 4 = true → vs 4 = v0x3) ∧ (b 5 = true → vs 5 = p7503.1) ∧ (b 6 = true → vs 6 = (.pointer (some ⟨g0, o0, none⟩))) ∧ (b 7 = true → vs 7 = (.pointer (some ⟨g0, o0, none⟩))) ∧ (b 8 = true → vs 8 = (.pointer (some ⟨g0, o0 + 2, none⟩))) ∧ (b 9 = true → vs 9 = v0x2) ∧ (b 10 = true → vs 10 = p8003.1) ∧ (b 11 = true → vs 11 = (.agg #[(.int .i64 0), p8003.1])) ∧ (b 12 = true → vs 12 = (.pointer (some ⟨g8202, 0, none⟩))) ∧ (b 0 = true → OwF 3 (FK.int .i64) (.slice (some ⟨g7003, 0, none⟩) 0 0) ([] : List Int) (sg g7003 3 (0, 0) [] (encs (FK.int .i64) ([] : List Int)) [])) ∧ (b 5 = true → OwF 3 (FK.int .i64) p7503.1 (([] : List Int) ++ a0.Done) p7503.2) ∧ (b 10 = true → OwF 3 (FK.int .i64) p8003.1 ((([] : List Int) ++ a0.Done) ++ a0.Posted) p8003.2) ∧ Mem w0 w (cat [sg g0 T0 fr0 pre0 [(.int .i64 a0.Size), (.bool a0.Up), v0x2, v0x3, (.int .i64 a0.Lost), (.int .i64 a0.Pending), (.int .i64 a0.Every), (.int .i64 a0.Signals)] post0, h0x2, h0x3, hz7000, (bif b 5 then [] else (bif b 0 then (sg g7003 3 (0, 0) [] (encs (FK.int .i64) ([] : List Int)) []) else [])), (bif b 10 then [] else (bif b 5 then p7503.2 else [])), (bif b 10 then p8003.2 else []), (bif b 13 then sg g8202 71 (0, 0) [] [(.int .i64 0), p8003.1] [] else (bif b 12 then sg g8202 71 (0, 0) [] [(.int .i64 0), (.slice none 0 0)] [] else []))])) mixed (by kernel_rfl) ⟨fun _ => undef, 0, (undef, []), (undef, []), 0, (by rw [sel_false]), fun h => fno h, fun h => fno h, fun h => fno h, fun h => fno h, fun h => fno h, fun h => fno h, fun h => fno h, fun h => fno h, fun h => fno h, fun h => fno h, fun h => fno h, fun h => fno h, fun h => fno h, fun h => fno h, fun h => fno h, fun h => fno h, Mem.drew (Mem.pick [0, 1, 2, 3, 1000, 1001, 1002, 1003] rfl hm7000)⟩ (steps_cons (i := 0) ?_ (steps_cons (i := 1) ?_ (steps_cons (i := 2) ?_ (steps_cons (i := 3) ?_ (steps_cons (i := 4) ?_ (steps_cons (i := 5) ?_ (steps_cons (i := 6) ?_ (steps_cons (i := 7) ?_ (steps_cons (i := 8) ?_ (steps_cons (i := 9) ?_ (steps_cons (i := 10) ?_ (steps_cons (i := 11) ?_ (steps_cons (i := 12) ?_ (steps_cons (i := 13) ?_ steps_nil)))))))))))))) ?_
      ·
       intro b a w hI hbi hn hc K hK
       obtain ⟨vs, g7003, p7503, p8003, g8202, ha, y0, y1, y2, y3, y4, y5, y6, y7, y8, y9, y10, y11, y12, H7004, H7504, H8004, hm⟩ := hI
       subst ha
       have b5 : b 5 = false := later (j := 5) hc rfl (i := 0) (da rfl) hbi
       have b10 : b 10 = false := later (j := 10) hc rfl (i := 5) (da rfl) b5
       have b11 : b 11 = false := later (j := 11) hc rfl (i := 10) (da rfl) b10
       have b13 : b 13 = false := later (j := 13) hc rfl (i := 0) (da rfl) hbi
       have hm8401 : Mem w0 w (cat [sg g0 T0 fr0 pre0 [(.int .i64 a0.Size), (.bool a0.Up), v0x2, v0x3, (.int .i64 a0.Lost), (.int .i64 a0.Pending), (.int .i64 a0.Every), (.int .i64 a0.Signals)] post0, h0x2, h0x3, hz7000, (bif b 12 then sg g8202 71 (0, 0) [] [(.int .i64 0), (.slice none 0 0)] [] else [])]) := Mem.pick [0, 1, 2, 3, 7] rfl (Mem.cg (B := [sg g0 T0 fr0 pre0 [(.int .i64 a0.Size), (.bool a0.Up), v0x2, v0x3, (.int .i64 a0.Lost), (.int .i64 a0.Pending), (.int .i64 a0.Every), (.int .i64 a0.Signals)] post0, h0x2, h0x3, hz7000, [], [], [], (bif b 12 then sg g8202 71 (0, 0) [] [(.int .i64 0), (.slice none 0 0)] [] else [])]) (cat_cons rfl (cat_cons rfl (cat_cons rfl (cat_cons rfl (cat_cons (off_ b5 (off_ hbi rfl)) (cat_cons (off_ b10 (off_ b5 rfl)) (cat_cons (off_ b10 rfl) (cat_cons (off_ b13 rfl) rfl)))))))) hm)
       refine e_exv (i := 0) hbi rfl rfl (won rfl) rfl rfl (e_litp (cells := []) (ps := []) rfl slt_26 (pmap_lit pmap_nil) (fun w1 => run_bslice0 slt_26) hm8401) ?_
       rintro g7003 w7001 hm7002
       have H7004 : OwF 3 (FK.int .i64) (.slice (some ⟨g7003, 0, none⟩) 0 0) ([] : List Int) (sg g7003 3 (0, 0) [] (encs (FK.int .i64) ([] : List Int)) []) := OwF.lit g7003 ([] : List Int) 0 rfl (by decide)
       replace hm7002 : Mem w0 w7001 (cat [(sg g7003 3 (0, 0) [] (encs (FK.int .i64) ([] : List Int)) []), sg g0 T0 fr0 pre0 [(.int .i64 a0.Size), (.bool a0.Up), v0x2, v0x3, (.int .i64 a0.Lost), (.int .i64 a0.Pending), (.int .i64 a0.Every), (.int .i64 a0.Signals)] post0, h0x2, h0x3, hz7000, (bif b 12 then sg g8202 71 (0, 0) [] [(.int .i64 0), (.slice none 0 0)] [] else [])]) := hm7002
       exact hK _ _ ⟨_, g7003, p7503, p8003, g8202, rfl, fun _ => rfl, y1, y2, y3, y4, y5, y6, y7, y8, y9, y10, y11, y12, fun _ => H7004, H7504, H8004, Mem.gc (A := [sg g0 T0 fr0 pre0 [(.int .i64 a0.Size), (.bool a0.Up), v0x2, v0x3, (.int .i64 a0.Lost), (.int .i64 a0.Pending), (.int .i64 a0.Every), (.int .i64 a0.Signals)] post0, h0x2, h0x3, hz7000, (sg g7003 3 (0, 0) [] (encs (FK.int .i64) ([] : List Int)) []), [], [], (bif b 12 then sg g8202 71 (0, 0) [] [(.int .i64 0), (.slice none 0 0)] [] else [])]) (cat_cons rfl (cat_cons rfl (cat_cons rfl (cat_cons rfl (cat_cons (off_ b5 (on_ rfl rfl)) (cat_cons (off_ b10 (off_ b5 rfl)) (cat_cons (off_ b10 rfl) (cat_cons (off_ b13 rfl) rfl)))))))) (Mem.pick [1, 2, 3, 4, 0, 1005, 1006, 5] rfl hm7002)⟩
      ·
       intro b a w hI hbi hn hc K hK
       obtain ⟨vs, g7003, p7503, p8003, g8202, ha, y0, y1, y2, y3, y4, y5, y6, y7, y8, y9, y10, y11, y12, H7004, H7504, H8004, hm⟩ := hI
       subst ha
       have b2 : b 2 = false := later (j := 2) hc rfl (i := 1) (da rfl) hbi
       have b3 : b 3 = false := later (j := 3) hc rfl (i := 2) (da rfl) b2
       have b4 : b 4 = false := later (j := 4) hc rfl (i := 3) (da rfl) b3
       have b5 : b 5 = false := later (j := 5) hc rfl (i := 4) (da rfl) b4
       have b10 : b 10 = false := later (j := 10) hc rfl (i := 5) (da rfl) b5
       have b11 : b 11 = false := later (j := 11) hc rfl (i := 10) (da rfl) b10
       have b13 : b 13 = false := later (j := 13) hc rfl (i := 1) (da rfl) hbi
       have hm8404 : Mem w0 w (cat [sg g0 T0 fr0 pre0 [(.int .i64 a0.Size), (.bool a0.Up), v0x2, v0x3, (.int .i64 a0.Lost), (.int .i64 a0.Pending), (.int .i64 a0.Every), (.int .i64 a0.Signals)] post0, h0x2, h0x3, hz7000, (bif b 0 then (sg g7003 3 (0, 0) [] (encs (FK.int .i64) ([] : List Int)) []) else []), (bif b 12 then sg g8202 71 (0, 0) [] [(.int .i64 0), (.slice none 0 0)] [] else [])]) := Mem.pick [0, 1, 2, 3, 4, 7] rfl (Mem.cg (B := [sg g0 T0 fr0 pre0 [(.int .i64 a0.Size), (.bool a0.Up), v0x2, v0x3, (.int .i64 a0.Lost), (.int .i64 a0.Pending), (.int .i64 a0.Every), (.int .i64 a0.Signals)] post0, h0x2, h0x3, hz7000, (bif b 0 then (sg g7003 3 (0, 0) [] (encs (FK.int .i64) ([] : List Int)) []) else []), [], [], (bif b 12 then sg g8202 71 (0, 0) [] [(.int .i64 0), (.slice none 0 0)] [] else [])]) (cat_cons rfl (cat_cons rfl (cat_cons rfl (cat_cons rfl (cat_cons (off_ b5 rfl) (cat_cons (off_ b10 (off_ b5 rfl)) (cat_cons (off_ b10 rfl) (cat_cons (off_ b13 rfl) rfl)))))))) hm)
       refine e_val (i := 1) hbi rfl rfl (v := (.pointer (some ⟨g0, o0, none⟩))) (won rfl) rfl rfl (x_move rfl (ev (t := 0) (v := (.pointer (some ⟨g0, o0, none⟩))) rfl ((sel_no rfl).trans rfl))) ?_
       exact hK _ _ ⟨_, g7003, p7503, p8003, g8202, rfl, y0, fun _ => rfl, y2, y3, y4, y5, y6, y7, y8, y9, y10, y11, y12, H7004, H7504, H8004, Mem.gc (A := [sg g0 T0 fr0 pre0 [(.int .i64 a0.Size), (.bool a0.Up), v0x2, v0x3, (.int .i64 a0.Lost), (.int .i64 a0.Pending), (.int .i64 a0.Every), (.int .i64 a0.Signals)] post0, h0x2, h0x3, hz7000, (bif b 0 then (sg g7003 3 (0, 0) [] (encs (FK.int .i64) ([] : List Int)) []) else []), [], [], (bif b 12 then sg g8202 71 (0, 0) [] [(.int .i64 0), (.slice none 0 0)] [] else [])]) (cat_cons rfl (cat_cons rfl (cat_cons rfl (cat_cons rfl (cat_cons (off_ b5 rfl) (cat_cons (off_ b10 (off_ b5 rfl)) (cat_cons (off_ b10 rfl) (cat_cons (off_ b13 rfl) rfl)))))))) (Mem.pick [0, 1, 2, 3, 4, 1005, 1006, 5] rfl hm8404)⟩
      ·
       intro b a w hI hbi hn hc K hK
       obtain ⟨vs, g7003, p7503, p8003, g8202, ha, y0, y1, y2, y3, y4, y5, y6, y7, y8, y9, y10, y11, y12, H7004, H7504, H8004, hm⟩ := hI
       subst ha
       have b1 : b 1 = true := hn 1 (da rfl)
       have b3 : b 3 = false := later (j := 3) hc rfl (i := 2) (da rfl) hbi
       have b4 : b 4 = false := later (j := 4) hc rfl (i := 3) (da rfl) b3
       have b5 : b 5 = false := later (j := 5) hc rfl (i := 4) (da rfl) b4
       have b10 : b 10 = false := later (j := 10) hc rfl (i := 5) (da rfl) b5
       have b11 : b 11 = false := later (j := 11) hc rfl (i := 10) (da rfl) b10
       have b13 : b 13 = false := later (j := 13) hc rfl (i := 2) (da rfl) hbi
       have hm8407 : Mem w0 w (cat [sg g0 T0 fr0 pre0 [(.int .i64 a0.Size), (.bool a0.Up), v0x2, v0x3, (.int .i64 a0.Lost), (.int .i64 a0.Pending), (.int .i64 a0.Every), (.int .i64 a0.Signals)] post0, h0x2, h0x3, hz7000, (bif b 0 then (sg g7003 3 (0, 0) [] (encs (FK.int .i64) ([] : List Int)) []) else []), (bif b 12 then sg g8202 71 (0, 0) [] [(.int .i64 0), (.slice none 0 0)] [] else [])]) := Mem.pick [0, 1, 2, 3, 4, 7] rfl (Mem.cg (B := [sg g0 T0 fr0 pre0 [(.int .i64 a0.Size), (.bool a0.Up), v0x2, v0x3, (.int .i64 a0.Lost), (.int .i64 a0.Pending), (.int .i64 a0.Every), (.int .i64 a0.Signals)] post0, h0x2, h0x3, hz7000, (bif b 0 then (sg g7003 3 (0, 0) [] (encs (FK.int .i64) ([] : List Int)) []) else []), [], [], (bif b 12 then sg g8202 71 (0, 0) [] [(.int .i64 0), (.slice none 0 0)] [] else [])]) (cat_cons rfl (cat_cons rfl (cat_cons rfl (cat_cons rfl (cat_cons (off_ b5 rfl) (cat_cons (off_ b10 (off_ b5 rfl)) (cat_cons (off_ b10 rfl) (cat_cons (off_ b13 rfl) rfl)))))))) hm)
       refine e_val (i := 2) hbi rfl rfl (v := (.pointer (some ⟨g0, o0, none⟩))) (won rfl) rfl rfl (x_nil rfl (ev (t := 86) (v := (.pointer (some ⟨g0, o0, none⟩))) rfl ((sel_on (p := (1, 86)) rfl b1).trans (y1 b1)))) ?_
       exact hK _ _ ⟨_, g7003, p7503, p8003, g8202, rfl, y0, y1, fun _ => rfl, y3, y4, y5, y6, y7, y8, y9, y10, y11, y12, H7004, H7504, H8004, Mem.gc (A := [sg g0 T0 fr0 pre0 [(.int .i64 a0.Size), (.bool a0.Up), v0x2, v0x3, (.int .i64 a0.Lost), (.int .i64 a0.Pending), (.int .i64 a0.Every), (.int .i64 a0.Signals)] post0, h0x2, h0x3, hz7000, (bif b 0 then (sg g7003 3 (0, 0) [] (encs (FK.int .i64) ([] : List Int)) []) else []), [], [], (bif b 12 then sg g8202 71 (0, 0) [] [(.int .i64 0), (.slice none 0 0)] [] else [])]) (cat_cons rfl (cat_cons rfl (cat_cons rfl (cat_cons rfl (cat_cons (off_ b5 rfl) (cat_cons (off_ b10 (off_ b5 rfl)) (cat_cons (off_ b10 rfl) (cat_cons (off_ b13 rfl) rfl)))))))) (Mem.pick [0, 1, 2, 3, 4, 1005, 1006, 5] rfl hm8407)⟩
      ·
       intro b a w hI hbi hn hc K hK
       obtain ⟨vs, g7003, p7503, p8003, g8202, ha, y0, y1, y2, y3, y4, y5, y6, y7, y8, y9, y10, y11, y12, H7004, H7504, H8004, hm⟩ := hI
       subst ha
       have b2 : b 2 = true := hn 2 (da rfl)
       have b1 : b 1 = true := hc 2 _ rfl b2 1 (da rfl)
       have b4 : b 4 = false := later (j := 4) hc rfl (i := 3) (da rfl) hbi
       have b5 : b 5 = false := later (j := 5) hc rfl (i := 4) (da rfl) b4
       have b10 : b 10 = false := later (j := 10) hc rfl (i := 5) (da rfl) b5
       have b11 : b 11 = false := later (j := 11) hc rfl (i := 10) (da rfl) b10
       have b13 : b 13 = false := later (j := 13) hc rfl (i := 3) (da rfl) hbi
       have hm8410 : Mem w0 w (cat [sg g0 T0 fr0 pre0 [(.int .i64 a0.Size), (.bool a0.Up), v0x2, v0x3, (.int .i64 a0.Lost), (.int .i64 a0.Pending), (.int .i64 a0.Every), (.int .i64 a0.Signals)] post0, h0x2, h0x3, hz7000, (bif b 0 then (sg g7003 3 (0, 0) [] (encs (FK.int .i64) ([] : List Int)) []) else []), (bif b 12 then sg g8202 71 (0, 0) [] [(.int .i64 0), (.slice none 0 0)] [] else [])]) := Mem.pick [0, 1, 2, 3, 4, 7] rfl (Mem.cg (B := [sg g0 T0 fr0 pre0 [(.int .i64 a0.Size), (.bool a0.Up), v0x2, v0x3, (.int .i64 a0.Lost), (.int .i64 a0.Pending), (.int .i64 a0.Every), (.int .i64 a0.Signals)] post0, h0x2, h0x3, hz7000, (bif b 0 then (sg g7003 3 (0, 0) [] (encs (FK.int .i64) ([] : List Int)) []) else []), [], [], (bif b 12 then sg g8202 71 (0, 0) [] [(.int .i64 0), (.slice none 0 0)] [] else [])]) (cat_cons rfl (cat_cons rfl (cat_cons rfl (cat_cons rfl (cat_cons (off_ b5 rfl) (cat_cons (off_ b10 (off_ b5 rfl)) (cat_cons (off_ b10 rfl) (cat_cons (off_ b13 rfl) rfl)))))))) hm)
       refine e_val (i := 3) hbi rfl rfl (v := (.pointer (some ⟨g0, o0 + 3, none⟩))) (won rfl) rfl rfl (x_field rfl fa_65x3 (ev (t := 87) (v := (.pointer (some ⟨g0, o0, none⟩))) rfl ((sel_on (p := (2, 87)) rfl b2).trans (y2 b2)))) ?_
       exact hK _ _ ⟨_, g7003, p7503, p8003, g8202, rfl, y0, y1, y2, fun _ => rfl, y4, y5, y6, y7, y8, y9, y10, y11, y12, H7004, H7504, H8004, Mem.gc (A := [sg g0 T0 fr0 pre0 [(.int .i64 a0.Size), (.bool a0.Up), v0x2, v0x3, (.int .i64 a0.Lost), (.int .i64 a0.Pending), (.int .i64 a0.Every), (.int .i64 a0.Signals)] post0, h0x2, h0x3, hz7000, (bif b 0 then (sg g7003 3 (0, 0) [] (encs (FK.int .i64) ([] : List Int)) []) else []), [], [], (bif b 12 then sg g8202 71 (0, 0) [] [(.int .i64 0), (.slice none 0 0)] [] else [])]) (cat_cons rfl (cat_cons rfl (cat_cons rfl (cat_cons rfl (cat_cons (off_ b5 rfl) (cat_cons (off_ b10 (off_ b5 rfl)) (cat_cons (off_ b10 rfl) (cat_cons (off_ b13 rfl) rfl)))))))) (Mem.pick [0, 1, 2, 3, 4, 1005, 1006, 5] rfl hm8410)⟩
      ·
       intro b a w hI hbi hn hc K hK
       obtain ⟨vs, g7003, p7503, p8003, g8202, ha, y0, y1, y2, y3, y4, y5, y6, y7, y8, y9, y10, y11, y12, H7004, H7504, H8004, hm⟩ := hI
       subst ha
       have b3 : b 3 = true := hn 3 (da rfl)
       have b2 : b 2 = true := hc 3 _ rfl b3 2 (da rfl)
       have b1 : b 1 = true := hc 2 _ rfl b2 1 (da rfl)
       have b5 : b 5 = false := later (j := 5) hc rfl (i := 4) (da rfl) hbi
       have b10 : b 10 = false := later (j := 10) hc rfl (i := 5) (da rfl) b5
       have b11 : b 11 = false := later (j := 11) hc rfl (i := 10) (da rfl) b10
       have b13 : b 13 = false := later (j := 13) hc rfl (i := 4) (da rfl) hbi
       have hm8413 : Mem w0 w (cat [sg g0 T0 fr0 pre0 [(.int .i64 a0.Size), (.bool a0.Up), v0x2, v0x3, (.int .i64 a0.Lost), (.int .i64 a0.Pending), (.int .i64 a0.Every), (.int .i64 a0.Signals)] post0, h0x2, h0x3, hz7000, (bif b 0 then (sg g7003 3 (0, 0) [] (encs (FK.int .i64) ([] : List Int)) []) else []), (bif b 12 then sg g8202 71 (0, 0) [] [(.int .i64 0), (.slice none 0 0)] [] else [])]) := Mem.pick [0, 1, 2, 3, 4, 7] rfl (Mem.cg (B := [sg g0 T0 fr0 pre0 [(.int .i64 a0.Size), (.bool a0.Up), v0x2, v0x3, (.int .i64 a0.Lost), (.int .i64 a0.Pending), (.int .i64 a0.Every), (.int .i64 a0.Signals)] post0, h0x2, h0x3, hz7000, (bif b 0 then (sg g7003 3 (0, 0) [] (encs (FK.int .i64) ([] : List Int)) []) else []), [], [], (bif b 12 then sg g8202 71 (0, 0) [] [(.int .i64 0), (.slice none 0 0)] [] else [])]) (cat_cons rfl (cat_cons rfl (cat_cons rfl (cat_cons rfl (cat_cons (off_ b5 rfl) (cat_cons (off_ b10 (off_ b5 rfl)) (cat_cons (off_ b10 rfl) (cat_cons (off_ b13 rfl) rfl)))))))) hm)
       refine e_val (i := 4) hbi rfl rfl (v := v0x3) (won rfl) rfl rfl (x_load rfl ty1x26 (ev (t := 88) (v := (.pointer (some ⟨g0, o0 + 3, none⟩))) rfl ((sel_on (p := (3, 88)) rfl b3).trans (y3 b3))) (seg_cell (o' := o0) (j := 3) hm8413 (k := 0) rfl hp0 rfl)) ?_
       exact hK _ _ ⟨_, g7003, p7503, p8003, g8202, rfl, y0, y1, y2, y3, fun _ => rfl, y5, y6, y7, y8, y9, y10, y11, y12, H7004, H7504, H8004, Mem.gc (A := [sg g0 T0 fr0 pre0 [(.int .i64 a0.Size), (.bool a0.Up), v0x2, v0x3, (.int .i64 a0.Lost), (.int .i64 a0.Pending), (.int .i64 a0.Every), (.int .i64 a0.Signals)] post0, h0x2, h0x3, hz7000, (bif b 0 then (sg g7003 3 (0, 0) [] (encs (FK.int .i64) ([] : List Int)) []) else []), [], [], (bif b 12 then sg g8202 71 (0, 0) [] [(.int .i64 0), (.slice none 0 0)] [] else [])]) (cat_cons rfl (cat_cons rfl (cat_cons rfl (cat_cons rfl (cat_cons (off_ b5 rfl) (cat_cons (off_ b10 (off_ b5 rfl)) (cat_cons (off_ b10 rfl) (cat_cons (off_ b13 rfl) rfl)))))))) (Mem.pick [0, 1, 2, 3, 4, 1005, 1006, 5] rfl hm8413)⟩
      ·
       intro b a w hI hbi hn hc K hK
       obtain ⟨vs, g7003, p7503, p8003, g8202, ha, y0, y1, y2, y3, y4, y5, y6, y7, y8, y9, y10, y11, y12, H7004, H7504, H8004, hm⟩ := hI
       subst ha
       have b0 : b 0 = true := hn 0 (da rfl)
       have b4 : b 4 = true := hn 4 (da rfl)
       have b3 : b 3 = true := hc 4 _ rfl b4 3 (da rfl)
       have b2 : b 2 = true := hc 3 _ rfl b3 2 (da rfl)
       have b1 : b 1 = true := hc 2 _ rfl b2 1 (da rfl)
       have b10 : b 10 = false := later (j := 10) hc rfl (i := 5) (da rfl) hbi
       have b11 : b 11 = false := later (j := 11) hc rfl (i := 10) (da rfl) b10
       have b13 : b 13 = false := later (j := 13) hc rfl (i := 5) (da rfl) hbi
       have H7004 := H7004 b0
       have hm8416 : Mem w0 w (cat [sg g0 T0 fr0 pre0 [(.int .i64 a0.Size), (.bool a0.Up), v0x2, v0x3, (.int .i64 a0.Lost), (.int .i64 a0.Pending), (.int .i64 a0.Every), (.int .i64 a0.Signals)] post0, h0x2, h0x3, hz7000, (sg g7003 3 (0, 0) [] (encs (FK.int .i64) ([] : List Int)) []), (bif b 12 then sg g8202 71 (0, 0) [] [(.int .i64 0), (.slice none 0 0)] [] else [])]) := Mem.pick [0, 1, 2, 3, 4, 7] rfl (Mem.cg (B := [sg g0 T0 fr0 pre0 [(.int .i64 a0.Size), (.bool a0.Up), v0x2, v0x3, (.int .i64 a0.Lost), (.int .i64 a0.Pending), (.int .i64 a0.Every), (.int .i64 a0.Signals)] post0, h0x2, h0x3, hz7000, (sg g7003 3 (0, 0) [] (encs (FK.int .i64) ([] : List Int)) []), [], [], (bif b 12 then sg g8202 71 (0, 0) [] [(.int .i64 0), (.slice none 0 0)] [] else [])]) (cat_cons rfl (cat_cons rfl (cat_cons rfl (cat_cons rfl (cat_cons (off_ hbi (on_ b0 rfl)) (cat_cons (off_ b10 (off_ hbi rfl)) (cat_cons (off_ b10 rfl) (cat_cons (off_ b13 rfl) rfl)))))))) hm)
       refine e_exv (i := 5) hbi rfl rfl (won rfl) rfl rfl (e_append (bytes := 8) rfl slt_26 rfl (ev (t := 85) (v := (.slice (some ⟨g7003, 0, none⟩) 0 0)) rfl ((sel_on (p := (0, 85)) rfl b0).trans (y0 b0))) (ev (t := 89) (v := v0x3) rfl ((sel_on (p := (4, 89)) rfl b4).trans (y4 b4))) H7004 (k := 4) rfl (H0x3.rd w0) (Sub.at_ (k := 2) rfl) hm8416 hg7501 (len63 hg7501 rfl)) ?_
       rintro p7503 w7505 ⟨H7504, hm7506⟩
       replace hm7506 : Mem w0 w7505 (cat [sg g0 T0 fr0 pre0 [(.int .i64 a0.Size), (.bool a0.Up), v0x2, v0x3, (.int .i64 a0.Lost), (.int .i64 a0.Pending), (.int .i64 a0.Every), (.int .i64 a0.Signals)] post0, h0x2, h0x3, hz7000, p7503.2, (bif b 12 then sg g8202 71 (0, 0) [] [(.int .i64 0), (.slice none 0 0)] [] else [])]) := hm7506
       exact hK _ _ ⟨_, g7003, p7503, p8003, g8202, rfl, y0, y1, y2, y3, y4, fun _ => rfl, y6, y7, y8, y9, y10, y11, y12, fun _ => H7004, fun _ => H7504, H8004, Mem.gc (A := [sg g0 T0 fr0 pre0 [(.int .i64 a0.Size), (.bool a0.Up), v0x2, v0x3, (.int .i64 a0.Lost), (.int .i64 a0.Pending), (.int .i64 a0.Every), (.int .i64 a0.Signals)] post0, h0x2, h0x3, hz7000, [], p7503.2, [], (bif b 12 then sg g8202 71 (0, 0) [] [(.int .i64 0), (.slice none 0 0)] [] else [])]) (cat_cons rfl (cat_cons rfl (cat_cons rfl (cat_cons rfl (cat_cons (on_ rfl rfl) (cat_cons (off_ b10 (on_ rfl rfl)) (cat_cons (off_ b10 rfl) (cat_cons (off_ b13 rfl) rfl)))))))) (Mem.pick [0, 1, 2, 3, 1004, 4, 1006, 5] rfl hm7506)⟩
      ·
       intro b a w hI hbi hn hc K hK
       obtain ⟨vs, g7003, p7503, p8003, g8202, ha, y0, y1, y2, y3, y4, y5, y6, y7, y8, y9, y10, y11, y12, H7004, H7504, H8004, hm⟩ := hI
       subst ha
       have b7 : b 7 = false := later (j := 7) hc rfl (i := 6) (da rfl) hbi
       have b8 : b 8 = false := later (j := 8) hc rfl (i := 7) (da rfl) b7
       have b9 : b 9 = false := later (j := 9) hc rfl (i := 8) (da rfl) b8
       have b10 : b 10 = false := later (j := 10) hc rfl (i := 9) (da rfl) b9
       have b11 : b 11 = false := later (j := 11) hc rfl (i := 10) (da rfl) b10
       have b13 : b 13 = false := later (j := 13) hc rfl (i := 6) (da rfl) hbi
       have hm8419 : Mem w0 w (cat [sg g0 T0 fr0 pre0 [(.int .i64 a0.Size), (.bool a0.Up), v0x2, v0x3, (.int .i64 a0.Lost), (.int .i64 a0.Pending), (.int .i64 a0.Every), (.int .i64 a0.Signals)] post0, h0x2, h0x3, hz7000, (bif b 5 then [] else (bif b 0 then (sg g7003 3 (0, 0) [] (encs (FK.int .i64) ([] : List Int)) []) else [])), (bif b 5 then p7503.2 else []), (bif b 12 then sg g8202 71 (0, 0) [] [(.int .i64 0), (.slice none 0 0)] [] else [])]) := Mem.pick [0, 1, 2, 3, 4, 5, 7] rfl (Mem.cg (B := [sg g0 T0 fr0 pre0 [(.int .i64 a0.Size), (.bool a0.Up), v0x2, v0x3, (.int .i64 a0.Lost), (.int .i64 a0.Pending), (.int .i64 a0.Every), (.int .i64 a0.Signals)] post0, h0x2, h0x3, hz7000, (bif b 5 then [] else (bif b 0 then (sg g7003 3 (0, 0) [] (encs (FK.int .i64) ([] : List Int)) []) else [])), (bif b 5 then p7503.2 else []), [], (bif b 12 then sg g8202 71 (0, 0) [] [(.int .i64 0), (.slice none 0 0)] [] else [])]) (cat_cons rfl (cat_cons rfl (cat_cons rfl (cat_cons rfl (cat_cons rfl (cat_cons (off_ b10 rfl) (cat_cons (off_ b10 rfl) (cat_cons (off_ b13 rfl) rfl)))))))) hm)
       refine e_val (i := 6) hbi rfl rfl (v := (.pointer (some ⟨g0, o0, none⟩))) (won rfl) rfl rfl (x_move rfl (ev (t := 0) (v := (.pointer (some ⟨g0, o0, none⟩))) rfl ((sel_no rfl).trans rfl))) ?_
       exact hK _ _ ⟨_, g7003, p7503, p8003, g8202, rfl, y0, y1, y2, y3, y4, y5, fun _ => rfl, y7, y8, y9, y10, y11, y12, H7004, H7504, H8004, Mem.gc (A := [sg g0 T0 fr0 pre0 [(.int .i64 a0.Size), (.bool a0.Up), v0x2, v0x3, (.int .i64 a0.Lost), (.int .i64 a0.Pending), (.int .i64 a0.Every), (.int .i64 a0.Signals)] post0, h0x2, h0x3, hz7000, (bif b 5 then [] else (bif b 0 then (sg g7003 3 (0, 0) [] (encs (FK.int .i64) ([] : List Int)) []) else [])), (bif b 5 then p7503.2 else []), [], (bif b 12 then sg g8202 71 (0, 0) [] [(.int .i64 0), (.slice none 0 0)] [] else [])]) (cat_cons rfl (cat_cons rfl (cat_cons rfl (cat_cons rfl (cat_cons rfl (cat_cons (off_ b10 rfl) (cat_cons (off_ b10 rfl) (cat_cons (off_ b13 rfl) rfl)))))))) (Mem.pick [0, 1, 2, 3, 4, 5, 1006, 6] rfl hm8419)⟩
      ·
       intro b a w hI hbi hn hc K hK
       obtain ⟨vs, g7003, p7503, p8003, g8202, ha, y0, y1, y2, y3, y4, y5, y6, y7, y8, y9, y10, y11, y12, H7004, H7504, H8004, hm⟩ := hI
       subst ha
       have b6 : b 6 = true := hn 6 (da rfl)
       have b8 : b 8 = false := later (j := 8) hc rfl (i := 7) (da rfl) hbi
       have b9 : b 9 = false := later (j := 9) hc rfl (i := 8) (da rfl) b8
       have b10 : b 10 = false := later (j := 10) hc rfl (i := 9) (da rfl) b9
       have b11 : b 11 = false := later (j := 11) hc rfl (i := 10) (da rfl) b10
       have b13 : b 13 = false := later (j := 13) hc rfl (i := 7) (da rfl) hbi
       have hm8422 : Mem w0 w (cat [sg g0 T0 fr0 pre0 [(.int .i64 a0.Size), (.bool a0.Up), v0x2, v0x3, (.int .i64 a0.Lost), (.int .i64 a0.Pending), (.int .i64 a0.Every), (.int .i64 a0.Signals)] post0, h0x2, h0x3, hz7000, (bif b 5 then [] else (bif b 0 then (sg g7003 3 (0, 0) [] (encs (FK.int .i64) ([] : List Int)) []) else [])), (bif b 5 then p7503.2 else []), (bif b 12 then sg g8202 71 (0, 0) [] [(.int .i64 0), (.slice none 0 0)] [] else [])]) := Mem.pick [0, 1, 2, 3, 4, 5, 7] rfl (Mem.cg (B := [sg g0 T0 fr0 pre0 [(.int .i64 a0.Size), (.bool a0.Up), v0x2, v0x3, (.int .i64 a0.Lost), (.int .i64 a0.Pending), (.int .i64 a0.Every), (.int .i64 a0.Signals)] post0, h0x2, h0x3, hz7000, (bif b 5 then [] else (bif b 0 then (sg g7003 3 (0, 0) [] (encs (FK.int .i64) ([] : List Int)) []) else [])), (bif b 5 then p7503.2 else []), [], (bif b 12 then sg g8202 71 (0, 0) [] [(.int .i64 0), (.slice none 0 0)] [] else [])]) (cat_cons rfl (cat_cons rfl (cat_cons rfl (cat_cons rfl (cat_cons rfl (cat_cons (off_ b10 rfl) (cat_cons (off_ b10 rfl) (cat_cons (off_ b13 rfl) rfl)))))))) hm)
       refine e_val (i := 7) hbi rfl rfl (v := (.pointer (some ⟨g0, o0, none⟩))) (won rfl) rfl rfl (x_nil rfl (ev (t := 91) (v := (.pointer (some ⟨g0, o0, none⟩))) rfl ((sel_on (p := (6, 91)) rfl b6).trans (y6 b6)))) ?_
       exact hK _ _ ⟨_, g7003, p7503, p8003, g8202, rfl, y0, y1, y2, y3, y4, y5, y6, fun _ => rfl, y8, y9, y10, y11, y12, H7004, H7504, H8004, Mem.gc (A := [sg g0 T0 fr0 pre0 [(.int .i64 a0.Size), (.bool a0.Up), v0x2, v0x3, (.int .i64 a0.Lost), (.int .i64 a0.Pending), (.int .i64 a0.Every), (.int .i64 a0.Signals)] post0, h0x2, h0x3, hz7000, (bif b 5 then [] else (bif b 0 then (sg g7003 3 (0, 0) [] (encs (FK.int .i64) ([] : List Int)) []) else [])), (bif b 5 then p7503.2 else []), [], (bif b 12 then sg g8202 71 (0, 0) [] [(.int .i64 0), (.slice none 0 0)] [] else [])]) (cat_cons rfl (cat_cons rfl (cat_cons rfl (cat_cons rfl (cat_cons rfl (cat_cons (off_ b10 rfl) (cat_cons (off_ b10 rfl) (cat_cons (off_ b13 rfl) rfl)))))))) (Mem.pick [0, 1, 2, 3, 4, 5, 1006, 6] rfl hm8422)⟩
      ·
       intro b a w hI hbi hn hc K hK
       obtain ⟨vs, g7003, p7503, p8003, g8202, ha, y0, y1, y2, y3, y4, y5, y6, y7, y8, y9, y10, y11, y12, H7004, H7504, H8004, hm⟩ := hI
       subst ha
       have b7 : b 7 = true := hn 7 (da rfl)
       have b6 : b 6 = true := hc 7 _ rfl b7 6 (da rfl)
       have b9 : b 9 = false := later (j := 9) hc rfl (i := 8) (da rfl) hbi
       have b10 : b 10 = false := later (j := 10) hc rfl (i := 9) (da rfl) b9
       have b11 : b 11 = false := later (j := 11) hc rfl (i := 10) (da rfl) b10
       have b13 : b 13 = false := later (j := 13) hc rfl (i := 8) (da rfl) hbi
       have hm8425 : Mem w0 w (cat [sg g0 T0 fr0 pre0 [(.int .i64 a0.Size), (.bool a0.Up), v0x2, v0x3, (.int .i64 a0.Lost), (.int .i64 a0.Pending), (.int .i64 a0.Every), (.int .i64 a0.Signals)] post0, h0x2, h0x3, hz7000, (bif b 5 then [] else (bif b 0 then (sg g7003 3 (0, 0) [] (encs (FK.int .i64) ([] : List Int)) []) else [])), (bif b 5 then p7503.2 else []), (bif b 12 then sg g8202 71 (0, 0) [] [(.int .i64 0), (.slice none 0 0)] [] else [])]) := Mem.pick [0, 1, 2, 3, 4, 5, 7] rfl (Mem.cg (B := [sg g0 T0 fr0 pre0 [(.int .i64 a0.Size), (.bool a0.Up), v0x2, v0x3, (.int .i64 a0.Lost), (.int .i64 a0.Pending), (.int .i64 a0.Every), (.int .i64 a0.Signals)] post0, h0x2, h0x3, hz7000, (bif b 5 then [] else (bif b 0 then (sg g7003 3 (0, 0) [] (encs (FK.int .i64) ([] : List Int)) []) else [])), (bif b 5 then p7503.2 else []), [], (bif b 12 then sg g8202 71 (0, 0) [] [(.int .i64 0), (.slice none 0 0)] [] else [])]) (cat_cons rfl (cat_cons rfl (cat_cons rfl (cat_cons rfl (cat_cons rfl (cat_cons (off_ b10 rfl) (cat_cons (off_ b10 rfl) (cat_cons (off_ b13 rfl) rfl)))))))) hm)
       refine e_val (i := 8) hbi rfl rfl (v := (.pointer (some ⟨g0, o0 + 2, none⟩))) (won rfl) rfl rfl (x_field rfl fa_65x2 (ev (t := 92) (v := (.pointer (some ⟨g0, o0, none⟩))) rfl ((sel_on (p := (7, 92)) rfl b7).trans (y7 b7)))) ?_
       exact hK _ _ ⟨_, g7003, p7503, p8003, g8202, rfl, y0, y1, y2, y3, y4, y5, y6, y7, fun _ => rfl, y9, y10, y11, y12, H7004, H7504, H8004, Mem.gc (A := [sg g0 T0 fr0 pre0 [(.int .i64 a0.Size), (.bool a0.Up), v0x2, v0x3, (.int .i64 a0.Lost), (.int .i64 a0.Pending), (.int .i64 a0.Every), (.int .i64 a0.Signals)] post0, h0x2, h0x3, hz7000, (bif b 5 then [] else (bif b 0 then (sg g7003 3 (0, 0) [] (encs (FK.int .i64) ([] : List Int)) []) else [])), (bif b 5 then p7503.2 else []), [], (bif b 12 then sg g8202 71 (0, 0) [] [(.int .i64 0), (.slice none 0 0)] [] else [])]) (cat_cons rfl (cat_cons rfl (cat_cons rfl (cat_cons rfl (cat_cons rfl (cat_cons (off_ b10 rfl) (cat_cons (off_ b10 rfl) (cat_cons (off_ b13 rfl) rfl)))))))) (Mem.pick [0, 1, 2, 3, 4, 5, 1006, 6] rfl hm8425)⟩
      ·
       intro b a w hI hbi hn hc K hK
       obtain ⟨vs, g7003, p7503, p8003, g8202, ha, y0, y1, y2, y3, y4, y5, y6, y7, y8, y9, y10, y11, y12, H7004, H7504, H8004, hm⟩ := hI
       subst ha
       have b8 : b 8 = true := hn 8 (da rfl)
       have b7 : b 7 = true := hc 8 _ rfl b8 7 (da rfl)
       have b6 : b 6 = true := hc 7 _ rfl b7 6 (da rfl)
       have b10 : b 10 = false := later (j := 10) hc rfl (i := 9) (da rfl) hbi
       have b11 : b 11 = false := later (j := 11) hc rfl (i := 10) (da rfl) b10
       have b13 : b 13 = false := later (j := 13) hc rfl (i := 9) (da rfl) hbi
       have hm8428 : Mem w0 w (cat [sg g0 T0 fr0 pre0 [(.int .i64 a0.Size), (.bool a0.Up), v0x2, v0x3, (.int .i64 a0.Lost), (.int .i64 a0.Pending), (.int .i64 a0.Every), (.int .i64 a0.Signals)] post0, h0x2, h0x3, hz7000, (bif b 5 then [] else (bif b 0 then (sg g7003 3 (0, 0) [] (encs (FK.int .i64) ([] : List Int)) []) else [])), (bif b 5 then p7503.2 else []), (bif b 12 then sg g8202 71 (0, 0) [] [(.int .i64 0), (.slice none 0 0)] [] else [])]) := Mem.pick [0, 1, 2, 3, 4, 5, 7] rfl (Mem.cg (B := [sg g0 T0 fr0 pre0 [(.int .i64 a0.Size), (.bool a0.Up), v0x2, v0x3, (.int .i64 a0.Lost), (.int .i64 a0.Pending), (.int .i64 a0.Every), (.int .i64 a0.Signals)] post0, h0x2, h0x3, hz7000, (bif b 5 then [] else (bif b 0 then (sg g7003 3 (0, 0) [] (encs (FK.int .i64) ([] : List Int)) []) else [])), (bif b 5 then p7503.2 else []), [], (bif b 12 then sg g8202 71 (0, 0) [] [(.int .i64 0), (.slice none 0 0)] [] else [])]) (cat_cons rfl (cat_cons rfl (cat_cons rfl (cat_cons rfl (cat_cons rfl (cat_cons (off_ b10 rfl) (cat_cons (off_ b10 rfl) (cat_cons (off_ b13 rfl) rfl)))))))) hm)
       refine e_val (i := 9) hbi rfl rfl (v := v0x2) (won rfl) rfl rfl (x_load rfl ty1x26 (ev (t := 93) (v := (.pointer (some ⟨g0, o0 + 2, none⟩))) rfl ((sel_on (p := (8, 93)) rfl b8).trans (y8 b8))) (seg_cell (o' := o0) (j := 2) hm8428 (k := 0) rfl hp0 rfl)) ?_
       exact hK _ _ ⟨_, g7003, p7503, p8003, g8202, rfl, y0, y1, y2, y3, y4, y5, y6, y7, y8, fun _ => rfl, y10, y11, y12, H7004, H7504, H8004, Mem.gc (A := [sg g0 T0 fr0 pre0 [(.int .i64 a0.Size), (.bool a0.Up), v0x2, v0x3, (.int .i64 a0.Lost), (.int .i64 a0.Pending), (.int .i64 a0.Every), (.int .i64 a0.Signals)] post0, h0x2, h0x3, hz7000, (bif b 5 then [] else (bif b 0 then (sg g7003 3 (0, 0) [] (encs (FK.int .i64) ([] : List Int)) []) else [])), (bif b 5 then p7503.2 else []), [], (bif b 12 then sg g8202 71 (0, 0) [] [(.int .i64 0), (.slice none 0 0)] [] else [])]) (cat_cons rfl (cat_cons rfl (cat_cons rfl (cat_cons rfl (cat_cons rfl (cat_cons (off_ b10 rfl) (cat_cons (off_ b10 rfl) (cat_cons (off_ b13 rfl) rfl)))))))) (Mem.pick [0, 1, 2, 3, 4, 5, 1006, 6] rfl hm8428)⟩
      ·
       intro b a w hI hbi hn hc K hK
       obtain ⟨vs, g7003, p7503, p8003, g8202, ha, y0, y1, y2, y3, y4, y5, y6, y7, y8, y9, y10, y11, y12, H7004, H7504, H8004, hm⟩ := hI
       subst ha
       have b5 : b 5 = true := hn 5 (da rfl)
       have b9 : b 9 = true := hn 9 (da rfl)
       have b0 : b 0 = true := hc 5 _ rfl b5 0 (da rfl)
       have b4 : b 4 = true := hc 5 _ rfl b5 4 (da rfl)
       have b8 : b 8 = true := hc 9 _ rfl b9 8 (da rfl)
       have b3 : b 3 = true := hc 4 _ rfl b4 3 (da rfl)
       have b7 : b 7 = true := hc 8 _ rfl b8 7 (da rfl)
       have b2 : b 2 = true := hc 3 _ rfl b3 2 (da rfl)
       have b6 : b 6 = true := hc 7 _ rfl b7 6 (da rfl)
       have b1 : b 1 = true := hc 2 _ rfl b2 1 (da rfl)
       have b11 : b 11 = false := later (j := 11) hc rfl (i := 10) (da rfl) hbi
       have b13 : b 13 = false := later (j := 13) hc rfl (i := 10) (da rfl) hbi
       have H7004 := H7004 b0
       have H7504 := H7504 b5
       have hm8431 : Mem w0 w (cat [sg g0 T0 fr0 pre0 [(.int .i64 a0.Size), (.bool a0.Up), v0x2, v0x3, (.int .i64 a0.Lost), (.int .i64 a0.Pending), (.int .i64 a0.Every), (.int .i64 a0.Signals)] post0, h0x2, h0x3, hz7000, p7503.2, (bif b 12 then sg g8202 71 (0, 0) [] [(.int .i64 0), (.slice none 0 0)] [] else [])]) := Mem.pick [0, 1, 2, 3, 5, 7] rfl (Mem.cg (B := [sg g0 T0 fr0 pre0 [(.int .i64 a0.Size), (.bool a0.Up), v0x2, v0x3, (.int .i64 a0.Lost), (.int .i64 a0.Pending), (.int .i64 a0.Every), (.int .i64 a0.Signals)] post0, h0x2, h0x3, hz7000, [], p7503.2, [], (bif b 12 then sg g8202 71 (0, 0) [] [(.int .i64 0), (.slice none 0 0)] [] else [])]) (cat_cons rfl (cat_cons rfl (cat_cons rfl (cat_cons rfl (cat_cons (on_ b5 rfl) (cat_cons (off_ hbi (on_ b5 rfl)) (cat_cons (off_ hbi rfl) (cat_cons (off_ b13 rfl) rfl)))))))) hm)
       refine e_exv (i := 10) hbi rfl rfl (won rfl) rfl rfl (e_append (bytes := 8) rfl slt_26 rfl (ev (t := 90) (v := p7503.1) rfl ((sel_on (p := (5, 90)) rfl b5).trans (y5 b5))) (ev (t := 94) (v := v0x2) rfl ((sel_on (p := (9, 94)) rfl b9).trans (y9 b9))) H7504 (k := 4) rfl (H0x2.rd w0) (Sub.at_ (k := 1) rfl) hm8431 hg8001 (len63 hg8001 rfl)) ?_
       rintro p8003 w8005 ⟨H8004, hm8006⟩
       replace hm8006 : Mem w0 w8005 (cat [sg g0 T0 fr0 pre0 [(.int .i64 a0.Size), (.bool a0.Up), v0x2, v0x3, (.int .i64 a0.Lost), (.int .i64 a0.Pending), (.int .i64 a0.Every), (.int .i64 a0.Signals)] post0, h0x2, h0x3, hz7000, p8003.2, (bif b 12 then sg g8202 71 (0, 0) [] [(.int .i64 0), (.slice none 0 0)] [] else [])]) := hm8006
       exact hK _ _ ⟨_, g7003, p7503, p8003, g8202, rfl, y0, y1, y2, y3, y4, y5, y6, y7, y8, y9, fun _ => rfl, fun hb => ab b11 hb, y12, fun _ => H7004, fun _ => H7504, fun _ => H8004, Mem.gc (A := [sg g0 T0 fr0 pre0 [(.int .i64 a0.Size), (.bool a0.Up), v0x2, v0x3, (.int .i64 a0.Lost), (.int .i64 a0.Pending), (.int .i64 a0.Every), (.int .i64 a0.Signals)] post0, h0x2, h0x3, hz7000, [], [], p8003.2, (bif b 12 then sg g8202 71 (0, 0) [] [(.int .i64 0), (.slice none 0 0)] [] else [])]) (cat_cons rfl (cat_cons rfl (cat_cons rfl (cat_cons rfl (cat_cons (on_ b5 rfl) (cat_cons (on_ rfl rfl) (cat_cons (on_ rfl rfl) (cat_cons (off_ b13 rfl) rfl)))))))) (Mem.pick [0, 1, 2, 3, 1004, 1005, 4, 5] rfl hm8006)⟩
      ·
       intro b a w hI hbi hn hc K hK
       obtain ⟨vs, g7003, p7503, p8003, g8202, ha, y0, y1, y2, y3, y4, y5, y6, y7, y8, y9, y10, y11, y12, H7004, H7504, H8004, hm⟩ := hI
       subst ha
       have b10 : b 10 = true := hn 10 (da rfl)
       have b5 : b 5 = true := hc 10 _ rfl b10 5 (da rfl)
       have b9 : b 9 = true := hc 10 _ rfl b10 9 (da rfl)
       have b0 : b 0 = true := hc 5 _ rfl b5 0 (da rfl)
       have b4 : b 4 = true := hc 5 _ rfl b5 4 (da rfl)
       have b8 : b 8 = true := hc 9 _ rfl b9 8 (da rfl)
       have b3 : b 3 = true := hc 4 _ rfl b4 3 (da rfl)
       have b7 : b 7 = true := hc 8 _ rfl b8 7 (da rfl)
       have b2 : b 2 = true := hc 3 _ rfl b3 2 (da rfl)
       have b6 : b 6 = true := hc 7 _ rfl b7 6 (da rfl)
       have b1 : b 1 = true := hc 2 _ rfl b2 1 (da rfl)
       have b13 : b 13 = false := later (j := 13) hc rfl (i := 11) (da rfl) hbi
       have H7004 := H7004 b0
       have H7504 := H7504 b5
       have H8004 := H8004 b10
       have hm8434 : Mem w0 w (cat [sg g0 T0 fr0 pre0 [(.int .i64 a0.Size), (.bool a0.Up), v0x2, v0x3, (.int .i64 a0.Lost), (.int .i64 a0.Pending), (.int .i64 a0.Every), (.int .i64 a0.Signals)] post0, h0x2, h0x3, hz7000, p8003.2, (bif b 12 then sg g8202 71 (0, 0) [] [(.int .i64 0), (.slice none 0 0)] [] else [])]) := Mem.pick [0, 1, 2, 3, 6, 7] rfl (Mem.cg (B := [sg g0 T0 fr0 pre0 [(.int .i64 a0.Size), (.bool a0.Up), v0x2, v0x3, (.int .i64 a0.Lost), (.int .i64 a0.Pending), (.int .i64 a0.Every), (.int .i64 a0.Signals)] post0, h0x2, h0x3, hz7000, [], [], p8003.2, (bif b 12 then sg g8202 71 (0, 0) [] [(.int .i64 0), (.slice none 0 0)] [] else [])]) (cat_cons rfl (cat_cons rfl (cat_cons rfl (cat_cons rfl (cat_cons (on_ b5 rfl) (cat_cons (on_ b10 rfl) (cat_cons (on_ b10 rfl) (cat_cons (off_ b13 rfl) rfl)))))))) hm)
       refine e_val (i := 11) hbi rfl rfl (v := (.agg #[(.int .i64 0), p8003.1])) (won rfl) rfl rfl (x_build (cells := [(.int .i64 0), p8003.1]) (zc := [.int .i64 0, .slice none 0 0]) (sizes := [(0, 1), (1, 1)]) (ps := [(1, p8003.1)]) rfl zt_71 rfl uf_71 ufz_71 (pmap_lit (pmap_cons (ev (t := 95) (v := p8003.1) rfl ((sel_on (p := (10, 95)) rfl b10).trans (y10 b10))) pmap_nil)) (fill_cons (cs := [p8003.1]) rfl (IsSl.cells (H8004).sl) rfl fill_nil)) ?_
       exact hK _ _ ⟨_, g7003, p7503, p8003, g8202, rfl, y0, y1, y2, y3, y4, y5, y6, y7, y8, y9, y10, fun _ => rfl, y12, fun _ => H7004, fun _ => H7504, fun _ => H8004, Mem.gc (A := [sg g0 T0 fr0 pre0 [(.int .i64 a0.Size), (.bool a0.Up), v0x2, v0x3, (.int .i64 a0.Lost), (.int .i64 a0.Pending), (.int .i64 a0.Every), (.int .i64 a0.Signals)] post0, h0x2, h0x3, hz7000, [], [], p8003.2, (bif b 12 then sg g8202 71 (0, 0) [] [(.int .i64 0), (.slice none 0 0)] [] else [])]) (cat_cons rfl (cat_cons rfl (cat_cons rfl (cat_cons rfl (cat_cons (on_ b5 rfl) (cat_cons (on_ b10 rfl) (cat_cons (on_ b10 rfl) (cat_cons (off_ b13 rfl) rfl)))))))) (Mem.pick [0, 1, 2, 3, 1004, 1005, 4, 5] rfl hm8434)⟩
      ·
       intro b a w hI hbi hn hc K hK
       obtain ⟨vs, g7003, p7503, p8003, g8202, ha, y0, y1, y2, y3, y4, y5, y6, y7, y8, y9, y10, y11, y12, H7004, H7504, H8004, hm⟩ := hI
       subst ha
       have b13 : b 13 = false := later (j := 13) hc rfl (i := 12) (da rfl) hbi
       have hm8437 : Mem w0 w (cat [sg g0 T0 fr0 pre0 [(.int .i64 a0.Size), (.bool a0.Up), v0x2, v0x3, (.int .i64 a0.Lost), (.int .i64 a0.Pending), (.int .i64 a0.Every), (.int .i64 a0.Signals)] post0, h0x2, h0x3, hz7000, (bif b 5 then [] else (bif b 0 then (sg g7003 3 (0, 0) [] (encs (FK.int .i64) ([] : List Int)) []) else [])), (bif b 10 then [] else (bif b 5 then p7503.2 else [])), (bif b 10 then p8003.2 else [])]) := Mem.pick [0, 1, 2, 3, 4, 5, 6] rfl (Mem.cg (B := [sg g0 T0 fr0 pre0 [(.int .i64 a0.Size), (.bool a0.Up), v0x2, v0x3, (.int .i64 a0.Lost), (.int .i64 a0.Pending), (.int .i64 a0.Every), (.int .i64 a0.Signals)] post0, h0x2, h0x3, hz7000, (bif b 5 then [] else (bif b 0 then (sg g7003 3 (0, 0) [] (encs (FK.int .i64) ([] : List Int)) []) else [])), (bif b 10 then [] else (bif b 5 then p7503.2 else [])), (bif b 10 then p8003.2 else []), []]) (cat_cons rfl (cat_cons rfl (cat_cons rfl (cat_cons rfl (cat_cons rfl (cat_cons rfl (cat_cons rfl (cat_cons (off_ b13 (off_ hbi rfl)) rfl)))))))) hm)
       refine e_exv (i := 12) hbi rfl rfl (won rfl) rfl rfl (e_alloc (vs := [(.int .i64 0), (.slice none 0 0)]) rfl zt_71 rfl hm8437) ?_
       rintro g8202 w8203 hm8204
       exact hK _ _ ⟨_, g7003, p7503, p8003, g8202, rfl, y0, y1, y2, y3, y4, y5, y6, y7, y8, y9, y10, y11, fun _ => rfl, H7004, H7504, H8004, Mem.gc (A := [sg g0 T0 fr0 pre0 [(.int .i64 a0.Size), (.bool a0.Up), v0x2, v0x3, (.int .i64 a0.Lost), (.int .i64 a0.Pending), (.int .i64 a0.Every), (.int .i64 a0.Signals)] post0, h0x2, h0x3, hz7000, (bif b 5 then [] else (bif b 0 then (sg g7003 3 (0, 0) [] (encs (FK.int .i64) ([] : List Int)) []) else [])), (bif b 10 then [] else (bif b 5 then p7503.2 else [])), (bif b 10 then p8003.2 else []), sg g8202 71 (0, 0) [] [(.int .i64 0), (.slice none 0 0)] []]) (cat_cons rfl (cat_cons rfl (cat_cons rfl (cat_cons rfl (cat_cons rfl (cat_cons rfl (cat_cons rfl (cat_cons (off_ b13 (on_ rfl rfl)) rfl)))))))) (Mem.pick [1, 2, 3, 4, 5, 6, 7, 0] rfl hm8204)⟩
      ·
       intro b a w hI hbi hn hc K hK
       obtain ⟨vs, g7003, p7503, p8003, g8202, ha, y0, y1, y2, y3, y4, y5, y6, y7, y8, y9, y10, y11, y12, H7004, H7504, H8004, hm⟩ := hI
       subst ha
       have b0 : b 0 = true := hn 0 (da rfl)
       have b1 : b 1 = true := hn 1 (da rfl)
       have b2 : b 2 = true := hn 2 (da rfl)
       have b3 : b 3 = true := hn 3 (da rfl)
       have b4 : b 4 = true := hn 4 (da rfl)
       have b5 : b 5 = true := hn 5 (da rfl)
       have b6 : b 6 = true := hn 6 (da rfl)
       have b7 : b 7 = true := hn 7 (da rfl)
       have b8 : b 8 = true := hn 8 (da rfl)
       have b9 : b 9 = true := hn 9 (da rfl)
       have b10 : b 10 = true := hn 10 (da rfl)
       have b11 : b 11 = true := hn 11 (da rfl)
       have b12 : b 12 = true := hn 12 (da rfl)
       have H7004 := H7004 b0
       have H7504 := H7504 b5
       have H8004 := H8004 b10
       have hm8440 : Mem w0 w (cat [sg g0 T0 fr0 pre0 [(.int .i64 a0.Size), (.bool a0.Up), v0x2, v0x3, (.int .i64 a0.Lost), (.int .i64 a0.Pending), (.int .i64 a0.Every), (.int .i64 a0.Signals)] post0, h0x2, h0x3, hz7000, p8003.2, sg g8202 71 (0, 0) [] [(.int .i64 0), (.slice none 0 0)] []]) := Mem.pick [0, 1, 2, 3, 6, 7] rfl (Mem.cg (B := [sg g0 T0 fr0 pre0 [(.int .i64 a0.Size), (.bool a0.Up), v0x2, v0x3, (.int .i64 a0.Lost), (.int .i64 a0.Pending), (.int .i64 a0.Every), (.int .i64 a0.Signals)] post0, h0x2, h0x3, hz7000, [], [], p8003.2, sg g8202 71 (0, 0) [] [(.int .i64 0), (.slice none 0 0)] []]) (cat_cons rfl (cat_cons rfl (cat_cons rfl (cat_cons rfl (cat_cons (on_ b5 rfl) (cat_cons (on_ b10 rfl) (cat_cons (on_ b10 rfl) (cat_cons (off_ hbi (on_ b12 rfl)) rfl)))))))) hm)
       refine e_exs (i := 13) hbi rfl (won rfl) rfl (e_store (vs := [(.int .i64 0), p8003.1]) (o' := 0) (j := 0) rfl sz_71 (ev (t := 8) (v := (.pointer (some ⟨g8202, 0, none⟩))) rfl ((sel_on (p := (12, 8)) rfl b12).trans (y12 b12))) (ev (t := 96) (v := (.agg #[(.int .i64 0), p8003.1])) rfl ((sel_on (p := (11, 96)) rfl b11).trans (y11 b11))) rfl (one_cons rfl (one_cons (IsSl.one (H8004).sl) one_nil)) hm8440 (k := 5) rfl rfl rfl) ?_
       intro w8301 hm8302
       replace hm8302 : Mem w0 w8301 (cat [sg g0 T0 fr0 pre0 [(.int .i64 a0.Size), (.bool a0.Up), v0x2, v0x3, (.int .i64 a0.Lost), (.int .i64 a0.Pending), (.int .i64 a0.Every), (.int .i64 a0.Signals)] post0, h0x2, h0x3, hz7000, p8003.2, sg g8202 71 (0, 0) [] [(.int .i64 0), p8003.1] []]) := hm8302
       exact hK _ _ ⟨_, g7003, p7503, p8003, g8202, rfl, y0, y1, y2, y3, y4, y5, y6, y7, y8, y9, y10, y11, y12, fun _ => H7004, fun _ => H7504, fun _ => H8004, Mem.gc (A := [sg g0 T0 fr0 pre0 [(.int .i64 a0.Size), (.bool a0.Up), v0x2, v0x3, (.int .i64 a0.Lost), (.int .i64 a0.Pending), (.int .i64 a0.Every), (.int .i64 a0.Signals)] post0, h0x2, h0x3, hz7000, [], [], p8003.2, sg g8202 71 (0, 0) [] [(.int .i64 0), p8003.1] []]) (cat_cons rfl (cat_cons rfl (cat_cons rfl (cat_cons rfl (cat_cons (on_ b5 rfl) (cat_cons (on_ b10 rfl) (cat_cons (on_ b10 rfl) (cat_cons (on_ rfl rfl) rfl)))))))) (Mem.pick [0, 1, 2, 3, 1004, 1005, 4, 5] rfl hm8302)⟩
      intro b a w hall hI
      obtain ⟨vs, g7003, p7503, p8003, g8202, ha, y0, y1, y2, y3, y4, y5, y6, y7, y8, y9, y10, y11, y12, H7004, H7504, H8004, hm⟩ := hI
      have b0 : b 0 = true := hall 0 rfl
      have b1 : b 1 = true := hall 1 rfl
      have b2 : b 2 = true := hall 2 rfl
      have b3 : b 3 = true := hall 3 rfl
      have b4 : b 4 = true := hall 4 rfl
      have b5 : b 5 = true := hall 5 rfl
      have b6 : b 6 = true := hall 6 rfl
      have b7 : b 7 = true := hall 7 rfl
      have b8 : b 8 = true := hall 8 rfl
      have b9 : b 9 = true := hall 9 rfl
      have b10 : b 10 = true := hall 10 rfl
      have b11 : b 11 = true := hall 11 rfl
      have b12 : b 12 = true := hall 12 rfl
      have b13 : b 13 = true := hall 13 rfl
      replace H7004 := H7004 b0
      replace H7504 := H7504 b5
      replace H8004 := H8004 b10
      have hm8443 : Mem w0 w (cat [sg g0 T0 fr0 pre0 [(.int .i64 a0.Size), (.bool a0.Up), v0x2, v0x3, (.int .i64 a0.Lost), (.int .i64 a0.Pending), (.int .i64 a0.Every), (.int .i64 a0.Signals)] post0, h0x2, h0x3, p8003.2, sg g8202 71 (0, 0) [] [(.int .i64 0), p8003.1] [], hz7000]) := Mem.pick [0, 1, 2, 6, 7, 3] rfl (Mem.cg (B := [sg g0 T0 fr0 pre0 [(.int .i64 a0.Size), (.bool a0.Up), v0x2, v0x3, (.int .i64 a0.Lost), (.int .i64 a0.Pending), (.int .i64 a0.Every), (.int .i64 a0.Signals)] post0, h0x2, h0x3, hz7000, [], [], p8003.2, sg g8202 71 (0, 0) [] [(.int .i64 0), p8003.1] []]) (cat_cons rfl (cat_cons rfl (cat_cons rfl (cat_cons rfl (cat_cons (on_ b5 rfl) (cat_cons (on_ b10 rfl) (cat_cons (on_ b10 rfl) (cat_cons (on_ b13 rfl) rfl)))))))) hm)
      obtain ⟨f7000, ha', z7000x0, z7000x4, z7000x8⟩ : ∃ f' : Nat → Value, a = fr 117 f' ∧ f' 0 = (.pointer (some ⟨g0, o0, none⟩)) ∧ f' 4 = (.pointer (some ⟨g4482, 0, none⟩)) ∧ f' 8 = (.pointer (some ⟨g8202, 0, none⟩)) := ⟨_, ha, (sel_no rfl).trans rfl, (sel_no rfl).trans rfl, (sel_on (p := (12, 8)) rfl b12).trans (y12 b12)⟩
      subst ha'
      subst hze7000
      replace hm8443 : Mem w0 w (cat [sg g0 T0 fr0 pre0 [(.int .i64 a0.Size), (.bool a0.Up), v0x2, v0x3, (.int .i64 a0.Lost), (.int .i64 a0.Pending), (.int .i64 a0.Every), (.int .i64 a0.Signals)] post0, h0x2, h0x3, p8003.2, sg g8202 71 (0, 0) [] [(.int .i64 0), p8003.1] [], sg g4482 71 (0, 0) [] [(.int .i64 0), (.slice none 0 0)] [], sg g4477 74 (0, 0) [] [(.int .i64 a1.Kind), (.int .i64 a1.N)] [], hF]) := Mem.ung [sg g0 T0 fr0 pre0 [(.int .i64 a0.Size), (.bool a0.Up), v0x2, v0x3, (.int .i64 a0.Lost), (.int .i64 a0.Pending), (.int .i64 a0.Every), (.int .i64 a0.Signals)] post0, h0x2, h0x3, p8003.2, sg g8202 71 (0, 0) [] [(.int .i64 0), p8003.1] []] [sg g4482 71 (0, 0) [] [(.int .i64 0), (.slice none 0 0)] [], sg g4477 74 (0, 0) [] [(.int .i64 a1.Kind), (.int .i64 a1.N)] [], hF] hm8443
      have hm8453 : Mem w0 w (cat [sg g0 T0 fr0 pre0 [(.int .i64 a0.Size), (.bool a0.Up), v0x2, v0x3, (.int .i64 a0.Lost), (.int .i64 a0.Pending), (.int .i64 a0.Every), (.int .i64 a0.Signals)] post0, h0x2, h0x3, p8003.2, sg g8202 71 (0, 0) [] [(.int .i64 0), p8003.1] [], sg g4482 71 (0, 0) [] [(.int .i64 0), (.slice none 0 0)] [], hF]) := Mem.pick [0, 1, 2, 3, 4, 5, 7] rfl hm8443
      refine nx ?_
      refine wp_seq ?_
      refine wp_region_lit ?_
      refine s_val (v := (.pointer (some ⟨g0, o0, none⟩))) (won rfl) rfl rfl (x_move rfl (ev (t := 0) (v := (.pointer (some ⟨g0, o0, none⟩))) rfl z7000x0)) ?_
      refine s_val (v := (.pointer (some ⟨g0, o0, none⟩))) (won rfl) rfl rfl (x_move rfl (ev (t := 0) (v := (.pointer (some ⟨g0, o0, none⟩))) rfl z7000x0)) ?_
      refine s_val (v := (.pointer (some ⟨g0, o0, none⟩))) (won rfl) rfl rfl (x_move rfl (ev (t := 0) (v := (.pointer (some ⟨g0, o0, none⟩))) rfl z7000x0)) ?_
      refine s_val (v := (.pointer (some ⟨g0, o0, none⟩))) (won rfl) rfl rfl (x_nil rfl (ev (t := 97) rfl rfl)) ?_
      refine s_val (v := (.pointer (some ⟨g0, o0 + 3, none⟩))) (won rfl) rfl rfl (x_field rfl fa_65x3 (ev (t := 100) rfl rfl)) ?_
      refine s_exs (won rfl) rfl (e_store (vs := [(.slice none 0 0)]) (o' := o0) (j := 3) rfl sz_26 (ev (t := 101) rfl rfl) rfl rfl rfl hm8453 (k := 0) rfl hp0 rfl) ?_
      intro w8455 hm8456
      replace hm8456 : Mem w0 w8455 (cat [sg g0 T0 fr0 pre0 [(.int .i64 a0.Size), (.bool a0.Up), v0x2, (.slice none 0 0), (.int .i64 a0.Lost), (.int .i64 a0.Pending), (.int .i64 a0.Every), (.int .i64 a0.Signals)] post0, h0x2, h0x3, p8003.2, sg g8202 71 (0, 0) [] [(.int .i64 0), p8003.1] [], sg g4482 71 (0, 0) [] [(.int .i64 0), (.slice none 0 0)] [], hF]) := hm8456
      refine s_val (v := (.pointer (some ⟨g0, o0, none⟩))) (won rfl) rfl rfl (x_nil rfl (ev (t := 98) rfl rfl)) ?_
      refine s_val (v := (.pointer (some ⟨g0, o0 + 2, none⟩))) (won rfl) rfl rfl (x_field rfl fa_65x2 (ev (t := 102) rfl rfl)) ?_
      refine s_exs (won rfl) rfl (e_store (vs := [(.slice none 0 0)]) (o' := o0) (j := 2) rfl sz_26 (ev (t := 103) rfl rfl) rfl rfl rfl hm8456 (k := 0) rfl hp0 rfl) ?_
      intro w8458 hm8459
      replace hm8459 : Mem w0 w8458 (cat [sg g0 T0 fr0 pre0 [(.int .i64 a0.Size), (.bool a0.Up), (.slice none 0 0), (.slice none 0 0), (.int .i64 a0.Lost), (.int .i64 a0.Pending), (.int .i64 a0.Every), (.int .i64 a0.Signals)] post0, h0x2, h0x3, p8003.2, sg g8202 71 (0, 0) [] [(.int .i64 0), p8003.1] [], sg g4482 71 (0, 0) [] [(.int .i64 0), (.slice none 0 0)] [], hF]) := hm8459
      refine s_val (v := (.pointer (some ⟨g0, o0, none⟩))) (won rfl) rfl rfl (x_nil rfl (ev (t := 99) rfl rfl)) ?_
      refine s_val (v := (.pointer (some ⟨g0, o0 + 5, none⟩))) (won rfl) rfl rfl (x_field rfl fa_65x5 (ev (t := 104) rfl rfl)) ?_
      refine s_exs (won rfl) rfl (e_store (vs := [(.int .i64 0)]) (o' := o0) (j := 5) rfl sz_3 (ev (t := 105) rfl rfl) rfl rfl rfl hm8459 (k := 0) rfl hp0 rfl) ?_
      intro w8460 hm8461
      replace hm8461 : Mem w0 w8460 (cat [sg g0 T0 fr0 pre0 [(.int .i64 a0.Size), (.bool a0.Up), (.slice none 0 0), (.slice none 0 0), (.int .i64 a0.Lost), (.int .i64 0), (.int .i64 a0.Every), (.int .i64 a0.Signals)] post0, h0x2, h0x3, p8003.2, sg g8202 71 (0, 0) [] [(.int .i64 0), p8003.1] [], sg g4482 71 (0, 0) [] [(.int .i64 0), (.slice none 0 0)] [], hF]) := hm8461
      refine wpList_nil ?_
      refine nx ?_
      refine wp_seq ?_
      refine wp_region_lit ?_
      refine s_val (v := (.agg #[(.int .i64 0), p8003.1])) (won rfl) rfl rfl (x_loadN (vs := [(.int .i64 0), p8003.1]) rfl tyN_71 (ev (t := 8) (v := (.pointer (some ⟨g8202, 0, none⟩))) rfl z7000x8) (seg_cells (o' := 0) (j := 0) hm8461 (k := 4) rfl rfl rfl)) ?_
      refine s_exs (won rfl) rfl (e_store (vs := [(.int .i64 0), p8003.1]) (o' := 0) (j := 0) rfl sz_71 (ev (t := 4) (v := (.pointer (some ⟨g4482, 0, none⟩))) rfl z7000x4) (ev (t := 106) rfl rfl) rfl (one_cons rfl (one_cons (IsSl.one (H8004).sl) one_nil)) hm8461 (k := 5) rfl rfl rfl) ?_
      intro w8462 hm8463
      replace hm8463 : Mem w0 w8462 (cat [sg g0 T0 fr0 pre0 [(.int .i64 a0.Size), (.bool a0.Up), (.slice none 0 0), (.slice none 0 0), (.int .i64 a0.Lost), (.int .i64 0), (.int .i64 a0.Every), (.int .i64 a0.Signals)] post0, h0x2, h0x3, p8003.2, sg g8202 71 (0, 0) [] [(.int .i64 0), p8003.1] [], sg g4482 71 (0, 0) [] [(.int .i64 0), p8003.1] [], hF]) := hm8463
      refine wpList_nil ?_
      have hm8464 : Mem w0 w8462 (cat [sg g0 T0 fr0 pre0 [(.int .i64 a0.Size), (.bool a0.Up), (.slice none 0 0), (.slice none 0 0), (.int .i64 a0.Lost), (.int .i64 0), (.int .i64 a0.Every), (.int .i64 a0.Signals)] post0, h0x2, h0x3, p8003.2, sg g4482 71 (0, 0) [] [(.int .i64 0), p8003.1] [], hF]) := Mem.pick [0, 1, 2, 3, 5, 6] rfl hm8463
      refine nx ?_
      refine wp_ret ?_
      refine rb ?_
      refine xr ?_
      obtain rfl := Option.some.inj he
      replace he := outE hk6475
      obtain rfl := Option.some.inj he
      refine r_ret (v := (.agg #[(.int .i64 0), p8003.1])) (rv_one rfl (RVs.cell (cs := [(.int .i64 0), p8003.1]) rfl z7000x4 tyN_71 (seg_cells (o' := 0) (j := 0) hm8464 (k := 4) rfl rfl rfl) RVs.nil)) rfl ?_
      exact ⟨(.slice none 0 0), [], (.slice none 0 0), [], p8003.1, p8003.2, rfl, (OwF.nil 3 (FK.int .i64)), (OwF.nil 3 (FK.int .i64)), H8004, Mem.pick [0, 1000, 1001, 3, 5] rfl hm8464⟩
     ·
      replace he := bifF he hb6969
      refine c_false rfl (p := (decide (a1.Kind = 4))) rfl rfl hb6969 ?_
      refine wp_seq ?_
      refine wp_region_lit ?_
      refine s_val (v := (.bool (decide (a1.Kind = 5)))) (won rfl) rfl rfl (x_eql rfl (ev (t := 10) rfl rfl) rfl) ?_
      refine s_val (v := (.bool (decide (a1.Kind = 5)))) (won rfl) rfl rfl (x_assign rfl (ev (t := 108) rfl rfl)) ?_
      refine wpList_nil ?_
      refine nx ?_
      rcases Bool.eq_false_or_eq_true ((decide (a1.Kind = 5))) with hb8465 | hb8465
      ·
       replace he := bifT he hb8465
       refine c_true rfl (p := (decide (a1.Kind = 5))) rfl rfl hb8465 ?_
       refine wp_seq ?_
       refine wp_region_lit ?_
       refine s_val (v := (.pointer (some ⟨g0, o0, none⟩))) (won rfl) rfl rfl (x_move rfl (ev (t := 0) rfl rfl)) ?_
       refine s_val (v := (.pointer (some ⟨g4477, 1, none⟩))) (won rfl) rfl rfl (x_field rfl fa_74x1 (ev (t := 3) rfl rfl)) ?_
       refine s_val (v := (.int .i64 a1.N)) (won rfl) rfl rfl (x_load rfl ty1x3 (ev (t := 110) rfl rfl) (seg_cell (o' := 0) (j := 1) hm4484 (k := 1) rfl rfl rfl)) ?_
       refine s_val (v := (.bool (decide (a1.N = 1)))) (won rfl) rfl rfl (x_eql rfl (ev (t := 111) rfl rfl) rfl) ?_
       refine s_val (v := (.pointer (some ⟨g0, o0, none⟩))) (won rfl) rfl rfl (x_nil rfl (ev (t := 109) rfl rfl)) ?_
       refine s_val (v := (.pointer (some ⟨g0, o0 + 1, none⟩))) (won rfl) rfl rfl (x_field rfl fa_65x1 (ev (t := 113) rfl rfl)) ?_
       refine s_exs (won rfl) rfl (e_store (vs := [(.bool (decide (a1.N = 1)))]) (o' := o0) (j := 1) rfl sz_4 (ev (t := 114) rfl rfl) (ev (t := 112) rfl rfl) rfl rfl hm4484 (k := 2) rfl hp0 rfl) ?_
       intro w8466 hm8467
       replace hm8467 : Mem w0 w8466 (cat [sg g4482 71 (0, 0) [] [(.int .i64 0), (.slice none 0 0)] [], sg g4477 74 (0, 0) [] [(.int .i64 a1.Kind), (.int .i64 a1.N)] [], sg g0 T0 fr0 pre0 [(.int .i64 a0.Size), (.bool (decide (a1.N = 1))), v0x2, v0x3, (.int .i64 a0.Lost), (.int .i64 a0.Pending), (.int .i64 a0.Every), (.int .i64 a0.Signals)] post0, h0x2, h0x3, hF]) := hm8467
       refine wpList_nil ?_
       have hm8468 : Mem w0 w8466 (cat [sg g4482 71 (0, 0) [] [(.int .i64 0), (.slice none 0 0)] [], sg g0 T0 fr0 pre0 [(.int .i64 a0.Size), (.bool (decide (a1.N = 1))), v0x2, v0x3, (.int .i64 a0.Lost), (.int .i64 a0.Pending), (.int .i64 a0.Every), (.int .i64 a0.Signals)] post0, h0x2, h0x3, hF]) := Mem.pick [0, 2, 3, 4, 5] rfl hm8467
       refine nx ?_
       refine wp_seq ?_
       refine wp_region_lit ?_
       refine s_val (v := (.agg #[(.int .i64 0), (.slice none 0 0)])) (won rfl) rfl rfl (x_build (cells := [(.int .i64 0), (.slice none 0 0)]) (zc := [.int .i64 0, .slice none 0 0]) (sizes := [(0, 1), (1, 1)]) (ps := []) rfl zt_71 rfl uf_71 ufz_71 (pmap_lit pmap_nil) fill_nil) ?_
       refine s_exs (won rfl) rfl (e_store (vs := [(.int .i64 0), (.slice none 0 0)]) (o' := 0) (j := 0) rfl sz_71 (ev (t := 4) rfl rfl) (ev (t := 115) rfl rfl) rfl rfl hm8468 (k := 0) rfl rfl rfl) ?_
       intro w8470 hm8471
       replace hm8471 : Mem w0 w8470 (cat [sg g4482 71 (0, 0) [] [(.int .i64 0), (.slice none 0 0)] [], sg g0 T0 fr0 pre0 [(.int .i64 a0.Size), (.bool (decide (a1.N = 1))), v0x2, v0x3, (.int .i64 a0.Lost), (.int .i64 a0.Pending), (.int .i64 a0.Every), (.int .i64 a0.Signals)] post0, h0x2, h0x3, hF]) := hm8471
       refine wpList_nil ?_
       refine nx ?_
       refine wp_ret ?_
       refine rb ?_
       refine xr ?_
       obtain rfl := Option.some.inj he
       replace he := outE hk6475
       obtain rfl := Option.some.inj he
       refine r_ret (v := (.agg #[(.int .i64 0), (.slice none 0 0)])) (rv_one rfl (RVs.cell (cs := [(.int .i64 0), (.slice none 0 0)]) rfl rfl tyN_71 (seg_cells (o' := 0) (j := 0) hm8471 (k := 0) rfl rfl rfl) RVs.nil)) rfl ?_
       exact ⟨v0x2, h0x2, v0x3, h0x3, (.slice none 0 0), [], rfl, H0x2, H0x3, (OwF.nil 3 (FK.int .i64)), Mem.pick [1, 2, 3, 1000, 4] rfl hm8471⟩
      ·
       replace he := bifF he hb8465
       refine c_false rfl (p := (decide (a1.Kind = 5))) rfl rfl hb8465 ?_
       refine wp_skip ?_
       refine nb ?_
       refine nx ?_
       obtain rfl := Option.some.inj he
       exact ⟨(), _, rfl, rfl, rfl, Mem.pick [2, 0, 3, 4, 5] rfl hm4484⟩
 ·
  rintro a w ⟨s6473, f, rfl, rfl, q6472, hm8473⟩
  replace he := goE hk6475
  refine wp_seq ?_
  refine wp_region_lit ?_
  refine s_val (v := (.agg #[(.int .i64 3), (.slice none 0 0)])) (won rfl) rfl rfl (x_build (cells := [(.int .i64 3), (.slice none 0 0)]) (zc := [.int .i64 0, .slice none 0 0]) (sizes := [(0, 1), (1, 1)]) (ps := [(0, (.int .i64 3))]) rfl zt_71 rfl uf_71 ufz_71 (pmap_lit (pmap_cons rfl pmap_nil)) (fill_cons (cs := [(.int .i64 3)]) rfl rfl rfl fill_nil)) ?_
  refine s_exs (won rfl) rfl (e_store (vs := [(.int .i64 3), (.slice none 0 0)]) (o' := 0) (j := 0) rfl sz_71 (ev (t := 4) (v := (.pointer (some ⟨g4482, 0, none⟩))) rfl q6472) (ev (t := 116) rfl rfl) rfl rfl hm8473 (k := 1) rfl rfl rfl) ?_
  intro w8475 hm8476
  replace hm8476 : Mem w0 w8475 (cat [sg g0 T0 fr0 pre0 [(.int .i64 a0.Size), (.bool a0.Up), v0x2, v0x3, (.int .i64 a0.Lost), (.int .i64 a0.Pending), (.int .i64 a0.Every), (.int .i64 a0.Signals)] post0, sg g4482 71 (0, 0) [] [(.int .i64 3), (.slice none 0 0)] [], h0x2, h0x3, hF]) := hm8476
  refine wpList_nil ?_
  refine nx ?_
  refine wp_ret ?_
  obtain rfl := Option.some.inj he
  refine r_ret (v := (.agg #[(.int .i64 3), (.slice none 0 0)])) (rv_one rfl (RVs.cell (cs := [(.int .i64 3), (.slice none 0 0)]) rfl q6472 tyN_71 (seg_cells (o' := 0) (j := 0) hm8476 (k := 1) rfl rfl rfl) RVs.nil)) rfl ?_
  exact ⟨v0x2, h0x2, v0x3, h0x3, (.slice none 0 0), [], rfl, H0x2, H0x3, (OwF.nil 3 (FK.int .i64)), Mem.pick [0, 2, 3, 1000, 4] rfl hm8476⟩
def impl_RingRun_l1 (F : Nat) (a2 : (List impl_RingAct)) (r1000 : (impl_Ring × Int)) : Nat → Bool → (List Int) → (List Int) → Int → Int → Int → (List impl_RingReply) → Int → Option (Bool × (List Int) × (List Int) × Int × Int × Int × (List impl_RingReply))
  | 0, _, _, _, _, _, _, _, _ => none
  | k + 1, s1735, s1736, s1740, s1744, s1745, s1746, s1748, s1754 => (bif (decide (s1754 < (a2.length : Int))) then gd ((0 : Int) ≤ s1754 ∧ s1754 < (a2.length : Int)) ((impl_Ring_act F (impl_Ring.mk r1000.1.Size s1735 s1736 s1740 s1744 s1745 r1000.1.Every s1746) (impl_RingAct.mk (ix a2 s1754).Kind (ix a2 s1754).N)).bind fun r1915 => gd ((0 : Int) ≤ s1754 ∧ s1754 < (s1748.length : Int)) (impl_RingRun_l1 F a2 r1000 k r1915.2.Up r1915.2.Posted r1915.2.Done r1915.2.Lost r1915.2.Pending r1915.2.Signals (List.set s1748 (Int.toNat s1754) r1915.1) (IntKind.wrap .i64 (s1754 + 1)))) else (some (s1735, s1736, s1740, s1744, s1745, s1746, s1748)))
def impl_RingRun (F : Nat) (a0 : Int) (a1 : Int) (a2 : (List impl_RingAct)) : Option (impl_Ring × (List impl_RingReply) × Int) := (bif (decide ((4096 : Int) < (a2.length : Int))) then (some ((impl_Ring.mk 0 false ([] : List Int) ([] : List Int) 0 0 0 0), ([] : List impl_RingReply), 2)) else (impl_NewRing a0 a1).bind fun r1000 => (bif (!decide (r1000.2 = 0)) then (some ((impl_Ring.mk 0 false ([] : List Int) ([] : List Int) 0 0 0 0), ([] : List impl_RingReply), r1000.2)) else (bif (decide ((300 : Int) < (a2.length : Int))) then (some ((impl_Ring.mk 0 false ([] : List Int) ([] : List Int) 0 0 0 0), ([] : List impl_RingReply), 6)) else gd ((0 : Int) ≤ (a2.length : Int) ∧ (Int.toNat (a2.length : Int)) * 32 ≤ 140737488355328) ((impl_RingRun_l1 F a2 r1000 F r1000.1.Up r1000.1.Posted r1000.1.Done r1000.1.Lost r1000.1.Pending r1000.1.Signals (List.replicate (Int.toNat (a2.length : Int)) (impl_RingReply.mk 0 [])) 0 : Option (Bool × (List Int) × (List Int) × Int × Int × Int × (List impl_RingReply))).bind fun (s1512 : (Bool × (List Int) × (List Int) × Int × Int × Int × (List impl_RingReply))) => (some ((impl_Ring.mk r1000.1.Size s1512.1 s1512.2.1 s1512.2.2.1 s1512.2.2.2.1 s1512.2.2.2.2.1 r1000.1.Every s1512.2.2.2.2.2.1), s1512.2.2.2.2.2.2, 0))))))
set_option maxHeartbeats 400000 in
set_option maxRecDepth 100000 in
theorem impl_RingRun_ok (F : Nat) {w0 w : World} {hR hF : Hp} {v2x0 : Value} (a0 : Int) (a1 : Int) (a2 : (List impl_RingAct)) {r : (impl_Ring × (List impl_RingReply) × Int)} (H2x0 : RdF w0 impl_RingAct.K v2x0 a2 hR) (hs : Sub hR hF) (hm : Mem w0 w (cat [hF])) (he : impl_RingRun F a0 a1 a2 = some r) :
    Calls Try.prog 34 #[(.int .i64 a0), (.int .i64 a1), v2x0] w (fun e w' => ∃ (v'0 : Value) (h'0 : Hp) (v'1 : Value) (h'1 : Hp) (v'2 : Value) (h'2 : Hp), e = .returned (.tuple #[(.agg #[(.int .i64 r.1.Size), (.bool r.1.Up), v'0, v'1, (.int .i64 r.1.Lost), (.int .i64 r.1.Pending), (.int .i64 r.1.Every), (.int .i64 r.1.Signals)]), v'2, (.int .i64 r.2.2)]) ∧ OwF 3 (FK.int .i64) v'0 r.1.Posted h'0 ∧ OwF 3 (FK.int .i64) v'1 r.1.Done h'1 ∧ OwD 71 impl_RingReply_D v'2 r.2.1 h'2 ∧ Mem w0 w' (cat [h'0, h'1, h'2, hF])) := by
 refine calls_fr (n := 50) Try.func34 rfl rfl rfl ?_
 unfold impl_RingRun at he
 refine wp_seq ?_
 refine wp_region_lit ?_
 refine s_exv (won rfl) rfl rfl (e_alloc (vs := [(.int .i64 0), (.bool false), (.slice none 0 0), (.slice none 0 0), (.int .i64 0), (.int .i64 0), (.int .i64 0), (.int .i64 0)]) rfl zt_65 rfl hm) ?_
 rintro g983 w984 hm985
 refine s_val (v := (.slice none 0 0)) (won rfl) rfl rfl (x_assign rfl rfl) ?_
 refine s_val (v := (.int .i64 0)) (won rfl) rfl rfl (x_assign rfl rfl) ?_
 refine wpList_nil ?_
 refine nx ?_
 refine wp_seq ?_
 refine wp_seq ?_
 refine wp_region_lit ?_
 refine s_val (v := v2x0) (won rfl) rfl rfl (x_move rfl (ev (t := 2) rfl rfl)) ?_
 refine s_val (v := (.int .i64 (a2.length : Int))) (won rfl) rfl rfl (x_len rfl slt_62 (ev (t := 14) rfl rfl) (H2x0).sl) ?_
 refine s_val (v := (.bool (decide ((4096 : Int) < (a2.length : Int))))) (won rfl) rfl rfl (x_gtr rfl (ev (t := 15) rfl rfl) rfl) ?_
 refine wpList_nil ?_
 refine nx ?_
 rcases Bool.eq_false_or_eq_true ((decide ((4096 : Int) < (a2.length : Int)))) with hb994 | hb994
 ·
  replace he := bifT he hb994
  refine c_true rfl (p := (decide ((4096 : Int) < (a2.length : Int)))) rfl rfl hb994 ?_
  refine wp_seq ?_
  refine wp_region_lit ?_
  refine s_val (v := (.agg #[(.int .i64 0), (.bool false), (.slice none 0 0), (.slice none 0 0), (.int .i64 0), (.int .i64 0), (.int .i64 0), (.int .i64 0)])) (won rfl) rfl rfl (x_build (cells := [(.int .i64 0), (.bool false), (.slice none 0 0), (.slice none 0 0), (.int .i64 0), (.int .i64 0), (.int .i64 0), (.int .i64 0)]) (zc := [.int .i64 0, .bool false, .slice none 0 0, .slice none 0 0, .int .i64 0, .int .i64 0, .int .i64 0, .int .i64 0]) (sizes := [(0, 1), (1, 1), (2, 1), (3, 1), (4, 1), (5, 1), (6, 1), (7, 1)]) (ps := []) rfl zt_65 rfl uf_65 ufz_65 (pmap_lit pmap_nil) fill_nil) ?_
  refine s_exs (won rfl) rfl (e_store (vs := [(.int .i64 0), (.bool false), (.slice none 0 0), (.slice none 0 0), (.int .i64 0), (.int .i64 0), (.int .i64 0), (.int .i64 0)]) (o' := 0) (j := 0) rfl sz_65 (ev (t := 6) rfl rfl) (ev (t := 17) rfl rfl) rfl rfl hm985 (k := 0) rfl rfl rfl) ?_
  intro w997 hm998
  replace hm998 : Mem w0 w997 (cat [sg g983 65 (0, 0) [] [(.int .i64 0), (.bool false), (.slice none 0 0), (.slice none 0 0), (.int .i64 0), (.int .i64 0), (.int .i64 0), (.int .i64 0)] [], hF]) := hm998
  refine s_val (v := (.slice none 0 0)) (won rfl) rfl rfl (x_assign rfl rfl) ?_
  refine s_val (v := (.int .i64 2)) (won rfl) rfl rfl (x_assign rfl rfl) ?_
  refine wpList_nil ?_
  refine nx ?_
  refine wp_ret ?_
  refine xr ?_
  obtain rfl := Option.some.inj he
  refine r_ret (v := (.tuple #[(.agg #[(.int .i64 0), (.bool false), (.slice none 0 0), (.slice none 0 0), (.int .i64 0), (.int .i64 0), (.int .i64 0), (.int .i64 0)]), (.slice none 0 0), (.int .i64 2)])) (rv_list rfl rfl (RVs.cell (cs := [(.int .i64 0), (.bool false), (.slice none 0 0), (.slice none 0 0), (.int .i64 0), (.int .i64 0), (.int .i64 0), (.int .i64 0)]) rfl rfl tyN_65 (seg_cells (o' := 0) (j := 0) hm998 (k := 0) rfl rfl rfl) (RVs.tmp (v := (.slice none 0 0)) rfl rfl (RVs.tmp (v := (.int .i64 2)) rfl rfl RVs.nil)))) rfl ?_
  exact ⟨(.slice none 0 0), [], (.slice none 0 0), [], (.slice none 0 0), [], rfl, (OwF.nil 3 (FK.int .i64)), (OwF.nil 3 (FK.int .i64)), (OwD.nil 71 impl_RingReply_D), Mem.pick [1000, 1001, 1002, 1] rfl hm998⟩
 ·
  replace he := bifF he hb994
  refine c_false rfl (p := (decide ((4096 : Int) < (a2.length : Int)))) rfl rfl hb994 ?_
  refine wp_skip ?_
  refine nx ?_
  refine wp_seq ?_
  obtain ⟨r1000, hr1000, he⟩ := bindE he
  refine wp_region_lit ?_
  refine s_val (v := (.int .i64 a0)) (won rfl) rfl rfl (x_move rfl (ev (t := 0) rfl rfl)) ?_
  refine s_val (v := (.int .i64 a1)) (won rfl) rfl rfl (x_move rfl (ev (t := 1) rfl rfl)) ?_
  refine s_call (won rfl) rfl rfl (x_call rfl rfl cl_74 (map_lit (map_cons (ev (t := 19) rfl rfl) (map_cons (ev (t := 20) rfl rfl) map_nil)))) (impl_NewRing_ok (hR := (cat [])) (hF := cat [sg g983 65 (0, 0) [] [(.int .i64 0), (.bool false), (.slice none 0 0), (.slice none 0 0), (.int .i64 0), (.int .i64 0), (.int .i64 0), (.int .i64 0)] [], hF]) a0 a1  (Mem.one hm985) hr1000) ?_
  rintro e w1009 ⟨v1002, h1004, v1006, h1008, rfl, H1003, H1007, hm1010⟩
  refine ⟨_, rfl, ?_⟩
  replace hm1010 : Mem w0 w1009 (cat [h1004, h1008, sg g983 65 (0, 0) [] [(.int .i64 0), (.bool false), (.slice none 0 0), (.slice none 0 0), (.int .i64 0), (.int .i64 0), (.int .i64 0), (.int .i64 0)] [], hF]) := Mem.ung [h1004, h1008] [sg g983 65 (0, 0) [] [(.int .i64 0), (.bool false), (.slice none 0 0), (.slice none 0 0), (.int .i64 0), (.int .i64 0), (.int .i64 0), (.int .i64 0)] [], hF] hm1010
  refine s_val (v := (.tuple #[(.agg #[(.int .i64 r1000.1.Size), (.bool r1000.1.Up), v1002, v1006, (.int .i64 r1000.1.Lost), (.int .i64 r1000.1.Pending), (.int .i64 r1000.1.Every), (.int .i64 r1000.1.Signals)]), (.int .i64 r1000.2)])) (won rfl) rfl rfl (x_move rfl (ev (t := 21) rfl rfl)) ?_
  refine s_val (v := (.agg #[(.int .i64 r1000.1.Size), (.bool r1000.1.Up), v1002, v1006, (.int .i64 r1000.1.Lost), (.int .i64 r1000.1.Pending), (.int .i64 r1000.1.Every), (.int .i64 r1000.1.Signals)])) (won rfl) rfl rfl (x_extract rfl (ev (t := 18) rfl rfl) rfl) ?_
  refine s_val (v := (.int .i64 r1000.2)) (won rfl) rfl rfl (x_extract rfl (ev (t := 18) rfl rfl) rfl) ?_
  refine s_exv (won rfl) rfl rfl (e_alloc (vs := [(.int .i64 0), (.bool false), (.slice none 0 0), (.slice none 0 0), (.int .i64 0), (.int .i64 0), (.int .i64 0), (.int .i64 0)]) rfl zt_65 rfl hm1010) ?_
  rintro g1013 w1014 hm1015
  refine s_exs (won rfl) rfl (e_store (vs := [(.int .i64 r1000.1.Size), (.bool r1000.1.Up), v1002, v1006, (.int .i64 r1000.1.Lost), (.int .i64 r1000.1.Pending), (.int .i64 r1000.1.Every), (.int .i64 r1000.1.Signals)]) (o' := 0) (j := 0) rfl sz_65 (ev (t := 9) rfl rfl) (ev (t := 22) rfl rfl) rfl (one_cons rfl (one_cons rfl (one_cons (IsSl.one (H1003).sl) (one_cons (IsSl.one (H1007).sl) (one_cons rfl (one_cons rfl (one_cons rfl (one_cons rfl one_nil)))))))) hm1015 (k := 0) rfl rfl rfl) ?_
  intro w1017 hm1018
  replace hm1018 : Mem w0 w1017 (cat [sg g1013 65 (0, 0) [] [(.int .i64 r1000.1.Size), (.bool r1000.1.Up), v1002, v1006, (.int .i64 r1000.1.Lost), (.int .i64 r1000.1.Pending), (.int .i64 r1000.1.Every), (.int .i64 r1000.1.Signals)] [], h1004, h1008, sg g983 65 (0, 0) [] [(.int .i64 0), (.bool false), (.slice none 0 0), (.slice none 0 0), (.int .i64 0), (.int .i64 0), (.int .i64 0), (.int .i64 0)] [], hF]) := hm1018
  refine s_val (v := (.int .i64 r1000.2)) (won rfl) rfl rfl (x_assign rfl (ev (t := 23) rfl rfl)) ?_
  refine wpList_nil ?_
  refine nx ?_
  refine wp_seq ?_
  refine wp_seq ?_
  refine wp_region_lit ?_
  refine s_val (v := (.int .i64 r1000.2)) (won rfl) rfl rfl (x_move rfl (ev (t := 10) rfl rfl)) ?_
  refine s_val (v := (.bool (!decide (r1000.2 = 0)))) (won rfl) rfl rfl (x_neq rfl (ev (t := 24) rfl rfl) rfl) ?_
  refine wpList_nil ?_
  refine nx ?_
  rcases Bool.eq_false_or_eq_true ((!decide (r1000.2 = 0))) with hb1026 | hb1026
  ·
   replace he := bifT he hb1026
   refine c_true rfl (p := (!decide (r1000.2 = 0))) rfl rfl hb1026 ?_
   refine wp_seq ?_
   refine wp_region_lit ?_
   refine s_val (v := (.agg #[(.int .i64 0), (.bool false), (.slice none 0 0), (.slice none 0 0), (.int .i64 0), (.int .i64 0), (.int .i64 0), (.int .i64 0)])) (won rfl) rfl rfl (x_build (cells := [(.int .i64 0), (.bool false), (.slice none 0 0), (.slice none 0 0), (.int .i64 0), (.int .i64 0), (.int .i64 0), (.int .i64 0)]) (zc := [.int .i64 0, .bool false, .slice none 0 0, .slice none 0 0, .int .i64 0, .int .i64 0, .int .i64 0, .int .i64 0]) (sizes := [(0, 1), (1, 1), (2, 1), (3, 1), (4, 1), (5, 1), (6, 1), (7, 1)]) (ps := []) rfl zt_65 rfl uf_65 ufz_65 (pmap_lit pmap_nil) fill_nil) ?_
   refine s_val (v := (.int .i64 r1000.2)) (won rfl) rfl rfl (x_move rfl (ev (t := 10) rfl rfl)) ?_
   refine s_exs (won rfl) rfl (e_store (vs := [(.int .i64 0), (.bool false), (.slice none 0 0), (.slice none 0 0), (.int .i64 0), (.int .i64 0), (.int .i64 0), (.int .i64 0)]) (o' := 0) (j := 0) rfl sz_65 (ev (t := 6) rfl rfl) (ev (t := 26) rfl rfl) rfl rfl hm1018 (k := 3) rfl rfl rfl) ?_
   intro w1029 hm1030
   replace hm1030 : Mem w0 w1029 (cat [sg g1013 65 (0, 0) [] [(.int .i64 r1000.1.Size), (.bool r1000.1.Up), v1002, v1006, (.int .i64 r1000.1.Lost), (.int .i64 r1000.1.Pending), (.int .i64 r1000.1.Every), (.int .i64 r1000.1.Signals)] [], h1004, h1008, sg g983 65 (0, 0) [] [(.int .i64 0), (.bool false), (.slice none 0 0), (.slice none 0 0), (.int .i64 0), (.int .i64 0), (.int .i64 0), (.int .i64 0)] [], hF]) := hm1030
   refine s_val (v := (.slice none 0 0)) (won rfl) rfl rfl (x_assign rfl rfl) ?_
   refine s_val (v := (.int .i64 r1000.2)) (won rfl) rfl rfl (x_assign rfl (ev (t := 27) rfl rfl)) ?_
   refine wpList_nil ?_
   have hm1032 : Mem w0 w1029 (cat [sg g983 65 (0, 0) [] [(.int .i64 0), (.bool false), (.slice none 0 0), (.slice none 0 0), (.int .i64 0), (.int .i64 0), (.int .i64 0), (.int .i64 0)] [], hF]) := Mem.pick [3, 4] rfl hm1030
   refine nx ?_
   refine wp_ret ?_
   refine xr ?_
   obtain rfl := Option.some.inj he
   refine r_ret (v := (.tuple #[(.agg #[(.int .i64 0), (.bool false), (.slice none 0 0), (.slice none 0 0), (.int .i64 0), (.int .i64 0), (.int .i64 0), (.int .i64 0)]), (.slice none 0 0), (.int .i64 r1000.2)])) (rv_list rfl rfl (RVs.cell (cs := [(.int .i64 0), (.bool false), (.slice none 0 0), (.slice none 0 0), (.int .i64 0), (.int .i64 0), (.int .i64 0), (.int .i64 0)]) rfl rfl tyN_65 (seg_cells (o' := 0) (j := 0) hm1032 (k := 0) rfl rfl rfl) (RVs.tmp (v := (.slice none 0 0)) rfl rfl (RVs.tmp (v := (.int .i64 r1000.2)) rfl rfl RVs.nil)))) rfl ?_
   exact ⟨(.slice none 0 0), [], (.slice none 0 0), [], (.slice none 0 0), [], rfl, (OwF.nil 3 (FK.int .i64)), (OwF.nil 3 (FK.int .i64)), (OwD.nil 71 impl_RingReply_D), Mem.pick [1000, 1001, 1002, 1] rfl hm1032⟩
  ·
   replace he := bifF he hb1026
   refine c_false rfl (p := (!decide (r1000.2 = 0))) rfl rfl hb1026 ?_
   refine wp_skip ?_
   refine nx ?_
   refine wp_seq ?_
   refine wp_seq ?_
   refine wp_region_lit ?_
   refine s_val (v := v2x0) (won rfl) rfl rfl (x_move rfl (ev (t := 2) rfl rfl)) ?_
   refine s_val (v := (.int .i64 (a2.length : Int))) (won rfl) rfl rfl (x_len rfl slt_62 (ev (t := 28) rfl rfl) (H2x0).sl) ?_
   refine s_val (v := (.bool (decide ((300 : Int) < (a2.length : Int))))) (won rfl) rfl rfl (x_gtr rfl (ev (t := 29) rfl rfl) rfl) ?_
   refine wpList_nil ?_
   refine nx ?_
   rcases Bool.eq_false_or_eq_true ((decide ((300 : Int) < (a2.length : Int)))) with hb1040 | hb1040
   ·
    replace he := bifT he hb1040
    refine c_true rfl (p := (decide ((300 : Int) < (a2.length : Int)))) rfl rfl hb1040 ?_
    refine wp_seq ?_
    refine wp_region_lit ?_
    refine s_val (v := (.agg #[(.int .i64 0), (.bool false), (.slice none 0 0), (.slice none 0 0), (.int .i64 0), (.int .i64 0), (.int .i64 0), (.int .i64 0)])) (won rfl) rfl rfl (x_build (cells := [(.int .i64 0), (.bool false), (.slice none 0 0), (.slice none 0 0), (.int .i64 0), (.int .i64 0), (.int .i64 0), (.int .i64 0)]) (zc := [.int .i64 0, .bool false, .slice none 0 0, .slice none 0 0, .int .i64 0, .int .i64 0, .int .i64 0, .int .i64 0]) (sizes := [(0, 1), (1, 1), (2, 1), (3, 1), (4, 1), (5, 1), (6, 1), (7, 1)]) (ps := []) rfl zt_65 rfl uf_65 ufz_65 (pmap_lit pmap_nil) fill_nil) ?_
    refine s_exs (won rfl) rfl (e_store (vs := [(.int .i64 0), (.bool false), (.slice none 0 0), (.slice none 0 0), (.int .i64 0), (.int .i64 0), (.int .i64 0), (.int .i64 0)]) (o' := 0) (j := 0) rfl sz_65 (ev (t := 6) rfl rfl) (ev (t := 31) rfl rfl) rfl rfl hm1018 (k := 3) rfl rfl rfl) ?_
    intro w1043 hm1044
    replace hm1044 : Mem w0 w1043 (cat [sg g1013 65 (0, 0) [] [(.int .i64 r1000.1.Size), (.bool r1000.1.Up), v1002, v1006, (.int .i64 r1000.1.Lost), (.int .i64 r1000.1.Pending), (.int .i64 r1000.1.Every), (.int .i64 r1000.1.Signals)] [], h1004, h1008, sg g983 65 (0, 0) [] [(.int .i64 0), (.bool false), (.slice none 0 0), (.slice none 0 0), (.int .i64 0), (.int .i64 0), (.int .i64 0), (.int .i64 0)] [], hF]) := hm1044
    refine s_val (v := (.slice none 0 0)) (won rfl) rfl rfl (x_assign rfl rfl) ?_
    refine s_val (v := (.int .i64 6)) (won rfl) rfl rfl (x_assign rfl rfl) ?_
    refine wpList_nil ?_
    have hm1046 : Mem w0 w1043 (cat [sg g983 65 (0, 0) [] [(.int .i64 0), (.bool false), (.slice none 0 0), (.slice none 0 0), (.int .i64 0), (.int .i64 0), (.int .i64 0), (.int .i64 0)] [], hF]) := Mem.pick [3, 4] rfl hm1044
    refine nx ?_
    refine wp_ret ?_
    refine xr ?_
    obtain rfl := Option.some.inj he
    refine r_ret (v := (.tuple #[(.agg #[(.int .i64 0), (.bool false), (.slice none 0 0), (.slice none 0 0), (.int .i64 0), (.int .i64 0), (.int .i64 0), (.int .i64 0)]), (.slice none 0 0), (.int .i64 6)])) (rv_list rfl rfl (RVs.cell (cs := [(.int .i64 0), (.bool false), (.slice none 0 0), (.slice none 0 0), (.int .i64 0), (.int .i64 0), (.int .i64 0), (.int .i64 0)]) rfl rfl tyN_65 (seg_cells (o' := 0) (j := 0) hm1046 (k := 0) rfl rfl rfl) (RVs.tmp (v := (.slice none 0 0)) rfl rfl (RVs.tmp (v := (.int .i64 6)) rfl rfl RVs.nil)))) rfl ?_
    exact ⟨(.slice none 0 0), [], (.slice none 0 0), [], (.slice none 0 0), [], rfl, (OwF.nil 3 (FK.int .i64)), (OwF.nil 3 (FK.int .i64)), (OwD.nil 71 impl_RingReply_D), Mem.pick [1000, 1001, 1002, 1] rfl hm1046⟩
   ·
    replace he := bifF he hb1040
    refine c_false rfl (p := (decide ((300 : Int) < (a2.length : Int)))) rfl rfl hb1040 ?_
    refine wp_skip ?_
    refine nx ?_
    refine wp_seq ?_
    obtain ⟨hg1047, he⟩ := gdE he
    refine wp_region_lit ?_
    refine s_val (v := v2x0) (won rfl) rfl rfl (x_move rfl (ev (t := 2) rfl rfl)) ?_
    refine s_val (v := (.int .i64 (a2.length : Int))) (won rfl) rfl rfl (x_len rfl slt_62 (ev (t := 32) rfl rfl) (H2x0).sl) ?_
    refine s_exv (won rfl) rfl rfl (e_makeD (d := impl_RingReply_D) (a := (impl_RingReply.mk 0 [])) (zc := [.int .i64 0, .slice none 0 0]) rfl slt_66 rfl (impl_RingReply_Kmk ⟨.slice none 0 0, [], rfl, OwF.nil 3 (FK.int .i64), rfl⟩) (ev (t := 33) rfl rfl) (ev (t := 33) rfl rfl) hg1047.1 hg1047.2 (by have := hg1047; omega) hm1018) ?_
    rintro p1049 w1051 ⟨H1050, hm1052⟩
    replace hm1052 : Mem w0 w1051 (cat [p1049.2, sg g1013 65 (0, 0) [] [(.int .i64 r1000.1.Size), (.bool r1000.1.Up), v1002, v1006, (.int .i64 r1000.1.Lost), (.int .i64 r1000.1.Pending), (.int .i64 r1000.1.Every), (.int .i64 r1000.1.Signals)] [], h1004, h1008, sg g983 65 (0, 0) [] [(.int .i64 0), (.bool false), (.slice none 0 0), (.slice none 0 0), (.int .i64 0), (.int .i64 0), (.int .i64 0), (.int .i64 0)] [], hF]) := hm1052
    refine s_val (v := p1049.1) (won rfl) rfl rfl (x_assign rfl (ev (t := 34) rfl rfl)) ?_
    refine wpList_nil ?_
    refine nx ?_
    obtain ⟨s1512, hT1514, hk1513⟩ := bindE he
    replace he := hT1514
    refine wp_seqJ (fun a w => ∃ (v1497 : Value) (h1498 : Hp) (v1501 : Value) (h1502 : Hp) (h1509 : Hp) (f : Nat → Value), a = fr 50 f ∧ f 6 = (.pointer (some ⟨g983, 0, none⟩)) ∧ f 9 = (.pointer (some ⟨g1013, 0, none⟩)) ∧ f 11 = p1049.1 ∧ OwF 3 (FK.int .i64) v1497 s1512.2.1 h1498 ∧ OwF 3 (FK.int .i64) v1501 s1512.2.2.1 h1502 ∧ OwD 71 impl_RingReply_D p1049.1 s1512.2.2.2.2.2.2 h1509 ∧ Mem w0 w (cat [sg g983 65 (0, 0) [] [(.int .i64 0), (.bool false), (.slice none 0 0), (.slice none 0 0), (.int .i64 0), (.int .i64 0), (.int .i64 0), (.int .i64 0)] [], sg g1013 65 (0, 0) [] [(.int .i64 r1000.1.Size), (.bool s1512.1), v1497, v1501, (.int .i64 s1512.2.2.2.1), (.int .i64 s1512.2.2.2.2.1), (.int .i64 r1000.1.Every), (.int .i64 s1512.2.2.2.2.2.1)] [], h1498, h1502, h1509, hF])) ?_ ?_
    ·
     refine wp_seq ?_
     refine wp_region_lit ?_
     refine s_val (v := v2x0) (won rfl) rfl rfl (x_move rfl (ev (t := 2) rfl rfl)) ?_
     refine s_val (v := (.int .i64 (a2.length : Int))) (won rfl) rfl rfl (x_len rfl slt_62 (ev (t := 35) rfl rfl) (H2x0).sl) ?_
     refine s_val (v := (.int .i64 0)) (won rfl) rfl rfl (x_move rfl rfl) ?_
     refine wpList_nil ?_
     refine nx ?_
     refine wp_block ?_
     refine wp_fuel (I := fun k => fun a w => ∃ (s1735 : Bool) (s1736 : (List Int)) (s1740 : (List Int)) (s1744 : Int) (s1745 : Int) (s1746 : Int) (s1748 : (List impl_RingReply)) (s1754 : Int) (v1737 : Value) (h1738 : Hp) (v1741 : Value) (h1742 : Hp) (h1749 : Hp) (f : Nat → Value), impl_RingRun_l1 F a2 r1000 k s1735 s1736 s1740 s1744 s1745 s1746 s1748 s1754 = some s1512 ∧ a = fr 50 f ∧ f 6 = (.pointer (some ⟨g983, 0, none⟩)) ∧ f 9 = (.pointer (some ⟨g1013, 0, none⟩)) ∧ f 11 = p1049.1 ∧ f 35 = v2x0 ∧ f 36 = (.int .i64 (a2.length : Int)) ∧ f 37 = (.int .i64 s1754) ∧ OwF 3 (FK.int .i64) v1737 s1736 h1738 ∧ OwF 3 (FK.int .i64) v1741 s1740 h1742 ∧ OwD 71 impl_RingReply_D p1049.1 s1748 h1749 ∧ Mem w0 w (cat [sg g983 65 (0, 0) [] [(.int .i64 0), (.bool false), (.slice none 0 0), (.slice none 0 0), (.int .i64 0), (.int .i64 0), (.int .i64 0), (.int .i64 0)] [], sg g1013 65 (0, 0) [] [(.int .i64 r1000.1.Size), (.bool s1735), v1737, v1741, (.int .i64 s1744), (.int .i64 s1745), (.int .i64 r1000.1.Every), (.int .i64 s1746)] [], h1738, h1742, h1749, hF])) F _ _ ⟨r1000.1.Up, r1000.1.Posted, r1000.1.Done, r1000.1.Lost, r1000.1.Pending, r1000.1.Signals, (List.replicate (Int.toNat (a2.length : Int)) (impl_RingReply.mk 0 [])), 0, v1002, h1004, v1006, h1008, p1049.2, _, he, rfl, rfl, rfl, rfl, rfl, rfl, rfl, H1003, H1007, H1050, Mem.pick [4, 1, 2, 3, 0, 5] rfl hm1052⟩ ?_ ?_
     ·
      rintro a w ⟨s1735, s1736, s1740, s1744, s1745, s1746, s1748, s1754, v1737, h1738, v1741, h1742, h1749, f, he, rfl, q1734, q1747, q1751, q1752, q1753, q1755, H1739, H1743, H1750, hm1855⟩
      rw [impl_RingRun_l1] at he; exact none_no he
     ·
      rintro k a w ⟨s1735, s1736, s1740, s1744, s1745, s1746, s1748, s1754, v1737, h1738, v1741, h1742, h1749, f, he, rfl, q1734, q1747, q1751, q1752, q1753, q1755, H1739, H1743, H1750, hm1857⟩
      rw [impl_RingRun_l1] at he
      refine wp_seq ?_
      refine wp_region_lit ?_
      refine s_val (v := (.bool (decide (s1754 < (a2.length : Int))))) (won rfl) rfl rfl (x_lss rfl (ev (t := 37) (v := (.int .i64 s1754)) rfl q1755) (ev (t := 36) (v := (.int .i64 (a2.length : Int))) rfl q1753)) ?_
      refine wpList_nil ?_
      refine nx ?_
      refine wp_seq ?_
      rcases Bool.eq_false_or_eq_true ((decide (s1754 < (a2.length : Int)))) with hb1859 | hb1859
      ·
       replace he := bifT he hb1859
       refine c_true rfl (p := (decide (s1754 < (a2.length : Int)))) rfl rfl hb1859 ?_
       refine wp_skip ?_
       refine nx ?_
       refine wp_seq ?_
       refine wp_block ?_
       refine wp_seq ?_
       obtain ⟨hg1908, he⟩ := gdE he
       refine wp_region_lit ?_
       refine s_val (v := (.int .i64 s1754)) (won rfl) rfl rfl (x_move rfl (ev (t := 37) (v := (.int .i64 s1754)) rfl q1755)) ?_
       refine s_val (v := (.pointer (some ((slA v2x0).add (Int.toNat s1754 * 2))))) (won rfl) rfl rfl (x_index (d := impl_RingAct.K) rfl slt_62 (ev (t := 35) (v := v2x0) rfl q1752) (ev (t := 37) (v := (.int .i64 s1754)) rfl q1755) H2x0 hg1908.1 hg1908.2) ?_
       refine s_val (v := (.agg #[(.int .i64 (ix a2 s1754).Kind), (.int .i64 (ix a2 s1754).N)])) (won rfl) rfl rfl (x_loadN (vs := [(.int .i64 (ix a2 s1754).Kind), (.int .i64 (ix a2 s1754).N)]) rfl tyN_74 (ev (t := 40) rfl rfl) (RdF.cells H2x0 hm1857 (Sub.trans hs (Sub.at_ (k := 5) rfl)) hg1908.1 hg1908.2)) ?_
       refine s_exv (won rfl) rfl rfl (e_alloc (vs := [(.int .i64 0), (.int .i64 0)]) rfl zt_74 rfl hm1857) ?_
       rintro g1909 w1910 hm1911
       refine s_val (v := (.int .i64 s1754)) (won rfl) rfl rfl (x_assign rfl (ev (t := 39) rfl rfl)) ?_
       refine s_exs (won rfl) rfl (e_store (vs := [(.int .i64 (ix a2 s1754).Kind), (.int .i64 (ix a2 s1754).N)]) (o' := 0) (j := 0) rfl sz_74 (ev (t := 13) rfl rfl) (ev (t := 41) rfl rfl) rfl rfl hm1911 (k := 0) rfl rfl rfl) ?_
       intro w1913 hm1914
       replace hm1914 : Mem w0 w1913 (cat [sg g1909 74 (0, 0) [] [(.int .i64 (ix a2 s1754).Kind), (.int .i64 (ix a2 s1754).N)] [], sg g983 65 (0, 0) [] [(.int .i64 0), (.bool false), (.slice none 0 0), (.slice none 0 0), (.int .i64 0), (.int .i64 0), (.int .i64 0), (.int .i64 0)] [], sg g1013 65 (0, 0) [] [(.int .i64 r1000.1.Size), (.bool s1735), v1737, v1741, (.int .i64 s1744), (.int .i64 s1745), (.int .i64 r1000.1.Every), (.int .i64 s1746)] [], h1738, h1742, h1749, hF]) := hm1914
       refine wpList_nil ?_
       refine nx ?_
       obtain ⟨r1915, hr1915, he⟩ := bindE he
       obtain ⟨hg1930, he⟩ := gdE he
       refine wp_region_lit ?_
       refine s_val (v := p1049.1) (won rfl) rfl rfl (x_move rfl (ev (t := 11) (v := p1049.1) rfl q1751)) ?_
       refine s_val (v := (.int .i64 s1754)) (won rfl) rfl rfl (x_move rfl (ev (t := 12) rfl rfl)) ?_
       refine s_val (v := (.agg #[(.int .i64 (ix a2 s1754).Kind), (.int .i64 (ix a2 s1754).N)])) (won rfl) rfl rfl (x_loadN (vs := [(.int .i64 (ix a2 s1754).Kind), (.int .i64 (ix a2 s1754).N)]) rfl tyN_74 (ev (t := 13) rfl rfl) (seg_cells (o' := 0) (j := 0) hm1914 (k := 0) rfl rfl rfl)) ?_
       refine s_call (won rfl) rfl rfl (x_call rfl rfl cl_75 (map_lit (map_cons (ev (t := 9) (v := (.pointer (some ⟨g1013, 0, none⟩))) rfl q1747) (map_cons (ev (t := 44) rfl rfl) map_nil)))) (impl_Ring_act_ok F (hR := (cat [])) (hF := cat [sg g1909 74 (0, 0) [] [(.int .i64 (ix a2 s1754).Kind), (.int .i64 (ix a2 s1754).N)] [], sg g983 65 (0, 0) [] [(.int .i64 0), (.bool false), (.slice none 0 0), (.slice none 0 0), (.int .i64 0), (.int .i64 0), (.int .i64 0), (.int .i64 0)] [], h1749, hF]) (impl_Ring.mk r1000.1.Size s1735 s1736 s1740 s1744 s1745 r1000.1.Every s1746) (impl_RingAct.mk (ix a2 s1754).Kind (ix a2 s1754).N) H1739 H1743 rfl (Mem.grp [sg g1013 65 (0, 0) [] [(.int .i64 r1000.1.Size), (.bool s1735), v1737, v1741, (.int .i64 s1744), (.int .i64 s1745), (.int .i64 r1000.1.Every), (.int .i64 s1746)] [], h1738, h1742] [sg g1909 74 (0, 0) [] [(.int .i64 (ix a2 s1754).Kind), (.int .i64 (ix a2 s1754).N)] [], sg g983 65 (0, 0) [] [(.int .i64 0), (.bool false), (.slice none 0 0), (.slice none 0 0), (.int .i64 0), (.int .i64 0), (.int .i64 0), (.int .i64 0)] [], h1749, hF] (Mem.pick [2, 3, 4, 0, 1, 5, 6] rfl hm1914)) hr1915) ?_
       rintro e w1928 ⟨v1917, h1919, v1921, h1923, v1925, h1927, rfl, H1918, H1922, H1926, hm1929⟩
       refine ⟨_, rfl, ?_⟩
       replace hm1929 : Mem w0 w1928 (cat [sg g1013 65 (0, 0) [] [(.int .i64 r1000.1.Size), (.bool r1915.2.Up), v1917, v1921, (.int .i64 r1915.2.Lost), (.int .i64 r1915.2.Pending), (.int .i64 r1000.1.Every), (.int .i64 r1915.2.Signals)] [], h1919, h1923, h1927, sg g1909 74 (0, 0) [] [(.int .i64 (ix a2 s1754).Kind), (.int .i64 (ix a2 s1754).N)] [], sg g983 65 (0, 0) [] [(.int .i64 0), (.bool false), (.slice none 0 0), (.slice none 0 0), (.int .i64 0), (.int .i64 0), (.int .i64 0), (.int .i64 0)] [], h1749, hF]) := Mem.ung [sg g1013 65 (0, 0) [] [(.int .i64 r1000.1.Size), (.bool r1915.2.Up), v1917, v1921, (.int .i64 r1915.2.Lost), (.int .i64 r1915.2.Pending), (.int .i64 r1000.1.Every), (.int .i64 r1915.2.Signals)] [], h1919, h1923, h1927] [sg g1909 74 (0, 0) [] [(.int .i64 (ix a2 s1754).Kind), (.int .i64 (ix a2 s1754).N)] [], sg g983 65 (0, 0) [] [(.int .i64 0), (.bool false), (.slice none 0 0), (.slice none 0 0), (.int .i64 0), (.int .i64 0), (.int .i64 0), (.int .i64 0)] [], h1749, hF] hm1929
       refine s_val (v := (.pointer (some ((slA p1049.1).add (Int.toNat s1754 * 2))))) (won rfl) rfl rfl (x_indexD rfl slt_66 (ev (t := 42) rfl rfl) (ev (t := 43) rfl rfl) H1750.sl H1750.some hg1930.1 hg1930.2) ?_
       obtain ⟨g1931, fr1932, pre1933, cs1934, post1935, hx1936, hr1937, ha1938, how1939, hm1940, hw1941⟩ := OwD.focus (d := impl_RingReply_D) (i := s1754) H1750 hg1930.1 hg1930.2 (k := 6) rfl hm1929
       obtain ⟨v1942, h1943, e1945, H1944, e1946⟩ := impl_RingReply_Kown how1939
       subst e1945; subst e1946
       have hm1949 : Mem w0 w1928 (cat [sg g1013 65 (0, 0) [] [(.int .i64 r1000.1.Size), (.bool r1915.2.Up), v1917, v1921, (.int .i64 r1915.2.Lost), (.int .i64 r1915.2.Pending), (.int .i64 r1000.1.Every), (.int .i64 r1915.2.Signals)] [], h1919, h1923, h1927, sg g1909 74 (0, 0) [] [(.int .i64 (ix a2 s1754).Kind), (.int .i64 (ix a2 s1754).N)] [], sg g983 65 (0, 0) [] [(.int .i64 0), (.bool false), (.slice none 0 0), (.slice none 0 0), (.int .i64 0), (.int .i64 0), (.int .i64 0), (.int .i64 0)] [], sg g1931 71 fr1932 pre1933 [(.int .i64 (ix s1748 s1754).Code), v1942] post1935, h1943, hr1937, hF]) := Mem.eqv (by simp only [cat, List.set_cons_zero, List.set_cons_succ, List.append_assoc, List.append_nil, List.nil_append]) hm1940
       refine s_exs (won rfl) rfl (e_store (vs := [(.int .i64 r1915.1.Code), v1925]) (o' := pre1933.length) (j := 0) rfl sz_71 ((ev (t := 46) rfl rfl).trans (congrArg (fun a => Value.pointer (some a)) ha1938)) (ev (t := 45) rfl rfl) rfl (one_cons rfl (one_cons (IsSl.one (H1926).sl) one_nil)) hm1949 (k := 6) rfl rfl rfl) ?_
       intro w1950 hm1951
       replace hm1951 : Mem w0 w1950 (cat [sg g1013 65 (0, 0) [] [(.int .i64 r1000.1.Size), (.bool r1915.2.Up), v1917, v1921, (.int .i64 r1915.2.Lost), (.int .i64 r1915.2.Pending), (.int .i64 r1000.1.Every), (.int .i64 r1915.2.Signals)] [], h1919, h1923, h1927, sg g1909 74 (0, 0) [] [(.int .i64 (ix a2 s1754).Kind), (.int .i64 (ix a2 s1754).N)] [], sg g983 65 (0, 0) [] [(.int .i64 0), (.bool false), (.slice none 0 0), (.slice none 0 0), (.int .i64 0), (.int .i64 0), (.int .i64 0), (.int .i64 0)] [], sg g1931 71 fr1932 pre1933 [(.int .i64 r1915.1.Code), v1925] post1935, h1943, hr1937, hF]) := hm1951
       refine wpList_nil ?_
       have hm1952 : Mem w0 w1950 (cat [sg g1013 65 (0, 0) [] [(.int .i64 r1000.1.Size), (.bool r1915.2.Up), v1917, v1921, (.int .i64 r1915.2.Lost), (.int .i64 r1915.2.Pending), (.int .i64 r1000.1.Every), (.int .i64 r1915.2.Signals)] [], h1919, h1923, h1927, sg g983 65 (0, 0) [] [(.int .i64 0), (.bool false), (.slice none 0 0), (.slice none 0 0), (.int .i64 0), (.int .i64 0), (.int .i64 0), (.int .i64 0)] [], sg g1931 71 fr1932 pre1933 [(.int .i64 r1915.1.Code), v1925] post1935, h1943, hr1937, hF]) := Mem.pick [0, 1, 2, 3, 5, 6, 7, 8, 9] rfl hm1951
       refine nb ?_
       refine nx ?_
       refine wp_region_lit ?_
       refine s_val (v := (.int .i64 (IntKind.wrap .i64 (s1754 + 1)))) (won rfl) rfl rfl (x_add rfl (ev (t := 37) (v := (.int .i64 s1754)) rfl q1755) rfl) ?_
       refine s_val (v := (.int .i64 (IntKind.wrap .i64 (s1754 + 1)))) (won rfl) rfl rfl (x_move rfl (ev (t := 47) rfl rfl)) ?_
       refine wpList_nil ?_
       refine nx ?_
       have H1953 : OwD 71 impl_RingReply_D p1049.1 (List.set s1748 (Int.toNat s1754) r1915.1) (cat [sg g1931 71 fr1932 pre1933 [(.int .i64 r1915.1.Code), v1925] post1935, (cat [h1927]), hr1937]) := hw1941 _ _ _ (impl_RingReply_Kmk ⟨v1925, h1927, rfl, H1926, rfl⟩)
       have hm1955 : Mem w0 w1950 (cat [sg g1931 71 fr1932 pre1933 [(.int .i64 r1915.1.Code), v1925] post1935, h1927, hr1937, sg g1013 65 (0, 0) [] [(.int .i64 r1000.1.Size), (.bool r1915.2.Up), v1917, v1921, (.int .i64 r1915.2.Lost), (.int .i64 r1915.2.Pending), (.int .i64 r1000.1.Every), (.int .i64 r1915.2.Signals)] [], h1919, h1923, sg g983 65 (0, 0) [] [(.int .i64 0), (.bool false), (.slice none 0 0), (.slice none 0 0), (.int .i64 0), (.int .i64 0), (.int .i64 0), (.int .i64 0)] [], h1943, hF]) := Mem.pick [5, 3, 7, 0, 1, 2, 4, 6, 8] rfl hm1952
       have hm1954 : Mem w0 w1950 (cat ((cat [sg g1931 71 fr1932 pre1933 [(.int .i64 r1915.1.Code), v1925] post1935, (cat [h1927]), hr1937]) :: [sg g1013 65 (0, 0) [] [(.int .i64 r1000.1.Size), (.bool r1915.2.Up), v1917, v1921, (.int .i64 r1915.2.Lost), (.int .i64 r1915.2.Pending), (.int .i64 r1000.1.Every), (.int .i64 r1915.2.Signals)] [], h1919, h1923, sg g983 65 (0, 0) [] [(.int .i64 0), (.bool false), (.slice none 0 0), (.slice none 0 0), (.int .i64 0), (.int .i64 0), (.int .i64 0), (.int .i64 0)] [], h1943, hF])) := Mem.eqv (by simp only [cat, List.append_assoc, List.append_nil, List.nil_append]) hm1955
       exact ⟨r1915.2.Up, r1915.2.Posted, r1915.2.Done, r1915.2.Lost, r1915.2.Pending, r1915.2.Signals, (List.set s1748 (Int.toNat s1754) r1915.1), (IntKind.wrap .i64 (s1754 + 1)), v1917, h1919, v1921, h1923, (cat [sg g1931 71 fr1932 pre1933 [(.int .i64 r1915.1.Code), v1925] post1935, (cat [h1927]), hr1937]), _, he, rfl, q1734, q1747, q1751, q1752, q1753, rfl, H1918, H1922, H1953, Mem.pick [4, 1, 2, 3, 0, 6] rfl hm1954⟩
      ·
       replace he := bifF he hb1859
       refine c_false rfl (p := (decide (s1754 < (a2.length : Int)))) rfl rfl hb1859 ?_
       refine wp_exit ?_
       refine xs ?_
       refine xs ?_
       refine xb ?_
       refine nx ?_
       obtain rfl := Option.some.inj he
       exact ⟨v1737, h1738, v1741, h1742, h1749, _, rfl, q1734, q1747, q1751, H1739, H1743, H1750, Mem.pick [0, 1, 2, 3, 4, 5] rfl hm1857⟩
    ·
     rintro a w ⟨v1497, h1498, v1501, h1502, h1509, f, rfl, q1494, q1507, q1511, H1499, H1503, H1510, hm1957⟩
     replace he := hk1513
     refine wp_seq ?_
     refine wp_region_lit ?_
     refine s_val (v := (.agg #[(.int .i64 r1000.1.Size), (.bool s1512.1), v1497, v1501, (.int .i64 s1512.2.2.2.1), (.int .i64 s1512.2.2.2.2.1), (.int .i64 r1000.1.Every), (.int .i64 s1512.2.2.2.2.2.1)])) (won rfl) rfl rfl (x_loadN (vs := [(.int .i64 r1000.1.Size), (.bool s1512.1), v1497, v1501, (.int .i64 s1512.2.2.2.1), (.int .i64 s1512.2.2.2.2.1), (.int .i64 r1000.1.Every), (.int .i64 s1512.2.2.2.2.2.1)]) rfl tyN_65 (ev (t := 9) (v := (.pointer (some ⟨g1013, 0, none⟩))) rfl q1507) (seg_cells (o' := 0) (j := 0) hm1957 (k := 1) rfl rfl rfl)) ?_
     refine s_val (v := p1049.1) (won rfl) rfl rfl (x_move rfl (ev (t := 11) (v := p1049.1) rfl q1511)) ?_
     refine s_exs (won rfl) rfl (e_store (vs := [(.int .i64 r1000.1.Size), (.bool s1512.1), v1497, v1501, (.int .i64 s1512.2.2.2.1), (.int .i64 s1512.2.2.2.2.1), (.int .i64 r1000.1.Every), (.int .i64 s1512.2.2.2.2.2.1)]) (o' := 0) (j := 0) rfl sz_65 (ev (t := 6) (v := (.pointer (some ⟨g983, 0, none⟩))) rfl q1494) (ev (t := 48) rfl rfl) rfl (one_cons rfl (one_cons rfl (one_cons (IsSl.one (H1499).sl) (one_cons (IsSl.one (H1503).sl) (one_cons rfl (one_cons rfl (one_cons rfl (one_cons rfl one_nil)))))))) hm1957 (k := 0) rfl rfl rfl) ?_
     intro w1958 hm1959
     replace hm1959 : Mem w0 w1958 (cat [sg g983 65 (0, 0) [] [(.int .i64 r1000.1.Size), (.bool s1512.1), v1497, v1501, (.int .i64 s1512.2.2.2.1), (.int .i64 s1512.2.2.2.2.1), (.int .i64 r1000.1.Every), (.int .i64 s1512.2.2.2.2.2.1)] [], sg g1013 65 (0, 0) [] [(.int .i64 r1000.1.Size), (.bool s1512.1), v1497, v1501, (.int .i64 s1512.2.2.2.1), (.int .i64 s1512.2.2.2.2.1), (.int .i64 r1000.1.Every), (.int .i64 s1512.2.2.2.2.2.1)] [], h1498, h1502, h1509, hF]) := hm1959
     refine s_val (v := p1049.1) (won rfl) rfl rfl (x_assign rfl (ev (t := 49) rfl rfl)) ?_
     refine s_val (v := (.int .i64 0)) (won rfl) rfl rfl (x_assign rfl rfl) ?_
     refine wpList_nil ?_
     have hm1960 : Mem w0 w1958 (cat [sg g983 65 (0, 0) [] [(.int .i64 r1000.1.Size), (.bool s1512.1), v1497, v1501, (.int .i64 s1512.2.2.2.1), (.int .i64 s1512.2.2.2.2.1), (.int .i64 r1000.1.Every), (.int .i64 s1512.2.2.2.2.2.1)] [], h1498, h1502, h1509, hF]) := Mem.pick [0, 2, 3, 4, 5] rfl hm1959
     refine nx ?_
     refine wp_ret ?_
     obtain rfl := Option.some.inj he
     refine r_ret (v := (.tuple #[(.agg #[(.int .i64 r1000.1.Size), (.bool s1512.1), v1497, v1501, (.int .i64 s1512.2.2.2.1), (.int .i64 s1512.2.2.2.2.1), (.int .i64 r1000.1.Every), (.int .i64 s1512.2.2.2.2.2.1)]), p1049.1, (.int .i64 0)])) (rv_list rfl rfl (RVs.cell (cs := [(.int .i64 r1000.1.Size), (.bool s1512.1), v1497, v1501, (.int .i64 s1512.2.2.2.1), (.int .i64 s1512.2.2.2.2.1), (.int .i64 r1000.1.Every), (.int .i64 s1512.2.2.2.2.2.1)]) rfl q1494 tyN_65 (seg_cells (o' := 0) (j := 0) hm1960 (k := 0) rfl rfl rfl) (RVs.tmp (v := p1049.1) rfl rfl (RVs.tmp (v := (.int .i64 0)) rfl rfl RVs.nil)))) rfl ?_
     exact ⟨v1497, h1498, v1501, h1502, p1049.1, h1509, rfl, H1499, H1503, H1510, Mem.pick [1, 2, 3, 4] rfl hm1960⟩
def spec_l01In (a0 : Int) (a1 : Int) (a2 : Int) : Option (Bool) := (some ((decide (a1 ≤ a0)) && (decide (a0 ≤ a2))))
set_option maxHeartbeats 400000 in
set_option maxRecDepth 100000 in
theorem spec_l01In_ok {w0 w : World} {hR hF : Hp} (a0 : Int) (a1 : Int) (a2 : Int) {r : (Bool)} (hm : Mem w0 w (cat [hF])) (he : spec_l01In a0 a1 a2 = some r) :
    Calls Try.prog 87 #[(.int .i64 a0), (.int .i64 a1), (.int .i64 a2)] w (fun e w' => e = .returned (.bool r) ∧ Mem w0 w' (cat [hF])) := by
 refine calls_fr (n := 15) Try.func87 rfl rfl rfl ?_
 unfold spec_l01In at he
 refine wp_seq ?_
 refine wp_region_lit ?_
 refine s_val (v := (.bool false)) (won rfl) rfl rfl (x_assign rfl rfl) ?_
 refine wpList_nil ?_
 refine nx ?_
 refine wp_seq ?_
 refine wp_region_lit ?_
 refine s_val (v := (.int .i64 a0)) (won rfl) rfl rfl (x_move rfl (ev (t := 0) rfl rfl)) ?_
 refine s_val (v := (.int .i64 a1)) (won rfl) rfl rfl (x_move rfl (ev (t := 1) rfl rfl)) ?_
 refine s_val (v := (.bool (decide (a1 ≤ a0)))) (won rfl) rfl rfl (x_geq rfl (ev (t := 7) rfl rfl) (ev (t := 8) rfl rfl)) ?_
 refine s_val (v := (.bool (decide (a1 ≤ a0)))) (won rfl) rfl rfl (x_move rfl (ev (t := 9) rfl rfl)) ?_
 refine s_cval (p := (decide (a1 ≤ a0))) (v := (.int .i64 a0)) (won_t (j := 3) (t := 10) (q := (decide (a1 ≤ a0))) rfl rfl rfl rfl rfl) rfl rfl (fun hp => (x_move rfl (ev (t := 0) rfl rfl))) ?_
 refine s_cval (p := (decide (a1 ≤ a0))) (v := (.int .i64 a2)) (won_t (j := 3) (t := 10) (q := (decide (a1 ≤ a0))) rfl rfl rfl rfl rfl) rfl rfl (fun hp => (x_move rfl (ev (t := 2) rfl rfl))) ?_
 refine s_cval (p := (decide (a1 ≤ a0))) (v := (.bool (decide (a0 ≤ a2)))) (won_t (j := 3) (t := 10) (q := (decide (a1 ≤ a0))) rfl rfl rfl rfl rfl) rfl rfl (fun hp => (x_leq rfl (ev (t := 11) rfl (Eq.trans (b := cv (decide (a1 ≤ a0)) (.int .i64 a0)) rfl (on_c hp))) (ev (t := 12) rfl (Eq.trans (b := cv (decide (a1 ≤ a0)) (.int .i64 a2)) rfl (on_c hp))))) ?_
 refine s_val (v := (.bool ((decide (a1 ≤ a0)) && (decide (a0 ≤ a2))))) (won rfl) rfl rfl (x_pick_and rfl (ev (t := 10) rfl rfl) (fun hq => ev rfl (Eq.trans (b := cv (decide (a1 ≤ a0)) (.bool (decide (a0 ≤ a2)))) rfl (on_c hq))) rfl) ?_
 refine s_val (v := (.bool ((decide (a1 ≤ a0)) && (decide (a0 ≤ a2))))) (won rfl) rfl rfl (x_assign rfl (ev (t := 14) rfl rfl)) ?_
 refine wpList_nil ?_
 refine nx ?_
 refine wp_ret ?_
 obtain rfl := Option.some.inj he
 refine r_ret (v := (.bool ((decide (a1 ≤ a0)) && (decide (a0 ≤ a2))))) (rv_one rfl (RVs.tmp (v := (.bool ((decide (a1 ≤ a0)) && (decide (a0 ≤ a2))))) rfl rfl RVs.nil)) rfl ?_
 exact ⟨rfl, Mem.pick [0] rfl hm⟩
def spec_NewRing (a0 : Int) (a1 : Int) : Option (impl_Ring × Int) := (spec_l01In a0 1 16).bind fun r50 => (bif (!(!r50)) then spec_l01In a1 1 16 else some false).bind fun r53 => (bif ((!r50) || (!r53)) then (some ((impl_Ring.mk 0 false ([] : List Int) ([] : List Int) 0 0 0 0), 4)) else (some ((impl_Ring.mk a0 true ([] : List Int) ([] : List Int) 0 0 a1 0), 0)))
set_option maxHeartbeats 400000 in
set_option maxRecDepth 100000 in
theorem spec_NewRing_ok {w0 w : World} {hR hF : Hp} (a0 : Int) (a1 : Int) {r : (impl_Ring × Int)} (hm : Mem w0 w (cat [hF])) (he : spec_NewRing a0 a1 = some r) :
    Calls Try.prog 76 #[(.int .i64 a0), (.int .i64 a1)] w (fun e w' => ∃ (v'0 : Value) (h'0 : Hp) (v'1 : Value) (h'1 : Hp), e = .returned (.tuple #[(.agg #[(.int .i64 r.1.Size), (.bool r.1.Up), v'0, v'1, (.int .i64 r.1.Lost), (.int .i64 r.1.Pending), (.int .i64 r.1.Every), (.int .i64 r.1.Signals)]), (.int .i64 r.2)]) ∧ OwF 3 (FK.int .i64) v'0 r.1.Posted h'0 ∧ OwF 3 (FK.int .i64) v'1 r.1.Done h'1 ∧ Mem w0 w' (cat [h'0, h'1, hF])) := by
 refine calls_fr (n := 18) Try.func76 rfl rfl rfl ?_
 unfold spec_NewRing at he
 refine wp_seq ?_
 refine wp_region_lit ?_
 refine s_exv (won rfl) rfl rfl (e_alloc (vs := [(.int .i64 0), (.bool false), (.slice none 0 0), (.slice none 0 0), (.int .i64 0), (.int .i64 0), (.int .i64 0), (.int .i64 0)]) rfl zt_65 rfl hm) ?_
 rintro g35 w36 hm37
 refine s_val (v := (.int .i64 0)) (won rfl) rfl rfl (x_assign rfl rfl) ?_
 refine wpList_nil ?_
 refine nx ?_
 refine wp_seq ?_
 refine wp_seq ?_
 obtain ⟨r50, hr50, he⟩ := bindE he
 obtain ⟨r53, hr53, he⟩ := bindE he
 refine wp_region_lit ?_
 refine s_val (v := (.int .i64 a0)) (won rfl) rfl rfl (x_move rfl (ev (t := 0) rfl rfl)) ?_
 refine s_call (won rfl) rfl rfl (x_call rfl rfl cl_87 (map_lit (map_cons (ev (t := 6) rfl rfl) (map_cons rfl (map_cons rfl map_nil))))) (spec_l01In_ok (hR := (cat [])) (hF := cat [sg g35 65 (0, 0) [] [(.int .i64 0), (.bool false), (.slice none 0 0), (.slice none 0 0), (.int .i64 0), (.int .i64 0), (.int .i64 0), (.int .i64 0)] [], hF]) a0 1 16  (Mem.one hm37) hr50) ?_
 rintro e w51 ⟨rfl, hm52⟩
 refine ⟨_, rfl, ?_⟩
 replace hm52 : Mem w0 w51 (cat [sg g35 65 (0, 0) [] [(.int .i64 0), (.bool false), (.slice none 0 0), (.slice none 0 0), (.int .i64 0), (.int .i64 0), (.int .i64 0), (.int .i64 0)] [], hF]) := Mem.un hm52
 refine s_val (v := (.bool (!r50))) (won rfl) rfl rfl (x_not rfl (ev (t := 7) rfl rfl)) ?_
 refine s_val (v := (.bool (!r50))) (won rfl) rfl rfl (x_move rfl (ev (t := 8) rfl rfl)) ?_
 refine s_cval (p := (!(!r50))) (v := (.int .i64 a1)) (won_f (j := 3) (t := 9) (q := (!r50)) rfl rfl rfl rfl rfl) rfl rfl (fun hp => (x_move rfl (ev (t := 1) rfl rfl))) ?_
 refine s_ccall (p := (!(!r50))) (v := (.bool r53)) (J := fun w' => Mem w0 w' (cat [sg g35 65 (0, 0) [] [(.int .i64 0), (.bool false), (.slice none 0 0), (.slice none 0 0), (.int .i64 0), (.int .i64 0), (.int .i64 0), (.int .i64 0)] [], hF])) (won_f (j := 3) (t := 9) (q := (!r50)) rfl rfl rfl rfl rfl) rfl rfl (fun hp => (x_call rfl rfl cl_87 (map_lit (map_cons (ev (t := 10) rfl (Eq.trans (b := cv (!(!r50)) (.int .i64 a1)) rfl (on_c hp))) (map_cons rfl (map_cons rfl map_nil)))))) (fun hp => ((spec_l01In_ok (hR := (cat [])) (hF := cat [sg g35 65 (0, 0) [] [(.int .i64 0), (.bool false), (.slice none 0 0), (.slice none 0 0), (.int .i64 0), (.int .i64 0), (.int .i64 0), (.int .i64 0)] [], hF]) a1 1 16  (Mem.one hm52) (bifT hr53 hp))).mono fun e w2 h => ⟨h.1, Mem.un h.2⟩) hm52 ?_
 intro w54 hm55
 refine s_cval (p := (!(!r50))) (v := (.bool (!r53))) (won_f (j := 3) (t := 9) (q := (!r50)) rfl rfl rfl rfl rfl) rfl rfl (fun hp => (x_not rfl (ev (t := 11) rfl (Eq.trans (b := cv (!(!r50)) (.bool r53)) rfl (on_c hp))))) ?_
 refine s_val (v := (.bool ((!r50) || (!r53)))) (won rfl) rfl rfl (x_pick_or rfl (ev (t := 9) rfl rfl) rfl (fun hq => ev rfl (Eq.trans (b := cv (!(!r50)) (.bool (!r53))) rfl (on_c (not_i hq))))) ?_
 refine wpList_nil ?_
 refine nx ?_
 rcases Bool.eq_false_or_eq_true (((!r50) || (!r53))) with hb56 | hb56
 ·
  replace he := bifT he hb56
  refine c_true rfl (p := ((!r50) || (!r53))) rfl rfl hb56 ?_
  refine wp_seq ?_
  refine wp_region_lit ?_
  refine s_val (v := (.agg #[(.int .i64 0), (.bool false), (.slice none 0 0), (.slice none 0 0), (.int .i64 0), (.int .i64 0), (.int .i64 0), (.int .i64 0)])) (won rfl) rfl rfl (x_build (cells := [(.int .i64 0), (.bool false), (.slice none 0 0), (.slice none 0 0), (.int .i64 0), (.int .i64 0), (.int .i64 0), (.int .i64 0)]) (zc := [.int .i64 0, .bool false, .slice none 0 0, .slice none 0 0, .int .i64 0, .int .i64 0, .int .i64 0, .int .i64 0]) (sizes := [(0, 1), (1, 1), (2, 1), (3, 1), (4, 1), (5, 1), (6, 1), (7, 1)]) (ps := []) rfl zt_65 rfl uf_65 ufz_65 (pmap_lit pmap_nil) fill_nil) ?_
  refine s_exs (won rfl) rfl (e_store (vs := [(.int .i64 0), (.bool false), (.slice none 0 0), (.slice none 0 0), (.int .i64 0), (.int .i64 0), (.int .i64 0), (.int .i64 0)]) (o' := 0) (j := 0) rfl sz_65 (ev (t := 4) rfl rfl) (ev (t := 14) rfl rfl) rfl rfl hm55 (k := 0) rfl rfl rfl) ?_
  intro w59 hm60
  replace hm60 : Mem w0 w59 (cat [sg g35 65 (0, 0) [] [(.int .i64 0), (.bool false), (.slice none 0 0), (.slice none 0 0), (.int .i64 0), (.int .i64 0), (.int .i64 0), (.int .i64 0)] [], hF]) := hm60
  refine s_val (v := (.int .i64 4)) (won rfl) rfl rfl (x_assign rfl rfl) ?_
  refine wpList_nil ?_
  refine nx ?_
  refine wp_ret ?_
  refine xr ?_
  obtain rfl := Option.some.inj he
  refine r_ret (v := (.tuple #[(.agg #[(.int .i64 0), (.bool false), (.slice none 0 0), (.slice none 0 0), (.int .i64 0), (.int .i64 0), (.int .i64 0), (.int .i64 0)]), (.int .i64 4)])) (rv_list rfl rfl (RVs.cell (cs := [(.int .i64 0), (.bool false), (.slice none 0 0), (.slice none 0 0), (.int .i64 0), (.int .i64 0), (.int .i64 0), (.int .i64 0)]) rfl rfl tyN_65 (seg_cells (o' := 0) (j := 0) hm60 (k := 0) rfl rfl rfl) (RVs.tmp (v := (.int .i64 4)) rfl rfl RVs.nil))) rfl ?_
  exact ⟨(.slice none 0 0), [], (.slice none 0 0), [], rfl, (OwF.nil 3 (FK.int .i64)), (OwF.nil 3 (FK.int .i64)), Mem.pick [1000, 1001, 1] rfl hm60⟩
 ·
  replace he := bifF he hb56
  refine c_false rfl (p := ((!r50) || (!r53))) rfl rfl hb56 ?_
  refine wp_skip ?_
  refine nx ?_
  refine wp_seq ?_
  refine wp_region_lit ?_
  refine s_val (v := (.int .i64 a0)) (won rfl) rfl rfl (x_move rfl (ev (t := 0) rfl rfl)) ?_
  refine s_val (v := (.int .i64 a1)) (won rfl) rfl rfl (x_move rfl (ev (t := 1) rfl rfl)) ?_
  refine s_val (v := (.agg #[(.int .i64 a0), (.bool true), (.slice none 0 0), (.slice none 0 0), (.int .i64 0), (.int .i64 0), (.int .i64 a1), (.int .i64 0)])) (won rfl) rfl rfl (x_build (cells := [(.int .i64 a0), (.bool true), (.slice none 0 0), (.slice none 0 0), (.int .i64 0), (.int .i64 0), (.int .i64 a1), (.int .i64 0)]) (zc := [.int .i64 0, .bool false, .slice none 0 0, .slice none 0 0, .int .i64 0, .int .i64 0, .int .i64 0, .int .i64 0]) (sizes := [(0, 1), (1, 1), (2, 1), (3, 1), (4, 1), (5, 1), (6, 1), (7, 1)]) (ps := [(0, (.int .i64 a0)), (6, (.int .i64 a1)), (1, (.bool true))]) rfl zt_65 rfl uf_65 ufz_65 (pmap_lit (pmap_cons (ev (t := 15) rfl rfl) (pmap_cons (ev (t := 16) rfl rfl) (pmap_cons rfl pmap_nil)))) (fill_cons (cs := [(.int .i64 a0)]) rfl rfl rfl (fill_cons (cs := [(.int .i64 a1)]) rfl rfl rfl (fill_cons (cs := [(.bool true)]) rfl rfl rfl fill_nil)))) ?_
  refine s_exs (won rfl) rfl (e_store (vs := [(.int .i64 a0), (.bool true), (.slice none 0 0), (.slice none 0 0), (.int .i64 0), (.int .i64 0), (.int .i64 a1), (.int .i64 0)]) (o' := 0) (j := 0) rfl sz_65 (ev (t := 4) rfl rfl) (ev (t := 17) rfl rfl) rfl rfl hm55 (k := 0) rfl rfl rfl) ?_
  intro w63 hm64
  replace hm64 : Mem w0 w63 (cat [sg g35 65 (0, 0) [] [(.int .i64 a0), (.bool true), (.slice none 0 0), (.slice none 0 0), (.int .i64 0), (.int .i64 0), (.int .i64 a1), (.int .i64 0)] [], hF]) := hm64
  refine s_val (v := (.int .i64 0)) (won rfl) rfl rfl (x_assign rfl rfl) ?_
  refine wpList_nil ?_
  refine nx ?_
  refine wp_ret ?_
  obtain rfl := Option.some.inj he
  refine r_ret (v := (.tuple #[(.agg #[(.int .i64 a0), (.bool true), (.slice none 0 0), (.slice none 0 0), (.int .i64 0), (.int .i64 0), (.int .i64 a1), (.int .i64 0)]), (.int .i64 0)])) (rv_list rfl rfl (RVs.cell (cs := [(.int .i64 a0), (.bool true), (.slice none 0 0), (.slice none 0 0), (.int .i64 0), (.int .i64 0), (.int .i64 a1), (.int .i64 0)]) rfl rfl tyN_65 (seg_cells (o' := 0) (j := 0) hm64 (k := 0) rfl rfl rfl) (RVs.tmp (v := (.int .i64 0)) rfl rfl RVs.nil))) rfl ?_
  exact ⟨(.slice none 0 0), [], (.slice none 0 0), [], rfl, (OwF.nil 3 (FK.int .i64)), (OwF.nil 3 (FK.int .i64)), Mem.pick [1000, 1001, 1] rfl hm64⟩
def spec_l13Own (a0 : impl_Ring) : Option (impl_Ring) := gd ((([] : List Int).length + a0.Posted.length) * 8 ≤ 140737488355328) (gd ((([] : List Int).length + a0.Done.length) * 8 ≤ 140737488355328) ((some (impl_Ring.mk a0.Size a0.Up (([] : List Int) ++ a0.Posted) (([] : List Int) ++ a0.Done) a0.Lost a0.Pending a0.Every a0.Signals))))
set_option maxHeartbeats 400000 in
set_option maxRecDepth 100000 in
theorem spec_l13Own_ok {w0 w : World} {hR hF : Hp} {v0x2 : Value} {v0x3 : Value} (a0 : impl_Ring) {r : (impl_Ring)} (H0x2 : RdF w0 (FK.int .i64) v0x2 a0.Posted hR) (H0x3 : RdF w0 (FK.int .i64) v0x3 a0.Done hR) (hs : Sub hR hF) (hm : Mem w0 w (cat [hF])) (he : spec_l13Own a0 = some r) :
    Calls Try.prog 78 #[(.agg #[(.int .i64 a0.Size), (.bool a0.Up), v0x2, v0x3, (.int .i64 a0.Lost), (.int .i64 a0.Pending), (.int .i64 a0.Every), (.int .i64 a0.Signals)])] w (fun e w' => ∃ (v'0 : Value) (h'0 : Hp) (v'1 : Value) (h'1 : Hp), e = .returned (.agg #[(.int .i64 r.Size), (.bool r.Up), v'0, v'1, (.int .i64 r.Lost), (.int .i64 r.Pending), (.int .i64 r.Every), (.int .i64 r.Signals)]) ∧ OwF 3 (FK.int .i64) v'0 r.Posted h'0 ∧ OwF 3 (FK.int .i64) v'1 r.Done h'1 ∧ Mem w0 w' (cat [h'0, h'1, hF])) := by
 refine calls_fr (n := 14) Try.func78 rfl rfl rfl ?_
 unfold spec_l13Own at he
 refine wp_seq ?_
 refine wp_region_lit ?_
 refine s_exv (won rfl) rfl rfl (e_box (vs := [(.int .i64 a0.Size), (.bool a0.Up), v0x2, v0x3, (.int .i64 a0.Lost), (.int .i64 a0.Pending), (.int .i64 a0.Every), (.int .i64 a0.Signals)]) rfl (ev (t := 0) rfl rfl) rfl hm) ?_
 rintro g40 w41 hm42
 refine s_exv (won rfl) rfl rfl (e_alloc (vs := [(.int .i64 0), (.bool false), (.slice none 0 0), (.slice none 0 0), (.int .i64 0), (.int .i64 0), (.int .i64 0), (.int .i64 0)]) rfl zt_65 rfl hm42) ?_
 rintro g46 w47 hm48
 refine wpList_nil ?_
 refine nx ?_
 refine wp_seq ?_
 obtain ⟨hg55, he⟩ := gdE he
 refine wp_region_lit ?_
 refine s_exv (won rfl) rfl rfl (e_litp (cells := []) (ps := []) rfl slt_26 (pmap_lit pmap_nil) (fun w1 => run_bslice0 slt_26) hm48) ?_
 rintro g52 w50 hm51
 have H53 : OwF 3 (FK.int .i64) (.slice (some ⟨g52, 0, none⟩) 0 0) ([] : List Int) (sg g52 3 (0, 0) [] (encs (FK.int .i64) ([] : List Int)) []) := OwF.lit g52 ([] : List Int) 0 rfl (by decide)
 replace hm51 : Mem w0 w50 (cat [(sg g52 3 (0, 0) [] (encs (FK.int .i64) ([] : List Int)) []), sg g46 65 (0, 0) [] [(.int .i64 0), (.bool false), (.slice none 0 0), (.slice none 0 0), (.int .i64 0), (.int .i64 0), (.int .i64 0), (.int .i64 0)] [], sg g40 65 (0, 0) [] [(.int .i64 a0.Size), (.bool a0.Up), v0x2, v0x3, (.int .i64 a0.Lost), (.int .i64 a0.Pending), (.int .i64 a0.Every), (.int .i64 a0.Signals)] [], hF]) := hm51
 refine s_val (v := (.pointer (some ⟨g40, 2, none⟩))) (won rfl) rfl rfl (x_field rfl fa_65x2 (ev (t := 1) rfl rfl)) ?_
 refine s_val (v := v0x2) (won rfl) rfl rfl (x_load rfl ty1x26 (ev (t := 4) rfl rfl) (seg_cell (o' := 0) (j := 2) hm51 (k := 2) rfl rfl rfl)) ?_
 refine s_exv (won rfl) rfl rfl (e_append (bytes := 8) rfl slt_26 rfl (ev (t := 3) rfl rfl) (ev (t := 5) rfl rfl) H53 (k := 0) rfl H0x2 (Sub.trans hs (Sub.at_ (k := 3) rfl)) hm51 hg55 (len63 hg55 rfl)) ?_
 rintro p57 w59 ⟨H58, hm60⟩
 replace hm60 : Mem w0 w59 (cat [p57.2, sg g46 65 (0, 0) [] [(.int .i64 0), (.bool false), (.slice none 0 0), (.slice none 0 0), (.int .i64 0), (.int .i64 0), (.int .i64 0), (.int .i64 0)] [], sg g40 65 (0, 0) [] [(.int .i64 a0.Size), (.bool a0.Up), v0x2, v0x3, (.int .i64 a0.Lost), (.int .i64 a0.Pending), (.int .i64 a0.Every), (.int .i64 a0.Signals)] [], hF]) := hm60
 refine s_val (v := (.pointer (some ⟨g40, 2, none⟩))) (won rfl) rfl rfl (x_field rfl fa_65x2 (ev (t := 1) rfl rfl)) ?_
 refine s_exs (won rfl) rfl (e_store (vs := [p57.1]) (o' := 0) (j := 2) rfl sz_26 (ev (t := 7) rfl rfl) (ev (t := 6) rfl rfl) (IsSl.cells (H58).sl) (one_cons (IsSl.one (H58).sl) one_nil) hm60 (k := 2) rfl rfl rfl) ?_
 intro w61 hm62
 replace hm62 : Mem w0 w61 (cat [p57.2, sg g46 65 (0, 0) [] [(.int .i64 0), (.bool false), (.slice none 0 0), (.slice none 0 0), (.int .i64 0), (.int .i64 0), (.int .i64 0), (.int .i64 0)] [], sg g40 65 (0, 0) [] [(.int .i64 a0.Size), (.bool a0.Up), p57.1, v0x3, (.int .i64 a0.Lost), (.int .i64 a0.Pending), (.int .i64 a0.Every), (.int .i64 a0.Signals)] [], hF]) := hm62
 refine wpList_nil ?_
 refine nx ?_
 refine wp_seq ?_
 obtain ⟨hg68, he⟩ := gdE he
 refine wp_region_lit ?_
 refine s_exv (won rfl) rfl rfl (e_litp (cells := []) (ps := []) rfl slt_26 (pmap_lit pmap_nil) (fun w1 => run_bslice0 slt_26) hm62) ?_
 rintro g65 w63 hm64
 have H66 : OwF 3 (FK.int .i64) (.slice (some ⟨g65, 0, none⟩) 0 0) ([] : List Int) (sg g65 3 (0, 0) [] (encs (FK.int .i64) ([] : List Int)) []) := OwF.lit g65 ([] : List Int) 0 rfl (by decide)
 replace hm64 : Mem w0 w63 (cat [(sg g65 3 (0, 0) [] (encs (FK.int .i64) ([] : List Int)) []), p57.2, sg g46 65 (0, 0) [] [(.int .i64 0), (.bool false), (.slice none 0 0), (.slice none 0 0), (.int .i64 0), (.int .i64 0), (.int .i64 0), (.int .i64 0)] [], sg g40 65 (0, 0) [] [(.int .i64 a0.Size), (.bool a0.Up), p57.1, v0x3, (.int .i64 a0.Lost), (.int .i64 a0.Pending), (.int .i64 a0.Every), (.int .i64 a0.Signals)] [], hF]) := hm64
 refine s_val (v := (.pointer (some ⟨g40, 3, none⟩))) (won rfl) rfl rfl (x_field rfl fa_65x3 (ev (t := 1) rfl rfl)) ?_
 refine s_val (v := v0x3) (won rfl) rfl rfl (x_load rfl ty1x26 (ev (t := 9) rfl rfl) (seg_cell (o' := 0) (j := 3) hm64 (k := 3) rfl rfl rfl)) ?_
 refine s_exv (won rfl) rfl rfl (e_append (bytes := 8) rfl slt_26 rfl (ev (t := 8) rfl rfl) (ev (t := 10) rfl rfl) H66 (k := 0) rfl H0x3 (Sub.trans hs (Sub.at_ (k := 4) rfl)) hm64 hg68 (len63 hg68 rfl)) ?_
 rintro p70 w72 ⟨H71, hm73⟩
 replace hm73 : Mem w0 w72 (cat [p70.2, p57.2, sg g46 65 (0, 0) [] [(.int .i64 0), (.bool false), (.slice none 0 0), (.slice none 0 0), (.int .i64 0), (.int .i64 0), (.int .i64 0), (.int .i64 0)] [], sg g40 65 (0, 0) [] [(.int .i64 a0.Size), (.bool a0.Up), p57.1, v0x3, (.int .i64 a0.Lost), (.int .i64 a0.Pending), (.int .i64 a0.Every), (.int .i64 a0.Signals)] [], hF]) := hm73
 refine s_val (v := (.pointer (some ⟨g40, 3, none⟩))) (won rfl) rfl rfl (x_field rfl fa_65x3 (ev (t := 1) rfl rfl)) ?_
 refine s_exs (won rfl) rfl (e_store (vs := [p70.1]) (o' := 0) (j := 3) rfl sz_26 (ev (t := 12) rfl rfl) (ev (t := 11) rfl rfl) (IsSl.cells (H71).sl) (one_cons (IsSl.one (H71).sl) one_nil) hm73 (k := 3) rfl rfl rfl) ?_
 intro w74 hm75
 replace hm75 : Mem w0 w74 (cat [p70.2, p57.2, sg g46 65 (0, 0) [] [(.int .i64 0), (.bool false), (.slice none 0 0), (.slice none 0 0), (.int .i64 0), (.int .i64 0), (.int .i64 0), (.int .i64 0)] [], sg g40 65 (0, 0) [] [(.int .i64 a0.Size), (.bool a0.Up), p57.1, p70.1, (.int .i64 a0.Lost), (.int .i64 a0.Pending), (.int .i64 a0.Every), (.int .i64 a0.Signals)] [], hF]) := hm75
 refine wpList_nil ?_
 refine nx ?_
 refine wp_seq ?_
 refine wp_region_lit ?_
 refine s_val (v := (.agg #[(.int .i64 a0.Size), (.bool a0.Up), p57.1, p70.1, (.int .i64 a0.Lost), (.int .i64 a0.Pending), (.int .i64 a0.Every), (.int .i64 a0.Signals)])) (won rfl) rfl rfl (x_loadN (vs := [(.int .i64 a0.Size), (.bool a0.Up), p57.1, p70.1, (.int .i64 a0.Lost), (.int .i64 a0.Pending), (.int .i64 a0.Every), (.int .i64 a0.Signals)]) rfl tyN_65 (ev (t := 1) rfl rfl) (seg_cells (o' := 0) (j := 0) hm75 (k := 3) rfl rfl rfl)) ?_
 refine s_exs (won rfl) rfl (e_store (vs := [(.int .i64 a0.Size), (.bool a0.Up), p57.1, p70.1, (.int .i64 a0.Lost), (.int .i64 a0.Pending), (.int .i64 a0.Every), (.int .i64 a0.Signals)]) (o' := 0) (j := 0) rfl sz_65 (ev (t := 2) rfl rfl) (ev (t := 13) rfl rfl) rfl (one_cons rfl (one_cons rfl (one_cons (IsSl.one (H58).sl) (one_cons (IsSl.one (H71).sl) (one_cons rfl (one_cons rfl (one_cons rfl (one_cons rfl one_nil)))))))) hm75 (k := 2) rfl rfl rfl) ?_
 intro w76 hm77
 replace hm77 : Mem w0 w76 (cat [p70.2, p57.2, sg g46 65 (0, 0) [] [(.int .i64 a0.Size), (.bool a0.Up), p57.1, p70.1, (.int .i64 a0.Lost), (.int .i64 a0.Pending), (.int .i64 a0.Every), (.int .i64 a0.Signals)] [], sg g40 65 (0, 0) [] [(.int .i64 a0.Size), (.bool a0.Up), p57.1, p70.1, (.int .i64 a0.Lost), (.int .i64 a0.Pending), (.int .i64 a0.Every), (.int .i64 a0.Signals)] [], hF]) := hm77
 refine wpList_nil ?_
 have hm78 : Mem w0 w76 (cat [p70.2, p57.2, sg g46 65 (0, 0) [] [(.int .i64 a0.Size), (.bool a0.Up), p57.1, p70.1, (.int .i64 a0.Lost), (.int .i64 a0.Pending), (.int .i64 a0.Every), (.int .i64 a0.Signals)] [], hF]) := Mem.pick [0, 1, 2, 4] rfl hm77
 refine nx ?_
 refine wp_ret ?_
 obtain rfl := Option.some.inj he
 refine r_ret (v := (.agg #[(.int .i64 a0.Size), (.bool a0.Up), p57.1, p70.1, (.int .i64 a0.Lost), (.int .i64 a0.Pending), (.int .i64 a0.Every), (.int .i64 a0.Signals)])) (rv_one rfl (RVs.cell (cs := [(.int .i64 a0.Size), (.bool a0.Up), p57.1, p70.1, (.int .i64 a0.Lost), (.int .i64 a0.Pending), (.int .i64 a0.Every), (.int .i64 a0.Signals)]) rfl rfl tyN_65 (seg_cells (o' := 0) (j := 0) hm78 (k := 2) rfl rfl rfl) RVs.nil)) rfl ?_
 exact ⟨p57.1, p57.2, p70.1, p70.2, rfl, H58, H71, Mem.pick [1, 0, 3] rfl hm78⟩
def spec_l13Has_l1 (F : Nat) (a0 : (List Int)) (a1 : Int) : Nat → Int → Option (Fl (Bool) (Unit))
  | 0, _ => none
  | k + 1, s109 => (bif (decide (s109 < (a0.length : Int))) then gd ((0 : Int) ≤ s109 ∧ s109 < (a0.length : Int)) ((bif (decide ((ix a0 s109) = a1)) then (some (Fl.out true)) else spec_l13Has_l1 F a0 a1 k (IntKind.wrap .i64 (s109 + 1)))) else (some (Fl.go ())))
def spec_l13Has (F : Nat) (a0 : (List Int)) (a1 : Int) : Option (Bool) := (spec_l13Has_l1 F a0 a1 F 0 : Option (Fl (Bool) (Unit))).bind fun l95 => l95.on fun (s94 : (Unit)) => (some false)
set_option maxHeartbeats 400000 in
set_option maxRecDepth 100000 in
theorem spec_l13Has_ok (F : Nat) {w0 w : World} {hR hF : Hp} {v0x0 : Value} (a0 : (List Int)) (a1 : Int) {r : (Bool)} (H0x0 : RdF w0 (FK.int .i64) v0x0 a0 hR) (hs : Sub hR hF) (hm : Mem w0 w (cat [hF])) (he : spec_l13Has F a0 a1 = some r) :
    Calls Try.prog 92 #[v0x0, (.int .i64 a1)] w (fun e w' => e = .returned (.bool r) ∧ Mem w0 w' (cat [hF])) := by
 refine calls_fr (n := 18) Try.func92 rfl rfl rfl ?_
 unfold spec_l13Has at he
 refine wp_seq ?_
 refine wp_region_lit ?_
 refine s_val (v := (.bool false)) (won rfl) rfl rfl (x_assign rfl rfl) ?_
 refine wpList_nil ?_
 refine nx ?_
 obtain ⟨l95, hT97, hk96⟩ := bindE he
 replace he := hT97
 refine wp_seqJ (fun a w => ∃ (s94 : (Unit)) (f : Nat → Value), l95 = Fl.go s94 ∧ a = fr 18 f ∧ Mem w0 w (cat [hF])) ?_ ?_
 ·
  refine wp_seq ?_
  refine wp_region_lit ?_
  refine s_val (v := (.int .i64 0)) (won rfl) rfl rfl (x_assign rfl rfl) ?_
  refine wpList_nil ?_
  refine nx ?_
  refine wp_block ?_
  refine wp_fuel (I := fun k => fun a w => ∃ (s109 : Int) (f : Nat → Value), spec_l13Has_l1 F a0 a1 k s109 = some l95 ∧ a = fr 18 f ∧ f 0 = v0x0 ∧ f 1 = (.int .i64 a1) ∧ f 5 = (.int .i64 s109) ∧ Mem w0 w (cat [hF])) F _ _ ⟨0, _, he, rfl, rfl, rfl, rfl, Mem.pick [0] rfl hm⟩ ?_ ?_
  ·
   rintro a w ⟨s109, f, he, rfl, q107, q108, q110, hm118⟩
   rw [spec_l13Has_l1] at he; exact none_no he
  ·
   rintro k a w ⟨s109, f, he, rfl, q107, q108, q110, hm120⟩
   rw [spec_l13Has_l1] at he
   refine wp_seq ?_
   refine wp_seq ?_
   refine wp_region_lit ?_
   refine s_val (v := (.int .i64 s109)) (won rfl) rfl rfl (x_move rfl (ev (t := 5) (v := (.int .i64 s109)) rfl q110)) ?_
   refine s_val (v := v0x0) (won rfl) rfl rfl (x_move rfl (ev (t := 0) (v := v0x0) rfl q107)) ?_
   refine s_val (v := (.int .i64 (a0.length : Int))) (won rfl) rfl rfl (x_len rfl slt_26 (ev (t := 7) rfl rfl) (H0x0).sl) ?_
   refine s_val (v := (.bool (decide (s109 < (a0.length : Int))))) (won rfl) rfl rfl (x_lss rfl (ev (t := 6) rfl rfl) (ev (t := 8) rfl rfl)) ?_
   refine wpList_nil ?_
   refine nx ?_
   rcases Bool.eq_false_or_eq_true ((decide (s109 < (a0.length : Int)))) with hb122 | hb122
   ·
    replace he := bifT he hb122
    refine c_true rfl (p := (decide (s109 < (a0.length : Int)))) rfl rfl hb122 ?_
    refine wp_skip ?_
    refine nx ?_
    refine wp_seq ?_
    refine wp_block ?_
    refine wp_seq ?_
    obtain ⟨hg125, he⟩ := gdE he
    refine wp_region_lit ?_
    refine s_val (v := v0x0) (won rfl) rfl rfl (x_move rfl (ev (t := 0) (v := v0x0) rfl q107)) ?_
    refine s_val (v := (.int .i64 s109)) (won rfl) rfl rfl (x_move rfl (ev (t := 5) (v := (.int .i64 s109)) rfl q110)) ?_
    refine s_val (v := (.pointer (some ((slA v0x0).add (Int.toNat s109 * 1))))) (won rfl) rfl rfl (x_index (d := (FK.int .i64)) rfl slt_26 (ev (t := 12) rfl rfl) (ev (t := 13) rfl rfl) H0x0 hg125.1 hg125.2) ?_
    refine s_val (v := (.int .i64 (ix a0 s109))) (won rfl) rfl rfl (x_load rfl ty1x3 (ev (t := 14) rfl rfl) (RdF.cell0 H0x0 hm120 (Sub.trans hs (Sub.at_ (k := 0) rfl)) hg125.1 hg125.2 rfl)) ?_
    refine s_val (v := (.int .i64 a1)) (won rfl) rfl rfl (x_move rfl (ev (t := 1) (v := (.int .i64 a1)) rfl q108)) ?_
    refine s_val (v := (.bool (decide ((ix a0 s109) = a1)))) (won rfl) rfl rfl (x_eql rfl (ev (t := 15) rfl rfl) (ev (t := 16) rfl rfl)) ?_
    refine wpList_nil ?_
    refine nx ?_
    rcases Bool.eq_false_or_eq_true ((decide ((ix a0 s109) = a1))) with hb126 | hb126
    ·
     replace he := bifT he hb126
     refine c_true rfl (p := (decide ((ix a0 s109) = a1))) rfl rfl hb126 ?_
     refine wp_seq ?_
     refine wp_region_lit ?_
     refine s_val (v := (.bool true)) (won rfl) rfl rfl (x_assign rfl rfl) ?_
     refine wpList_nil ?_
     refine nx ?_
     refine wp_ret ?_
     refine rb ?_
     refine xr ?_
     refine xr ?_
     refine rb ?_
     refine xr ?_
     obtain rfl := Option.some.inj he
     replace he := outE hk96
     obtain rfl := Option.some.inj he
     refine r_ret (v := (.bool true)) (rv_one rfl (RVs.tmp (v := (.bool true)) rfl rfl RVs.nil)) rfl ?_
     exact ⟨rfl, Mem.pick [0] rfl hm120⟩
    ·
     replace he := bifF he hb126
     refine c_false rfl (p := (decide ((ix a0 s109) = a1))) rfl rfl hb126 ?_
     refine wp_skip ?_
     refine nb ?_
     refine nx ?_
     refine wp_region_lit ?_
     refine s_val (v := (.int .i64 s109)) (won rfl) rfl rfl (x_move rfl (ev (t := 5) (v := (.int .i64 s109)) rfl q110)) ?_
     refine s_val (v := (.int .i64 (IntKind.wrap .i64 (s109 + 1)))) (won rfl) rfl rfl (x_add rfl (ev (t := 10) rfl rfl) rfl) ?_
     refine s_val (v := (.int .i64 (IntKind.wrap .i64 (s109 + 1)))) (won rfl) rfl rfl (x_assign rfl (ev (t := 11) rfl rfl)) ?_
     refine wpList_nil ?_
     refine nx ?_
     exact ⟨(IntKind.wrap .i64 (s109 + 1)), _, he, rfl, q107, q108, rfl, Mem.pick [0] rfl hm120⟩
   ·
    replace he := bifF he hb122
    refine c_false rfl (p := (decide (s109 < (a0.length : Int)))) rfl rfl hb122 ?_
    refine wp_exit ?_
    refine xs ?_
    refine xs ?_
    refine xb ?_
    refine nx ?_
    obtain rfl := Option.some.inj he
    exact ⟨(), _, rfl, rfl, Mem.pick [0] rfl hm120⟩
 ·
  rintro a w ⟨s94, f, rfl, rfl, hm128⟩
  replace he := goE hk96
  refine wp_seq ?_
  refine wp_region_lit ?_
  refine s_val (v := (.bool false)) (won rfl) rfl rfl (x_assign rfl rfl) ?_
  refine wpList_nil ?_
  refine nx ?_
  refine wp_ret ?_
  obtain rfl := Option.some.inj he
  refine r_ret (v := (.bool false)) (rv_one rfl (RVs.tmp (v := (.bool false)) rfl rfl RVs.nil)) rfl ?_
  exact ⟨rfl, Mem.pick [0] rfl hm128⟩
end Go.Proofs.Ytpkdolmbhfmjcaa.FnRing
