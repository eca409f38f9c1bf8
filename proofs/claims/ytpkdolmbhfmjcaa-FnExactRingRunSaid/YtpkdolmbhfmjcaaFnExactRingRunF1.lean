/- What functions of the program compute, and their walks: printed. -/
import Derived.Test.YtpkdolmbhfmjcaaFnExactRingRunT
import Derived.Test.YtpkdolmbhfmjcaaFnExactRingRunF0
set_option linter.unusedVariables false
set_option linter.unusedSimpArgs false
set_option linter.unusedSectionVars false
namespace Go.Proofs.Ytpkdolmbhfmjcaa.FnExactRingRun
open Go.RowKit Go.Proofs.Gw
attribute [local irreducible] wpList DG wpQuiet wl
def spec_RingRun_l1 (F : Nat) (a2 : (List impl_RingAct)) : Nat → Int → Bool → (List Int) → (List Int) → Int → Int → Int → Int → (List impl_RingReply) → Int → Option (Int × Bool × (List Int) × (List Int) × Int × Int × Int × Int × (List impl_RingReply))
  | 0, _, _, _, _, _, _, _, _, _, _ => none
  | k + 1, s56369, s56370, s56371, s56375, s56379, s56380, s56381, s56382, s56384, s56389 => (bif (decide (s56389 < (a2.length : Int))) then gd ((0 : Int) ≤ s56389 ∧ s56389 < (a2.length : Int)) ((spec_l13Step F (impl_Ring.mk s56369 s56370 s56371 s56375 s56379 s56380 s56381 s56382) (impl_RingAct.mk (ix a2 s56389).Kind (ix a2 s56389).N)).bind fun r63501 => gd ((s56384.length + ([r63501.2] : List impl_RingReply).length) * 32 ≤ 140737488355328) (spec_RingRun_l1 F a2 k r63501.1.Size r63501.1.Up r63501.1.Posted r63501.1.Done r63501.1.Lost r63501.1.Pending r63501.1.Every r63501.1.Signals (s56384 ++ ([r63501.2] : List impl_RingReply)) (IntKind.wrap .i64 (s56389 + 1)))) else (some (s56369, s56370, s56371, s56375, s56379, s56380, s56381, s56382, s56384)))
def spec_RingRun (F : Nat) (a0 : Int) (a1 : Int) (a2 : (List impl_RingAct)) : Option (impl_Ring × (List impl_RingReply) × Int) := (bif (decide ((4096 : Int) < (a2.length : Int))) then (some ((impl_Ring.mk 0 false ([] : List Int) ([] : List Int) 0 0 0 0), ([] : List impl_RingReply), 2)) else (spec_NewRing a0 a1).bind fun r32412 => (bif (!decide (r32412.2 = 0)) then (some ((impl_Ring.mk 0 false ([] : List Int) ([] : List Int) 0 0 0 0), ([] : List impl_RingReply), r32412.2)) else (bif (decide ((300 : Int) < (a2.length : Int))) then (some ((impl_Ring.mk 0 false ([] : List Int) ([] : List Int) 0 0 0 0), ([] : List impl_RingReply), 6)) else (spec_RingRun_l1 F a2 F r32412.1.Size r32412.1.Up r32412.1.Posted r32412.1.Done r32412.1.Lost r32412.1.Pending r32412.1.Every r32412.1.Signals ([] : List impl_RingReply) 0 : Option (Int × Bool × (List Int) × (List Int) × Int × Int × Int × Int × (List impl_RingReply))).bind fun (s48388 : (Int × Bool × (List Int) × (List Int) × Int × Int × Int × Int × (List impl_RingReply))) => (spec_l13Own (impl_Ring.mk s48388.1 s48388.2.1 s48388.2.2.1 s48388.2.2.2.1 s48388.2.2.2.2.1 s48388.2.2.2.2.2.1 s48388.2.2.2.2.2.2.1 s48388.2.2.2.2.2.2.2.1)).bind fun r64369 => (some (r64369, s48388.2.2.2.2.2.2.2.2, 0)))))
set_option maxHeartbeats 400000 in
set_option maxRecDepth 100000 in
theorem spec_RingRun_ok (F : Nat) {w0 w : World} {hR hF : Hp} {v2x0 : Value} (a0 : Int) (a1 : Int) (a2 : (List impl_RingAct)) {r : (impl_Ring × (List impl_RingReply) × Int)} (H2x0 : RdF w0 impl_RingAct.K v2x0 a2 hR) (hs : Sub hR hF) (hm : Mem w0 w (cat [hF])) (he : spec_RingRun F a0 a1 a2 = some r) :
    Calls Try.prog 35 #[(.int .i64 a0), (.int .i64 a1), v2x0] w (fun e w' => ∃ (v'0 : Value) (h'0 : Hp) (v'1 : Value) (h'1 : Hp) (v'2 : Value) (h'2 : Hp), e = .returned (.tuple #[(.agg #[(.int .i64 r.1.Size), (.bool r.1.Up), v'0, v'1, (.int .i64 r.1.Lost), (.int .i64 r.1.Pending), (.int .i64 r.1.Every), (.int .i64 r.1.Signals)]), v'2, (.int .i64 r.2.2)]) ∧ OwF 3 (FK.int .i64) v'0 r.1.Posted h'0 ∧ OwF 3 (FK.int .i64) v'1 r.1.Done h'1 ∧ OwD 71 impl_RingReply_D v'2 r.2.1 h'2 ∧ Mem w0 w' (cat [h'0, h'1, h'2, hF])) := by
 refine calls_fr (n := 60) Try.func35 rfl rfl rfl ?_
 unfold spec_RingRun at he
 refine wp_seq ?_
 refine wp_region_lit ?_
 refine s_exv (won rfl) rfl rfl (e_alloc (vs := [(.int .i64 0), (.bool false), (.slice none 0 0), (.slice none 0 0), (.int .i64 0), (.int .i64 0), (.int .i64 0), (.int .i64 0)]) rfl zt_65 rfl hm) ?_
 rintro g32385 w32386 hm32387
 refine s_val (v := (.slice none 0 0)) (won rfl) rfl rfl (x_assign rfl rfl) ?_
 refine s_val (v := (.int .i64 0)) (won rfl) rfl rfl (x_assign rfl rfl) ?_
 refine wpList_nil ?_
 refine nx ?_
 refine wp_seq ?_
 refine wp_seq ?_
 refine wp_region_lit ?_
 refine s_val (v := v2x0) (won rfl) rfl rfl (x_move rfl (ev (t := 2) rfl rfl)) ?_
 refine s_val (v := (.int .i64 (a2.length : Int))) (won rfl) rfl rfl (x_len rfl slt_62 (ev (t := 15) rfl rfl) (H2x0).sl) ?_
 refine s_val (v := (.bool (decide ((4096 : Int) < (a2.length : Int))))) (won rfl) rfl rfl (x_gtr rfl (ev (t := 16) rfl rfl) rfl) ?_
 refine wpList_nil ?_
 refine nx ?_
 rcases Bool.eq_false_or_eq_true ((decide ((4096 : Int) < (a2.length : Int)))) with hb32401 | hb32401
 ·
  replace he := bifT he hb32401
  refine c_true rfl (p := (decide ((4096 : Int) < (a2.length : Int)))) rfl rfl hb32401 ?_
  refine wp_seq ?_
  refine wp_region_lit ?_
  refine s_val (v := (.agg #[(.int .i64 0), (.bool false), (.slice none 0 0), (.slice none 0 0), (.int .i64 0), (.int .i64 0), (.int .i64 0), (.int .i64 0)])) (won rfl) rfl rfl (x_build (cells := [(.int .i64 0), (.bool false), (.slice none 0 0), (.slice none 0 0), (.int .i64 0), (.int .i64 0), (.int .i64 0), (.int .i64 0)]) (zc := [.int .i64 0, .bool false, .slice none 0 0, .slice none 0 0, .int .i64 0, .int .i64 0, .int .i64 0, .int .i64 0]) (sizes := [(0, 1), (1, 1), (2, 1), (3, 1), (4, 1), (5, 1), (6, 1), (7, 1)]) (ps := []) rfl zt_65 rfl uf_65 ufz_65 (pmap_lit pmap_nil) fill_nil) ?_
  refine s_exv (won rfl) rfl rfl (e_litp (cells := []) (ps := []) rfl slt_66 (pmap_lit pmap_nil) (fun w1 => run_bslice0 slt_66) hm32387) ?_
  rintro g32406 w32404 hm32405
  have H32407 : OwD 71 impl_RingReply_D (.slice (some ⟨g32406, 0, none⟩) 0 0) ([] : List impl_RingReply) (cat [sg g32406 71 (0, 0) [] [] [], []]) := OwD.lit (xs := ([] : List impl_RingReply)) (cells := []) g32406 reps_n 0 rfl (by decide)
  have hm32409 : Mem w0 w32404 (cat [(sg g32406 71 (0, 0) [] [] []), sg g32385 65 (0, 0) [] [(.int .i64 0), (.bool false), (.slice none 0 0), (.slice none 0 0), (.int .i64 0), (.int .i64 0), (.int .i64 0), (.int .i64 0)] [], hF]) := Mem.pick [0, 1, 2] rfl hm32405
  replace hm32405 : Mem w0 w32404 (cat [(cat [sg g32406 71 (0, 0) [] [] [], []]), sg g32385 65 (0, 0) [] [(.int .i64 0), (.bool false), (.slice none 0 0), (.slice none 0 0), (.int .i64 0), (.int .i64 0), (.int .i64 0), (.int .i64 0)] [], hF]) := Mem.eqv (by simp only [cat, List.append_assoc, List.append_nil, List.nil_append]) hm32409
  refine s_exs (won rfl) rfl (e_store (vs := [(.int .i64 0), (.bool false), (.slice none 0 0), (.slice none 0 0), (.int .i64 0), (.int .i64 0), (.int .i64 0), (.int .i64 0)]) (o' := 0) (j := 0) rfl sz_65 (ev (t := 6) rfl rfl) (ev (t := 18) rfl rfl) rfl rfl hm32405 (k := 1) rfl rfl rfl) ?_
  intro w32410 hm32411
  replace hm32411 : Mem w0 w32410 (cat [(cat [sg g32406 71 (0, 0) [] [] [], []]), sg g32385 65 (0, 0) [] [(.int .i64 0), (.bool false), (.slice none 0 0), (.slice none 0 0), (.int .i64 0), (.int .i64 0), (.int .i64 0), (.int .i64 0)] [], hF]) := hm32411
  refine s_val (v := (.slice (some ⟨g32406, 0, none⟩) 0 0)) (won rfl) rfl rfl (x_assign rfl (ev (t := 19) rfl rfl)) ?_
  refine s_val (v := (.int .i64 2)) (won rfl) rfl rfl (x_assign rfl rfl) ?_
  refine wpList_nil ?_
  refine nx ?_
  refine wp_ret ?_
  refine xr ?_
  obtain rfl := Option.some.inj he
  refine r_ret (v := (.tuple #[(.agg #[(.int .i64 0), (.bool false), (.slice none 0 0), (.slice none 0 0), (.int .i64 0), (.int .i64 0), (.int .i64 0), (.int .i64 0)]), (.slice (some ⟨g32406, 0, none⟩) 0 0), (.int .i64 2)])) (rv_list rfl rfl (RVs.cell (cs := [(.int .i64 0), (.bool false), (.slice none 0 0), (.slice none 0 0), (.int .i64 0), (.int .i64 0), (.int .i64 0), (.int .i64 0)]) rfl rfl tyN_65 (seg_cells (o' := 0) (j := 0) hm32411 (k := 1) rfl rfl rfl) (RVs.tmp (v := (.slice (some ⟨g32406, 0, none⟩) 0 0)) rfl rfl (RVs.tmp (v := (.int .i64 2)) rfl rfl RVs.nil)))) rfl ?_
  exact ⟨(.slice none 0 0), [], (.slice none 0 0), [], (.slice (some ⟨g32406, 0, none⟩) 0 0), (cat [sg g32406 71 (0, 0) [] [] [], []]), rfl, (OwF.nil 3 (FK.int .i64)), (OwF.nil 3 (FK.int .i64)), H32407, Mem.pick [1000, 1001, 0, 2] rfl hm32411⟩
 ·
  replace he := bifF he hb32401
  refine c_false rfl (p := (decide ((4096 : Int) < (a2.length : Int)))) rfl rfl hb32401 ?_
  refine wp_skip ?_
  refine nx ?_
  refine wp_seq ?_
  obtain ⟨r32412, hr32412, he⟩ := bindE he
  refine wp_region_lit ?_
  refine s_val (v := (.int .i64 a0)) (won rfl) rfl rfl (x_move rfl (ev (t := 0) rfl rfl)) ?_
  refine s_val (v := (.int .i64 a1)) (won rfl) rfl rfl (x_move rfl (ev (t := 1) rfl rfl)) ?_
  refine s_call (won rfl) rfl rfl (x_call rfl rfl cl_76 (map_lit (map_cons (ev (t := 21) rfl rfl) (map_cons (ev (t := 22) rfl rfl) map_nil)))) (spec_NewRing_ok (hR := (cat [])) (hF := cat [sg g32385 65 (0, 0) [] [(.int .i64 0), (.bool false), (.slice none 0 0), (.slice none 0 0), (.int .i64 0), (.int .i64 0), (.int .i64 0), (.int .i64 0)] [], hF]) a0 a1  (Mem.one hm32387) hr32412) ?_
  rintro e w32421 ⟨v32414, h32416, v32418, h32420, rfl, H32415, H32419, hm32422⟩
  refine ⟨_, rfl, ?_⟩
  replace hm32422 : Mem w0 w32421 (cat [h32416, h32420, sg g32385 65 (0, 0) [] [(.int .i64 0), (.bool false), (.slice none 0 0), (.slice none 0 0), (.int .i64 0), (.int .i64 0), (.int .i64 0), (.int .i64 0)] [], hF]) := Mem.ung [h32416, h32420] [sg g32385 65 (0, 0) [] [(.int .i64 0), (.bool false), (.slice none 0 0), (.slice none 0 0), (.int .i64 0), (.int .i64 0), (.int .i64 0), (.int .i64 0)] [], hF] hm32422
  refine s_val (v := (.tuple #[(.agg #[(.int .i64 r32412.1.Size), (.bool r32412.1.Up), v32414, v32418, (.int .i64 r32412.1.Lost), (.int .i64 r32412.1.Pending), (.int .i64 r32412.1.Every), (.int .i64 r32412.1.Signals)]), (.int .i64 r32412.2)])) (won rfl) rfl rfl (x_move rfl (ev (t := 23) rfl rfl)) ?_
  refine s_val (v := (.agg #[(.int .i64 r32412.1.Size), (.bool r32412.1.Up), v32414, v32418, (.int .i64 r32412.1.Lost), (.int .i64 r32412.1.Pending), (.int .i64 r32412.1.Every), (.int .i64 r32412.1.Signals)])) (won rfl) rfl rfl (x_extract rfl (ev (t := 20) rfl rfl) rfl) ?_
  refine s_val (v := (.int .i64 r32412.2)) (won rfl) rfl rfl (x_extract rfl (ev (t := 20) rfl rfl) rfl) ?_
  refine s_exv (won rfl) rfl rfl (e_alloc (vs := [(.int .i64 0), (.bool false), (.slice none 0 0), (.slice none 0 0), (.int .i64 0), (.int .i64 0), (.int .i64 0), (.int .i64 0)]) rfl zt_65 rfl hm32422) ?_
  rintro g32425 w32426 hm32427
  refine s_exs (won rfl) rfl (e_store (vs := [(.int .i64 r32412.1.Size), (.bool r32412.1.Up), v32414, v32418, (.int .i64 r32412.1.Lost), (.int .i64 r32412.1.Pending), (.int .i64 r32412.1.Every), (.int .i64 r32412.1.Signals)]) (o' := 0) (j := 0) rfl sz_65 (ev (t := 9) rfl rfl) (ev (t := 24) rfl rfl) rfl (one_cons rfl (one_cons rfl (one_cons (IsSl.one (H32415).sl) (one_cons (IsSl.one (H32419).sl) (one_cons rfl (one_cons rfl (one_cons rfl (one_cons rfl one_nil)))))))) hm32427 (k := 0) rfl rfl rfl) ?_
  intro w32429 hm32430
  replace hm32430 : Mem w0 w32429 (cat [sg g32425 65 (0, 0) [] [(.int .i64 r32412.1.Size), (.bool r32412.1.Up), v32414, v32418, (.int .i64 r32412.1.Lost), (.int .i64 r32412.1.Pending), (.int .i64 r32412.1.Every), (.int .i64 r32412.1.Signals)] [], h32416, h32420, sg g32385 65 (0, 0) [] [(.int .i64 0), (.bool false), (.slice none 0 0), (.slice none 0 0), (.int .i64 0), (.int .i64 0), (.int .i64 0), (.int .i64 0)] [], hF]) := hm32430
  refine s_val (v := (.int .i64 r32412.2)) (won rfl) rfl rfl (x_assign rfl (ev (t := 25) rfl rfl)) ?_
  refine wpList_nil ?_
  refine nx ?_
  refine wp_seq ?_
  refine wp_seq ?_
  refine wp_region_lit ?_
  refine s_val (v := (.int .i64 r32412.2)) (won rfl) rfl rfl (x_move rfl (ev (t := 10) rfl rfl)) ?_
  refine s_val (v := (.bool (!decide (r32412.2 = 0)))) (won rfl) rfl rfl (x_neq rfl (ev (t := 26) rfl rfl) rfl) ?_
  refine wpList_nil ?_
  refine nx ?_
  rcases Bool.eq_false_or_eq_true ((!decide (r32412.2 = 0))) with hb32443 | hb32443
  ·
   replace he := bifT he hb32443
   refine c_true rfl (p := (!decide (r32412.2 = 0))) rfl rfl hb32443 ?_
   refine wp_seq ?_
   refine wp_region_lit ?_
   refine s_val (v := (.agg #[(.int .i64 0), (.bool false), (.slice none 0 0), (.slice none 0 0), (.int .i64 0), (.int .i64 0), (.int .i64 0), (.int .i64 0)])) (won rfl) rfl rfl (x_build (cells := [(.int .i64 0), (.bool false), (.slice none 0 0), (.slice none 0 0), (.int .i64 0), (.int .i64 0), (.int .i64 0), (.int .i64 0)]) (zc := [.int .i64 0, .bool false, .slice none 0 0, .slice none 0 0, .int .i64 0, .int .i64 0, .int .i64 0, .int .i64 0]) (sizes := [(0, 1), (1, 1), (2, 1), (3, 1), (4, 1), (5, 1), (6, 1), (7, 1)]) (ps := []) rfl zt_65 rfl uf_65 ufz_65 (pmap_lit pmap_nil) fill_nil) ?_
   refine s_exv (won rfl) rfl rfl (e_litp (cells := []) (ps := []) rfl slt_66 (pmap_lit pmap_nil) (fun w1 => run_bslice0 slt_66) hm32430) ?_
   rintro g32448 w32446 hm32447
   have H32449 : OwD 71 impl_RingReply_D (.slice (some ⟨g32448, 0, none⟩) 0 0) ([] : List impl_RingReply) (cat [sg g32448 71 (0, 0) [] [] [], []]) := OwD.lit (xs := ([] : List impl_RingReply)) (cells := []) g32448 reps_n 0 rfl (by decide)
   have hm32451 : Mem w0 w32446 (cat [(sg g32448 71 (0, 0) [] [] []), sg g32425 65 (0, 0) [] [(.int .i64 r32412.1.Size), (.bool r32412.1.Up), v32414, v32418, (.int .i64 r32412.1.Lost), (.int .i64 r32412.1.Pending), (.int .i64 r32412.1.Every), (.int .i64 r32412.1.Signals)] [], h32416, h32420, sg g32385 65 (0, 0) [] [(.int .i64 0), (.bool false), (.slice none 0 0), (.slice none 0 0), (.int .i64 0), (.int .i64 0), (.int .i64 0), (.int .i64 0)] [], hF]) := Mem.pick [0, 1, 2, 3, 4, 5] rfl hm32447
   replace hm32447 : Mem w0 w32446 (cat [(cat [sg g32448 71 (0, 0) [] [] [], []]), sg g32425 65 (0, 0) [] [(.int .i64 r32412.1.Size), (.bool r32412.1.Up), v32414, v32418, (.int .i64 r32412.1.Lost), (.int .i64 r32412.1.Pending), (.int .i64 r32412.1.Every), (.int .i64 r32412.1.Signals)] [], h32416, h32420, sg g32385 65 (0, 0) [] [(.int .i64 0), (.bool false), (.slice none 0 0), (.slice none 0 0), (.int .i64 0), (.int .i64 0), (.int .i64 0), (.int .i64 0)] [], hF]) := Mem.eqv (by simp only [cat, List.append_assoc, List.append_nil, List.nil_append]) hm32451
   refine s_val (v := (.int .i64 r32412.2)) (won rfl) rfl rfl (x_move rfl (ev (t := 10) rfl rfl)) ?_
   refine s_exs (won rfl) rfl (e_store (vs := [(.int .i64 0), (.bool false), (.slice none 0 0), (.slice none 0 0), (.int .i64 0), (.int .i64 0), (.int .i64 0), (.int .i64 0)]) (o' := 0) (j := 0) rfl sz_65 (ev (t := 6) rfl rfl) (ev (t := 28) rfl rfl) rfl rfl hm32447 (k := 4) rfl rfl rfl) ?_
   intro w32452 hm32453
   replace hm32453 : Mem w0 w32452 (cat [(cat [sg g32448 71 (0, 0) [] [] [], []]), sg g32425 65 (0, 0) [] [(.int .i64 r32412.1.Size), (.bool r32412.1.Up), v32414, v32418, (.int .i64 r32412.1.Lost), (.int .i64 r32412.1.Pending), (.int .i64 r32412.1.Every), (.int .i64 r32412.1.Signals)] [], h32416, h32420, sg g32385 65 (0, 0) [] [(.int .i64 0), (.bool false), (.slice none 0 0), (.slice none 0 0), (.int .i64 0), (.int .i64 0), (.int .i64 0), (.int .i64 0)] [], hF]) := hm32453
   refine s_val (v := (.slice (some ⟨g32448, 0, none⟩) 0 0)) (won rfl) rfl rfl (x_assign rfl (ev (t := 29) rfl rfl)) ?_
   refine s_val (v := (.int .i64 r32412.2)) (won rfl) rfl rfl (x_assign rfl (ev (t := 30) rfl rfl)) ?_
   refine wpList_nil ?_
   have hm32454 : Mem w0 w32452 (cat [(cat [sg g32448 71 (0, 0) [] [] [], []]), sg g32385 65 (0, 0) [] [(.int .i64 0), (.bool false), (.slice none 0 0), (.slice none 0 0), (.int .i64 0), (.int .i64 0), (.int .i64 0), (.int .i64 0)] [], hF]) := Mem.pick [0, 4, 5] rfl hm32453
   refine nx ?_
   refine wp_ret ?_
   refine xr ?_
   obtain rfl := Option.some.inj he
   refine r_ret (v := (.tuple #[(.agg #[(.int .i64 0), (.bool false), (.slice none 0 0), (.slice none 0 0), (.int .i64 0), (.int .i64 0), (.int .i64 0), (.int .i64 0)]), (.slice (some ⟨g32448, 0, none⟩) 0 0), (.int .i64 r32412.2)])) (rv_list rfl rfl (RVs.cell (cs := [(.int .i64 0), (.bool false), (.slice none 0 0), (.slice none 0 0), (.int .i64 0), (.int .i64 0), (.int .i64 0), (.int .i64 0)]) rfl rfl tyN_65 (seg_cells (o' := 0) (j := 0) hm32454 (k := 1) rfl rfl rfl) (RVs.tmp (v := (.slice (some ⟨g32448, 0, none⟩) 0 0)) rfl rfl (RVs.tmp (v := (.int .i64 r32412.2)) rfl rfl RVs.nil)))) rfl ?_
   exact ⟨(.slice none 0 0), [], (.slice none 0 0), [], (.slice (some ⟨g32448, 0, none⟩) 0 0), (cat [sg g32448 71 (0, 0) [] [] [], []]), rfl, (OwF.nil 3 (FK.int .i64)), (OwF.nil 3 (FK.int .i64)), H32449, Mem.pick [1000, 1001, 0, 2] rfl hm32454⟩
  ·
   replace he := bifF he hb32443
   refine c_false rfl (p := (!decide (r32412.2 = 0))) rfl rfl hb32443 ?_
   refine wp_skip ?_
   refine nx ?_
   refine wp_seq ?_
   refine wp_seq ?_
   refine wp_region_lit ?_
   refine s_val (v := v2x0) (won rfl) rfl rfl (x_move rfl (ev (t := 2) rfl rfl)) ?_
   refine s_val (v := (.int .i64 (a2.length : Int))) (won rfl) rfl rfl (x_len rfl slt_62 (ev (t := 31) rfl rfl) (H2x0).sl) ?_
   refine s_val (v := (.bool (decide ((300 : Int) < (a2.length : Int))))) (won rfl) rfl rfl (x_gtr rfl (ev (t := 32) rfl rfl) rfl) ?_
   refine wpList_nil ?_
   refine nx ?_
   rcases Bool.eq_false_or_eq_true ((decide ((300 : Int) < (a2.length : Int)))) with hb32467 | hb32467
   ·
    replace he := bifT he hb32467
    refine c_true rfl (p := (decide ((300 : Int) < (a2.length : Int)))) rfl rfl hb32467 ?_
    refine wp_seq ?_
    refine wp_region_lit ?_
    refine s_val (v := (.agg #[(.int .i64 0), (.bool false), (.slice none 0 0), (.slice none 0 0), (.int .i64 0), (.int .i64 0), (.int .i64 0), (.int .i64 0)])) (won rfl) rfl rfl (x_build (cells := [(.int .i64 0), (.bool false), (.slice none 0 0), (.slice none 0 0), (.int .i64 0), (.int .i64 0), (.int .i64 0), (.int .i64 0)]) (zc := [.int .i64 0, .bool false, .slice none 0 0, .slice none 0 0, .int .i64 0, .int .i64 0, .int .i64 0, .int .i64 0]) (sizes := [(0, 1), (1, 1), (2, 1), (3, 1), (4, 1), (5, 1), (6, 1), (7, 1)]) (ps := []) rfl zt_65 rfl uf_65 ufz_65 (pmap_lit pmap_nil) fill_nil) ?_
    refine s_exv (won rfl) rfl rfl (e_litp (cells := []) (ps := []) rfl slt_66 (pmap_lit pmap_nil) (fun w1 => run_bslice0 slt_66) hm32430) ?_
    rintro g32472 w32470 hm32471
    have H32473 : OwD 71 impl_RingReply_D (.slice (some ⟨g32472, 0, none⟩) 0 0) ([] : List impl_RingReply) (cat [sg g32472 71 (0, 0) [] [] [], []]) := OwD.lit (xs := ([] : List impl_RingReply)) (cells := []) g32472 reps_n 0 rfl (by decide)
    have hm32475 : Mem w0 w32470 (cat [(sg g32472 71 (0, 0) [] [] []), sg g32425 65 (0, 0) [] [(.int .i64 r32412.1.Size), (.bool r32412.1.Up), v32414, v32418, (.int .i64 r32412.1.Lost), (.int .i64 r32412.1.Pending), (.int .i64 r32412.1.Every), (.int .i64 r32412.1.Signals)] [], h32416, h32420, sg g32385 65 (0, 0) [] [(.int .i64 0), (.bool false), (.slice none 0 0), (.slice none 0 0), (.int .i64 0), (.int .i64 0), (.int .i64 0), (.int .i64 0)] [], hF]) := Mem.pick [0, 1, 2, 3, 4, 5] rfl hm32471
    replace hm32471 : Mem w0 w32470 (cat [(cat [sg g32472 71 (0, 0) [] [] [], []]), sg g32425 65 (0, 0) [] [(.int .i64 r32412.1.Size), (.bool r32412.1.Up), v32414, v32418, (.int .i64 r32412.1.Lost), (.int .i64 r32412.1.Pending), (.int .i64 r32412.1.Every), (.int .i64 r32412.1.Signals)] [], h32416, h32420, sg g32385 65 (0, 0) [] [(.int .i64 0), (.bool false), (.slice none 0 0), (.slice none 0 0), (.int .i64 0), (.int .i64 0), (.int .i64 0), (.int .i64 0)] [], hF]) := Mem.eqv (by simp only [cat, List.append_assoc, List.append_nil, List.nil_append]) hm32475
    refine s_exs (won rfl) rfl (e_store (vs := [(.int .i64 0), (.bool false), (.slice none 0 0), (.slice none 0 0), (.int .i64 0), (.int .i64 0), (.int .i64 0), (.int .i64 0)]) (o' := 0) (j := 0) rfl sz_65 (ev (t := 6) rfl rfl) (ev (t := 34) rfl rfl) rfl rfl hm32471 (k := 4) rfl rfl rfl) ?_
    intro w32476 hm32477
    replace hm32477 : Mem w0 w32476 (cat [(cat [sg g32472 71 (0, 0) [] [] [], []]), sg g32425 65 (0, 0) [] [(.int .i64 r32412.1.Size), (.bool r32412.1.Up), v32414, v32418, (.int .i64 r32412.1.Lost), (.int .i64 r32412.1.Pending), (.int .i64 r32412.1.Every), (.int .i64 r32412.1.Signals)] [], h32416, h32420, sg g32385 65 (0, 0) [] [(.int .i64 0), (.bool false), (.slice none 0 0), (.slice none 0 0), (.int .i64 0), (.int .i64 0), (.int .i64 0), (.int .i64 0)] [], hF]) := hm32477
    refine s_val (v := (.slice (some ⟨g32472, 0, none⟩) 0 0)) (won rfl) rfl rfl (x_assign rfl (ev (t := 35) rfl rfl)) ?_
    refine s_val (v := (.int .i64 6)) (won rfl) rfl rfl (x_assign rfl rfl) ?_
    refine wpList_nil ?_
    have hm32478 : Mem w0 w32476 (cat [(cat [sg g32472 71 (0, 0) [] [] [], []]), sg g32385 65 (0, 0) [] [(.int .i64 0), (.bool false), (.slice none 0 0), (.slice none 0 0), (.int .i64 0), (.int .i64 0), (.int .i64 0), (.int .i64 0)] [], hF]) := Mem.pick [0, 4, 5] rfl hm32477
    refine nx ?_
    refine wp_ret ?_
    refine xr ?_
    obtain rfl := Option.some.inj he
    refine r_ret (v := (.tuple #[(.agg #[(.int .i64 0), (.bool false), (.slice none 0 0), (.slice none 0 0), (.int .i64 0), (.int .i64 0), (.int .i64 0), (.int .i64 0)]), (.slice (some ⟨g32472, 0, none⟩) 0 0), (.int .i64 6)])) (rv_list rfl rfl (RVs.cell (cs := [(.int .i64 0), (.bool false), (.slice none 0 0), (.slice none 0 0), (.int .i64 0), (.int .i64 0), (.int .i64 0), (.int .i64 0)]) rfl rfl tyN_65 (seg_cells (o' := 0) (j := 0) hm32478 (k := 1) rfl rfl rfl) (RVs.tmp (v := (.slice (some ⟨g32472, 0, none⟩) 0 0)) rfl rfl (RVs.tmp (v := (.int .i64 6)) rfl rfl RVs.nil)))) rfl ?_
    exact ⟨(.slice none 0 0), [], (.slice none 0 0), [], (.slice (some ⟨g32472, 0, none⟩) 0 0), (cat [sg g32472 71 (0, 0) [] [] [], []]), rfl, (OwF.nil 3 (FK.int .i64)), (OwF.nil 3 (FK.int .i64)), H32473, Mem.pick [1000, 1001, 0, 2] rfl hm32478⟩
   ·
    replace he := bifF he hb32467
    refine c_false rfl (p := (decide ((300 : Int) < (a2.length : Int)))) rfl rfl hb32467 ?_
    refine wp_skip ?_
    refine nx ?_
    refine wp_seq ?_
    refine wp_region_lit ?_
    refine s_exv (won rfl) rfl rfl (e_litp (cells := []) (ps := []) rfl slt_66 (pmap_lit pmap_nil) (fun w1 => run_bslice0 slt_66) hm32430) ?_
    rintro g32481 w32479 hm32480
    have H32482 : OwD 71 impl_RingReply_D (.slice (some ⟨g32481, 0, none⟩) 0 0) ([] : List impl_RingReply) (cat [sg g32481 71 (0, 0) [] [] [], []]) := OwD.lit (xs := ([] : List impl_RingReply)) (cells := []) g32481 reps_n 0 rfl (by decide)
    have hm32484 : Mem w0 w32479 (cat [(sg g32481 71 (0, 0) [] [] []), sg g32425 65 (0, 0) [] [(.int .i64 r32412.1.Size), (.bool r32412.1.Up), v32414, v32418, (.int .i64 r32412.1.Lost), (.int .i64 r32412.1.Pending), (.int .i64 r32412.1.Every), (.int .i64 r32412.1.Signals)] [], h32416, h32420, sg g32385 65 (0, 0) [] [(.int .i64 0), (.bool false), (.slice none 0 0), (.slice none 0 0), (.int .i64 0), (.int .i64 0), (.int .i64 0), (.int .i64 0)] [], hF]) := Mem.pick [0, 1, 2, 3, 4, 5] rfl hm32480
    replace hm32480 : Mem w0 w32479 (cat [(cat [sg g32481 71 (0, 0) [] [] [], []]), sg g32425 65 (0, 0) [] [(.int .i64 r32412.1.Size), (.bool r32412.1.Up), v32414, v32418, (.int .i64 r32412.1.Lost), (.int .i64 r32412.1.Pending), (.int .i64 r32412.1.Every), (.int .i64 r32412.1.Signals)] [], h32416, h32420, sg g32385 65 (0, 0) [] [(.int .i64 0), (.bool false), (.slice none 0 0), (.slice none 0 0), (.int .i64 0), (.int .i64 0), (.int .i64 0), (.int .i64 0)] [], hF]) := Mem.eqv (by simp only [cat, List.append_assoc, List.append_nil, List.nil_append]) hm32484
    refine s_val (v := (.slice (some ⟨g32481, 0, none⟩) 0 0)) (won rfl) rfl rfl (x_assign rfl (ev (t := 36) rfl rfl)) ?_
    refine wpList_nil ?_
    refine nx ?_
    obtain ⟨s48388, hT48390, hk48389⟩ := bindE he
    replace he := hT48390
    refine wp_seqJ (fun a w => ∃ (v48371 : Value) (h48372 : Hp) (v48375 : Value) (h48376 : Hp) (v48384 : Value) (h48385 : Hp) (f : Nat → Value), a = fr 60 f ∧ f 6 = (.pointer (some ⟨g32385, 0, none⟩)) ∧ f 9 = (.pointer (some ⟨g32425, 0, none⟩)) ∧ f 11 = v48384 ∧ OwF 3 (FK.int .i64) v48371 s48388.2.2.1 h48372 ∧ OwF 3 (FK.int .i64) v48375 s48388.2.2.2.1 h48376 ∧ OwD 71 impl_RingReply_D v48384 s48388.2.2.2.2.2.2.2.2 h48385 ∧ Mem w0 w (cat [sg g32385 65 (0, 0) [] [(.int .i64 0), (.bool false), (.slice none 0 0), (.slice none 0 0), (.int .i64 0), (.int .i64 0), (.int .i64 0), (.int .i64 0)] [], sg g32425 65 (0, 0) [] [(.int .i64 s48388.1), (.bool s48388.2.1), v48371, v48375, (.int .i64 s48388.2.2.2.2.1), (.int .i64 s48388.2.2.2.2.2.1), (.int .i64 s48388.2.2.2.2.2.2.1), (.int .i64 s48388.2.2.2.2.2.2.2.1)] [], h48372, h48376, h48385, hF])) ?_ ?_
    ·
     refine wp_seq ?_
     refine wp_region_lit ?_
     refine s_val (v := (.int .i64 0)) (won rfl) rfl rfl (x_assign rfl rfl) ?_
     refine wpList_nil ?_
     refine nx ?_
     refine wp_block ?_
     refine wp_fuel (I := fun k => fun a w => ∃ (s56369 : Int) (s56370 : Bool) (s56371 : (List Int)) (s56375 : (List Int)) (s56379 : Int) (s56380 : Int) (s56381 : Int) (s56382 : Int) (s56384 : (List impl_RingReply)) (s56389 : Int) (v56372 : Value) (h56373 : Hp) (v56376 : Value) (h56377 : Hp) (v56385 : Value) (h56386 : Hp) (f : Nat → Value), spec_RingRun_l1 F a2 k s56369 s56370 s56371 s56375 s56379 s56380 s56381 s56382 s56384 s56389 = some s48388 ∧ a = fr 60 f ∧ f 2 = v2x0 ∧ f 6 = (.pointer (some ⟨g32385, 0, none⟩)) ∧ f 9 = (.pointer (some ⟨g32425, 0, none⟩)) ∧ f 11 = v56385 ∧ f 12 = (.int .i64 s56389) ∧ OwF 3 (FK.int .i64) v56372 s56371 h56373 ∧ OwF 3 (FK.int .i64) v56376 s56375 h56377 ∧ OwD 71 impl_RingReply_D v56385 s56384 h56386 ∧ Mem w0 w (cat [sg g32385 65 (0, 0) [] [(.int .i64 0), (.bool false), (.slice none 0 0), (.slice none 0 0), (.int .i64 0), (.int .i64 0), (.int .i64 0), (.int .i64 0)] [], sg g32425 65 (0, 0) [] [(.int .i64 s56369), (.bool s56370), v56372, v56376, (.int .i64 s56379), (.int .i64 s56380), (.int .i64 s56381), (.int .i64 s56382)] [], h56373, h56377, h56386, hF])) F _ _ ⟨r32412.1.Size, r32412.1.Up, r32412.1.Posted, r32412.1.Done, r32412.1.Lost, r32412.1.Pending, r32412.1.Every, r32412.1.Signals, ([] : List impl_RingReply), 0, v32414, h32416, v32418, h32420, (.slice (some ⟨g32481, 0, none⟩) 0 0), (cat [sg g32481 71 (0, 0) [] [] [], []]), _, he, rfl, rfl, rfl, rfl, rfl, rfl, H32415, H32419, H32482, Mem.pick [4, 1, 2, 3, 0, 5] rfl hm32480⟩ ?_ ?_
     ·
      rintro a w ⟨s56369, s56370, s56371, s56375, s56379, s56380, s56381, s56382, s56384, s56389, v56372, h56373, v56376, h56377, v56385, h56386, f, he, rfl, q56367, q56368, q56383, q56388, q56390, H56374, H56378, H56387, hm60368⟩
      rw [spec_RingRun_l1] at he; exact none_no he
     ·
      rintro k a w ⟨s56369, s56370, s56371, s56375, s56379, s56380, s56381, s56382, s56384, s56389, v56372, h56373, v56376, h56377, v56385, h56386, f, he, rfl, q56367, q56368, q56383, q56388, q56390, H56374, H56378, H56387, hm60370⟩
      rw [spec_RingRun_l1] at he
      refine wp_seq ?_
      refine wp_seq ?_
      refine wp_region_lit ?_
      refine s_val (v := (.int .i64 s56389)) (won rfl) rfl rfl (x_move rfl (ev (t := 12) (v := (.int .i64 s56389)) rfl q56390)) ?_
      refine s_val (v := v2x0) (won rfl) rfl rfl (x_move rfl (ev (t := 2) (v := v2x0) rfl q56367)) ?_
      refine s_val (v := (.int .i64 (a2.length : Int))) (won rfl) rfl rfl (x_len rfl slt_62 (ev (t := 38) rfl rfl) (H2x0).sl) ?_
      refine s_val (v := (.bool (decide (s56389 < (a2.length : Int))))) (won rfl) rfl rfl (x_lss rfl (ev (t := 37) rfl rfl) (ev (t := 39) rfl rfl)) ?_
      refine wpList_nil ?_
      refine nx ?_
      rcases Bool.eq_false_or_eq_true ((decide (s56389 < (a2.length : Int)))) with hb60372 | hb60372
      ·
       replace he := bifT he hb60372
       refine c_true rfl (p := (decide (s56389 < (a2.length : Int)))) rfl rfl hb60372 ?_
       refine wp_skip ?_
       refine nx ?_
       refine wp_seq ?_
       refine wp_block ?_
       refine wp_seq ?_
       obtain ⟨hg63301, he⟩ := gdE he
       obtain ⟨r63501, hr63501, he⟩ := bindE he
       obtain ⟨hz63000, hze63000⟩ : ∃ hz : Hp, hz = cat [sg g32385 65 (0, 0) [] [(.int .i64 0), (.bool false), (.slice none 0 0), (.slice none 0 0), (.int .i64 0), (.int .i64 0), (.int .i64 0), (.int .i64 0)] [], h56386] := ⟨_, rfl⟩
       have hm63000 : Mem w0 w (cat [sg g32425 65 (0, 0) [] [(.int .i64 s56369), (.bool s56370), v56372, v56376, (.int .i64 s56379), (.int .i64 s56380), (.int .i64 s56381), (.int .i64 s56382)] [], h56373, h56377, hF, hz63000]) := by rw [hze63000]; exact Mem.grp [sg g32425 65 (0, 0) [] [(.int .i64 s56369), (.bool s56370), v56372, v56376, (.int .i64 s56379), (.int .i64 s56380), (.int .i64 s56381), (.int .i64 s56382)] [], h56373, h56377, hF] [sg g32385 65 (0, 0) [] [(.int .i64 0), (.bool false), (.slice none 0 0), (.slice none 0 0), (.int .i64 0), (.int .i64 0), (.int .i64 0), (.int .i64 0)] [], h56386] (Mem.pick [1, 2, 3, 5, 0, 4] rfl hm60370)
       refine wp_drawF (I := fun f b a w => ∃ (vs : Nat → Value) (v63503 : Value) (h63505 : Hp) (v63507 : Value) (h63509 : Hp) (v63511 : Value) (h63513 : Hp) (g63903 : Nat) (g64002 : Nat), a = fr 60 (sel b [(0, 44), (1, 45), (2, 46), (3, 47), (4, 48), (5, 49), (6, 43), (7, 50), (8, 51), (9, 13), (10, 14)] vs f) ∧ (b 0 = true → vs 0 = (.agg #[(.int .i64 s56369), (.bool s56370), v56372, v56376, (.int .i64 s56379), (.int .i64 s56380), (.int .i64 s56381), (.int .i64 s56382)])) ∧ (b 1 = true → vs 1 = v2x0) ∧ (b 2 = true → vs 2 = (.int .i64 s56389)) ∧ (b 3 = true → vs 3 = (.pointer (some ((slA v2x0).add (Int.toNat s56389 * 2))))) ∧ (b 4 = true → vs 4 = (.agg #[(.int .i64 (ix a2 s56389).Kind), (.int .i64 (ix a2 s56389).N)])) ∧ (b 5 = true → vs 5 = (.tuple #[(.agg #[(.int .i64 r63501.1.Size), (.bool r63501.1.Up), v63503, v63507, (.int .i64 r63501.1.Lost), (.int .i64 r63501.1.Pending), (.int .i64 r63501.1.Every), (.int .i64 r63501.1.Signals)]), (.agg #[(.int .i64 r63501.2.Code), v63511])])) ∧ (b 6 = true → vs 6 = (.tuple #[(.agg #[(.int .i64 r63501.1.Size), (.bool r63501.1.Up), v63503, v63507, (.int .i64 r63501.1.Lost), (.int .i64 r63501.1.Pending), (.int .i64 r63501.1.Every), (.int .i64 r63501.1.Signals)]), (.agg #[(.int .i64 r63501.2.Code), v63511])])) ∧ (b 7 = true → vs 7 = (.agg #[(.int .i64 r63501.1.Size), (.bool r63501.1.Up), v63503, v63507, (.int .i64 r63501.1.Lost), (.int .i64 r63501.1.Pending), (.int .i64 r63501.1.Every), (.int .i64 r63501.1.Signals)])) ∧ (b 8 = true → vs 8 = (.agg #[(.int .i64 r63501.2.Code), v63511])) ∧ (b 9 = true → vs 9 = (.pointer (some ⟨g63903, 0, none⟩))) ∧ (b 10 = true → vs 10 = (.pointer (some ⟨g64002, 0, none⟩))) ∧ (b 5 = true → OwF 3 (FK.int .i64) v63503 r63501.1.Posted h63505) ∧ (b 5 = true → OwF 3 (FK.int .i64) v63507 r63501.1.Done h63509) ∧ (b 5 = true → OwF 3 (FK.int .i64) v63511 r63501.2.List h63513) ∧ Mem w0 w (cat [sg g32425 65 (0, 0) [] [(.int .i64 s56369), (.bool s56370), v56372, v56376, (.int .i64 s56379), (.int .i64 s56380), (.int .i64 s56381), (.int .i64 s56382)] [], h56373, h56377, hF, hz63000, (bif b 5 then h63505 else []), (bif b 5 then h63509 else []), (bif b 5 then h63513 else []), (bif b 11 then sg g63903 65 (0, 0) [] [(.int .i64 r63501.1.Size), (.bool r63501.1.Up), v63503, v63507, (.int .i64 r63501.1.Lost), (.int .i64 r63501.1.Pending), (.int .i64 r63501.1.Every), (.int .i64 r63501.1.Signals)] [] else (bif b 9 then sg g63903 65 (0, 0) [] [(.int .i64 0), (.bool false), (.slice none 0 0), (.slice none 0 0), (.int .i64 0), (.int .i64 0), (.int .i64 0), (.int .i64 0)] [] else [])), (bif b 12 then sg g64002 71 (0, 0) [] [(.int .i64 r63501.2.Code), v63511] [] else (bif b 10 then sg g64002 71 (0, 0) [] [(.int .i64 0), (.slice none 0 0)] [] else []))])) mixed (by kernel_rfl) ⟨fun _ => undef, undef, [], undef, [], undef, [], 0, 0, (by rw [sel_false]), fun h => fno h, fun h => fno h, fun h => fno h, fun h => fno h, fun h => fno h, fun h => fno h, fun h => fno h, fun h => fno h, fun h => fno h, fun h => fno h, fun h => fno h, fun h => fno h, fun h => fno h, fun h => fno h, Mem.drew (Mem.pick [0, 1, 2, 3, 4, 1000, 1001, 1002, 1003, 1004] rfl hm63000)⟩ (steps_cons (i := 0) ?_ (steps_cons (i := 1) ?_ (steps_cons (i := 2) ?_ (steps_cons (i := 3) ?_ (steps_cons (i := 4) ?_ (steps_cons (i := 5) ?_ (steps_cons (i := 6) ?_ (steps_cons (i := 7) ?_ (steps_cons (i := 8) ?_ (steps_cons (i := 9) ?_ (steps_cons (i := 10) ?_ (steps_cons (i := 11) ?_ (steps_cons (i := 12) ?_ steps_nil))))))))))))) ?_
       ·
        intro b a w hI hbi hn hc K hK
        obtain ⟨vs, v63503, h63505, v63507, h63509, v63511, h63513, g63903, g64002, ha, y0, y1, y2, y3, y4, y5, y6, y7, y8, y9, y10, H63504, H63508, H63512, hm⟩ := hI
        subst ha
        have b5 : b 5 = false := later (j := 5) hc rfl (i := 0) (da rfl) hbi
        have b6 : b 6 = false := later (j := 6) hc rfl (i := 5) (da rfl) b5
        have b7 : b 7 = false := later (j := 7) hc rfl (i := 6) (da rfl) b6
        have b8 : b 8 = false := later (j := 8) hc rfl (i := 6) (da rfl) b6
        have b11 : b 11 = false := later (j := 11) hc rfl (i := 0) (da rfl) hbi
        have b12 : b 12 = false := later (j := 12) hc rfl (i := 0) (da rfl) hbi
        have hm64301 : Mem w0 w (cat [sg g32425 65 (0, 0) [] [(.int .i64 s56369), (.bool s56370), v56372, v56376, (.int .i64 s56379), (.int .i64 s56380), (.int .i64 s56381), (.int .i64 s56382)] [], h56373, h56377, hF, hz63000, (bif b 9 then sg g63903 65 (0, 0) [] [(.int .i64 0), (.bool false), (.slice none 0 0), (.slice none 0 0), (.int .i64 0), (.int .i64 0), (.int .i64 0), (.int .i64 0)] [] else []), (bif b 10 then sg g64002 71 (0, 0) [] [(.int .i64 0), (.slice none 0 0)] [] else [])]) := Mem.pick [0, 1, 2, 3, 4, 8, 9] rfl (Mem.cg (B := [sg g32425 65 (0, 0) [] [(.int .i64 s56369), (.bool s56370), v56372, v56376, (.int .i64 s56379), (.int .i64 s56380), (.int .i64 s56381), (.int .i64 s56382)] [], h56373, h56377, hF, hz63000, [], [], [], (bif b 9 then sg g63903 65 (0, 0) [] [(.int .i64 0), (.bool false), (.slice none 0 0), (.slice none 0 0), (.int .i64 0), (.int .i64 0), (.int .i64 0), (.int .i64 0)] [] else []), (bif b 10 then sg g64002 71 (0, 0) [] [(.int .i64 0), (.slice none 0 0)] [] else [])]) (cat_cons rfl (cat_cons rfl (cat_cons rfl (cat_cons rfl (cat_cons rfl (cat_cons (off_ b5 rfl) (cat_cons (off_ b5 rfl) (cat_cons (off_ b5 rfl) (cat_cons (off_ b11 rfl) (cat_cons (off_ b12 rfl) rfl)))))))))) hm)
        refine e_val (i := 0) hbi rfl rfl (v := (.agg #[(.int .i64 s56369), (.bool s56370), v56372, v56376, (.int .i64 s56379), (.int .i64 s56380), (.int .i64 s56381), (.int .i64 s56382)])) (won rfl) rfl rfl (x_loadN (vs := [(.int .i64 s56369), (.bool s56370), v56372, v56376, (.int .i64 s56379), (.int .i64 s56380), (.int .i64 s56381), (.int .i64 s56382)]) rfl tyN_65 (ev (t := 9) (v := (.pointer (some ⟨g32425, 0, none⟩))) rfl ((sel_no rfl).trans q56383)) (seg_cells (o' := 0) (j := 0) hm64301 (k := 0) rfl rfl rfl)) ?_
        exact hK _ _ ⟨_, v63503, h63505, v63507, h63509, v63511, h63513, g63903, g64002, rfl, fun _ => rfl, y1, y2, y3, y4, y5, y6, y7, y8, y9, y10, H63504, H63508, H63512, Mem.gc (A := [sg g32425 65 (0, 0) [] [(.int .i64 s56369), (.bool s56370), v56372, v56376, (.int .i64 s56379), (.int .i64 s56380), (.int .i64 s56381), (.int .i64 s56382)] [], h56373, h56377, hF, hz63000, [], [], [], (bif b 9 then sg g63903 65 (0, 0) [] [(.int .i64 0), (.bool false), (.slice none 0 0), (.slice none 0 0), (.int .i64 0), (.int .i64 0), (.int .i64 0), (.int .i64 0)] [] else []), (bif b 10 then sg g64002 71 (0, 0) [] [(.int .i64 0), (.slice none 0 0)] [] else [])]) (cat_cons rfl (cat_cons rfl (cat_cons rfl (cat_cons rfl (cat_cons rfl (cat_cons (off_ b5 rfl) (cat_cons (off_ b5 rfl) (cat_cons (off_ b5 rfl) (cat_cons (off_ b11 rfl) (cat_cons (off_ b12 rfl) rfl)))))))))) (Mem.pick [0, 1, 2, 3, 4, 1005, 1006, 1007, 5, 6] rfl hm64301)⟩
       ·
        intro b a w hI hbi hn hc K hK
        obtain ⟨vs, v63503, h63505, v63507, h63509, v63511, h63513, g63903, g64002, ha, y0, y1, y2, y3, y4, y5, y6, y7, y8, y9, y10, H63504, H63508, H63512, hm⟩ := hI
        subst ha
        have b3 : b 3 = false := later (j := 3) hc rfl (i := 1) (da rfl) hbi
        have b4 : b 4 = false := later (j := 4) hc rfl (i := 3) (da rfl) b3
        have b5 : b 5 = false := later (j := 5) hc rfl (i := 4) (da rfl) b4
        have b6 : b 6 = false := later (j := 6) hc rfl (i := 5) (da rfl) b5
        have b7 : b 7 = false := later (j := 7) hc rfl (i := 6) (da rfl) b6
        have b8 : b 8 = false := later (j := 8) hc rfl (i := 6) (da rfl) b6
        have b11 : b 11 = false := later (j := 11) hc rfl (i := 1) (da rfl) hbi
        have b12 : b 12 = false := later (j := 12) hc rfl (i := 1) (da rfl) hbi
        have hm64304 : Mem w0 w (cat [sg g32425 65 (0, 0) [] [(.int .i64 s56369), (.bool s56370), v56372, v56376, (.int .i64 s56379), (.int .i64 s56380), (.int .i64 s56381), (.int .i64 s56382)] [], h56373, h56377, hF, hz63000, (bif b 9 then sg g63903 65 (0, 0) [] [(.int .i64 0), (.bool false), (.slice none 0 0), (.slice none 0 0), (.int .i64 0), (.int .i64 0), (.int .i64 0), (.int .i64 0)] [] else []), (bif b 10 then sg g64002 71 (0, 0) [] [(.int .i64 0), (.slice none 0 0)] [] else [])]) := Mem.pick [0, 1, 2, 3, 4, 8, 9] rfl (Mem.cg (B := [sg g32425 65 (0, 0) [] [(.int .i64 s56369), (.bool s56370), v56372, v56376, (.int .i64 s56379), (.int .i64 s56380), (.int .i64 s56381), (.int .i64 s56382)] [], h56373, h56377, hF, hz63000, [], [], [], (bif b 9 then sg g63903 65 (0, 0) [] [(.int .i64 0), (.bool false), (.slice none 0 0), (.slice none 0 0), (.int .i64 0), (.int .i64 0), (.int .i64 0), (.int .i64 0)] [] else []), (bif b 10 then sg g64002 71 (0, 0) [] [(.int .i64 0), (.slice none 0 0)] [] else [])]) (cat_cons rfl (cat_cons rfl (cat_cons rfl (cat_cons rfl (cat_cons rfl (cat_cons (off_ b5 rfl) (cat_cons (off_ b5 rfl) (cat_cons (off_ b5 rfl) (cat_cons (off_ b11 rfl) (cat_cons (off_ b12 rfl) rfl)))))))))) hm)
        refine e_val (i := 1) hbi rfl rfl (v := v2x0) (won rfl) rfl rfl (x_move rfl (ev (t := 2) (v := v2x0) rfl ((sel_no rfl).trans q56367))) ?_
        exact hK _ _ ⟨_, v63503, h63505, v63507, h63509, v63511, h63513, g63903, g64002, rfl, y0, fun _ => rfl, y2, y3, y4, y5, y6, y7, y8, y9, y10, H63504, H63508, H63512, Mem.gc (A := [sg g32425 65 (0, 0) [] [(.int .i64 s56369), (.bool s56370), v56372, v56376, (.int .i64 s56379), (.int .i64 s56380), (.int .i64 s56381), (.int .i64 s56382)] [], h56373, h56377, hF, hz63000, [], [], [], (bif b 9 then sg g63903 65 (0, 0) [] [(.int .i64 0), (.bool false), (.slice none 0 0), (.slice none 0 0), (.int .i64 0), (.int .i64 0), (.int .i64 0), (.int .i64 0)] [] else []), (bif b 10 then sg g64002 71 (0, 0) [] [(.int .i64 0), (.slice none 0 0)] [] else [])]) (cat_cons rfl (cat_cons rfl (cat_cons rfl (cat_cons rfl (cat_cons rfl (cat_cons (off_ b5 rfl) (cat_cons (off_ b5 rfl) (cat_cons (off_ b5 rfl) (cat_cons (off_ b11 rfl) (cat_cons (off_ b12 rfl) rfl)))))))))) (Mem.pick [0, 1, 2, 3, 4, 1005, 1006, 1007, 5, 6] rfl hm64304)⟩
       ·
        intro b a w hI hbi hn hc K hK
        obtain ⟨vs, v63503, h63505, v63507, h63509, v63511, h63513, g63903, g64002, ha, y0, y1, y2, y3, y4, y5, y6, y7, y8, y9, y10, H63504, H63508, H63512, hm⟩ := hI
        subst ha
        have b3 : b 3 = false := later (j := 3) hc rfl (i := 2) (da rfl) hbi
        have b4 : b 4 = false := later (j := 4) hc rfl (i := 3) (da rfl) b3
        have b5 : b 5 = false := later (j := 5) hc rfl (i := 4) (da rfl) b4
        have b6 : b 6 = false := later (j := 6) hc rfl (i := 5) (da rfl) b5
        have b7 : b 7 = false := later (j := 7) hc rfl (i := 6) (da rfl) b6
        have b8 : b 8 = false := later (j := 8) hc rfl (i := 6) (da rfl) b6
        have b11 : b 11 = false := later (j := 11) hc rfl (i := 2) (da rfl) hbi
        have b12 : b 12 = false := later (j := 12) hc rfl (i := 2) (da rfl) hbi
        have hm64307 : Mem w0 w (cat [sg g32425 65 (0, 0) [] [(.int .i64 s56369), (.bool s56370), v56372, v56376, (.int .i64 s56379), (.int .i64 s56380), (.int .i64 s56381), (.int .i64 s56382)] [], h56373, h56377, hF, hz63000, (bif b 9 then sg g63903 65 (0, 0) [] [(.int .i64 0), (.bool false), (.slice none 0 0), (.slice none 0 0), (.int .i64 0), (.int .i64 0), (.int .i64 0), (.int .i64 0)] [] else []), (bif b 10 then sg g64002 71 (0, 0) [] [(.int .i64 0), (.slice none 0 0)] [] else [])]) := Mem.pick [0, 1, 2, 3, 4, 8, 9] rfl (Mem.cg (B := [sg g32425 65 (0, 0) [] [(.int .i64 s56369), (.bool s56370), v56372, v56376, (.int .i64 s56379), (.int .i64 s56380), (.int .i64 s56381), (.int .i64 s56382)] [], h56373, h56377, hF, hz63000, [], [], [], (bif b 9 then sg g63903 65 (0, 0) [] [(.int .i64 0), (.bool false), (.slice none 0 0), (.slice none 0 0), (.int .i64 0), (.int .i64 0), (.int .i64 0), (.int .i64 0)] [] else []), (bif b 10 then sg g64002 71 (0, 0) [] [(.int .i64 0), (.slice none 0 0)] [] else [])]) (cat_cons rfl (cat_cons rfl (cat_cons rfl (cat_cons rfl (cat_cons rfl (cat_cons (off_ b5 rfl) (cat_cons (off_ b5 rfl) (cat_cons (off_ b5 rfl) (cat_cons (off_ b11 rfl) (cat_cons (off_ b12 rfl) rfl)))))))))) hm)
        refine e_val (i := 2) hbi rfl rfl (v := (.int .i64 s56389)) (won rfl) rfl rfl (x_move rfl (ev (t := 12) (v := (.int .i64 s56389)) rfl ((sel_no rfl).trans q56390))) ?_
        exact hK _ _ ⟨_, v63503, h63505, v63507, h63509, v63511, h63513, g63903, g64002, rfl, y0, y1, fun _ => rfl, y3, y4, y5, y6, y7, y8, y9, y10, H63504, H63508, H63512, Mem.gc (A := [sg g32425 65 (0, 0) [] [(.int .i64 s56369), (.bool s56370), v56372, v56376, (.int .i64 s56379), (.int .i64 s56380), (.int .i64 s56381), (.int .i64 s56382)] [], h56373, h56377, hF, hz63000, [], [], [], (bif b 9 then sg g63903 65 (0, 0) [] [(.int .i64 0), (.bool false), (.slice none 0 0), (.slice none 0 0), (.int .i64 0), (.int .i64 0), (.int .i64 0), (.int .i64 0)] [] else []), (bif b 10 then sg g64002 71 (0, 0) [] [(.int .i64 0), (.slice none 0 0)] [] else [])]) (cat_cons rfl (cat_cons rfl (cat_cons rfl (cat_cons rfl (cat_cons rfl (cat_cons (off_ b5 rfl) (cat_cons (off_ b5 rfl) (cat_cons (off_ b5 rfl) (cat_cons (off_ b11 rfl) (cat_cons (off_ b12 rfl) rfl)))))))))) (Mem.pick [0, 1, 2, 3, 4, 1005, 1006, 1007, 5, 6] rfl hm64307)⟩
       ·
        intro b a w hI hbi hn hc K hK
        obtain ⟨vs, v63503, h63505, v63507, h63509, v63511, h63513, g63903, g64002, ha, y0, y1, y2, y3, y4, y5, y6, y7, y8, y9, y10, H63504, H63508, H63512, hm⟩ := hI
        subst ha
        have b1 : b 1 = true := hn 1 (da rfl)
        have b2 : b 2 = true := hn 2 (da rfl)
        have b4 : b 4 = false := later (j := 4) hc rfl (i := 3) (da rfl) hbi
        have b5 : b 5 = false := later (j := 5) hc rfl (i := 4) (da rfl) b4
        have b6 : b 6 = false := later (j := 6) hc rfl (i := 5) (da rfl) b5
        have b7 : b 7 = false := later (j := 7) hc rfl (i := 6) (da rfl) b6
        have b8 : b 8 = false := later (j := 8) hc rfl (i := 6) (da rfl) b6
        have b11 : b 11 = false := later (j := 11) hc rfl (i := 3) (da rfl) hbi
        have b12 : b 12 = false := later (j := 12) hc rfl (i := 3) (da rfl) hbi
        have hm64310 : Mem w0 w (cat [sg g32425 65 (0, 0) [] [(.int .i64 s56369), (.bool s56370), v56372, v56376, (.int .i64 s56379), (.int .i64 s56380), (.int .i64 s56381), (.int .i64 s56382)] [], h56373, h56377, hF, hz63000, (bif b 9 then sg g63903 65 (0, 0) [] [(.int .i64 0), (.bool false), (.slice none 0 0), (.slice none 0 0), (.int .i64 0), (.int .i64 0), (.int .i64 0), (.int .i64 0)] [] else []), (bif b 10 then sg g64002 71 (0, 0) [] [(.int .i64 0), (.slice none 0 0)] [] else [])]) := Mem.pick [0, 1, 2, 3, 4, 8, 9] rfl (Mem.cg (B := [sg g32425 65 (0, 0) [] [(.int .i64 s56369), (.bool s56370), v56372, v56376, (.int .i64 s56379), (.int .i64 s56380), (.int .i64 s56381), (.int .i64 s56382)] [], h56373, h56377, hF, hz63000, [], [], [], (bif b 9 then sg g63903 65 (0, 0) [] [(.int .i64 0), (.bool false), (.slice none 0 0), (.slice none 0 0), (.int .i64 0), (.int .i64 0), (.int .i64 0), (.int .i64 0)] [] else []), (bif b 10 then sg g64002 71 (0, 0) [] [(.int .i64 0), (.slice none 0 0)] [] else [])]) (cat_cons rfl (cat_cons rfl (cat_cons rfl (cat_cons rfl (cat_cons rfl (cat_cons (off_ b5 rfl) (cat_cons (off_ b5 rfl) (cat_cons (off_ b5 rfl) (cat_cons (off_ b11 rfl) (cat_cons (off_ b12 rfl) rfl)))))))))) hm)
        refine e_val (i := 3) hbi rfl rfl (v := (.pointer (some ((slA v2x0).add (Int.toNat s56389 * 2))))) (won rfl) rfl rfl (x_index (d := impl_RingAct.K) rfl slt_62 (ev (t := 45) (v := v2x0) rfl ((sel_on (p := (1, 45)) rfl b1).trans (y1 b1))) (ev (t := 46) (v := (.int .i64 s56389)) rfl ((sel_on (p := (2, 46)) rfl b2).trans (y2 b2))) H2x0 hg63301.1 hg63301.2) ?_
        exact hK _ _ ⟨_, v63503, h63505, v63507, h63509, v63511, h63513, g63903, g64002, rfl, y0, y1, y2, fun _ => rfl, y4, y5, y6, y7, y8, y9, y10, H63504, H63508, H63512, Mem.gc (A := [sg g32425 65 (0, 0) [] [(.int .i64 s56369), (.bool s56370), v56372, v56376, (.int .i64 s56379), (.int .i64 s56380), (.int .i64 s56381), (.int .i64 s56382)] [], h56373, h56377, hF, hz63000, [], [], [], (bif b 9 then sg g63903 65 (0, 0) [] [(.int .i64 0), (.bool false), (.slice none 0 0), (.slice none 0 0), (.int .i64 0), (.int .i64 0), (.int .i64 0), (.int .i64 0)] [] else []), (bif b 10 then sg g64002 71 (0, 0) [] [(.int .i64 0), (.slice none 0 0)] [] else [])]) (cat_cons rfl (cat_cons rfl (cat_cons rfl (cat_cons rfl (cat_cons rfl (cat_cons (off_ b5 rfl) (cat_cons (off_ b5 rfl) (cat_cons (off_ b5 rfl) (cat_cons (off_ b11 rfl) (cat_cons (off_ b12 rfl) rfl)))))))))) (Mem.pick [0, 1, 2, 3, 4, 1005, 1006, 1007, 5, 6] rfl hm64310)⟩
       ·
        intro b a w hI hbi hn hc K hK
        obtain ⟨vs, v63503, h63505, v63507, h63509, v63511, h63513, g63903, g64002, ha, y0, y1, y2, y3, y4, y5, y6, y7, y8, y9, y10, H63504, H63508, H63512, hm⟩ := hI
        subst ha
        have b3 : b 3 = true := hn 3 (da rfl)
        have b1 : b 1 = true := hc 3 _ rfl b3 1 (da rfl)
        have b2 : b 2 = true := hc 3 _ rfl b3 2 (da rfl)
        have b5 : b 5 = false := later (j := 5) hc rfl (i := 4) (da rfl) hbi
        have b6 : b 6 = false := later (j := 6) hc rfl (i := 5) (da rfl) b5
        have b7 : b 7 = false := later (j := 7) hc rfl (i := 6) (da rfl) b6
        have b8 : b 8 = false := later (j := 8) hc rfl (i := 6) (da rfl) b6
        have b11 : b 11 = false := later (j := 11) hc rfl (i := 4) (da rfl) hbi
        have b12 : b 12 = false := later (j := 12) hc rfl (i := 4) (da rfl) hbi
        have hm64313 : Mem w0 w (cat [sg g32425 65 (0, 0) [] [(.int .i64 s56369), (.bool s56370), v56372, v56376, (.int .i64 s56379), (.int .i64 s56380), (.int .i64 s56381), (.int .i64 s56382)] [], h56373, h56377, hF, hz63000, (bif b 9 then sg g63903 65 (0, 0) [] [(.int .i64 0), (.bool false), (.slice none 0 0), (.slice none 0 0), (.int .i64 0), (.int .i64 0), (.int .i64 0), (.int .i64 0)] [] else []), (bif b 10 then sg g64002 71 (0, 0) [] [(.int .i64 0), (.slice none 0 0)] [] else [])]) := Mem.pick [0, 1, 2, 3, 4, 8, 9] rfl (Mem.cg (B := [sg g32425 65 (0, 0) [] [(.int .i64 s56369), (.bool s56370), v56372, v56376, (.int .i64 s56379), (.int .i64 s56380), (.int .i64 s56381), (.int .i64 s56382)] [], h56373, h56377, hF, hz63000, [], [], [], (bif b 9 then sg g63903 65 (0, 0) [] [(.int .i64 0), (.bool false), (.slice none 0 0), (.slice none 0 0), (.int .i64 0), (.int .i64 0), (.int .i64 0), (.int .i64 0)] [] else []), (bif b 10 then sg g64002 71 (0, 0) [] [(.int .i64 0), (.slice none 0 0)] [] else [])]) (cat_cons rfl (cat_cons rfl (cat_cons rfl (cat_cons rfl (cat_cons rfl (cat_cons (off_ b5 rfl) (cat_cons (off_ b5 rfl) (cat_cons (off_ b5 rfl) (cat_cons (off_ b11 rfl) (cat_cons (off_ b12 rfl) rfl)))))))))) hm)
        refine e_val (i := 4) hbi rfl rfl (v := (.agg #[(.int .i64 (ix a2 s56389).Kind), (.int .i64 (ix a2 s56389).N)])) (won rfl) rfl rfl (x_loadN (vs := [(.int .i64 (ix a2 s56389).Kind), (.int .i64 (ix a2 s56389).N)]) rfl tyN_74 (ev (t := 47) (v := (.pointer (some ((slA v2x0).add (Int.toNat s56389 * 2))))) rfl ((sel_on (p := (3, 47)) rfl b3).trans (y3 b3))) (RdF.cells H2x0 hm64313 (Sub.trans hs (Sub.at_ (k := 3) rfl)) hg63301.1 hg63301.2)) ?_
        exact hK _ _ ⟨_, v63503, h63505, v63507, h63509, v63511, h63513, g63903, g64002, rfl, y0, y1, y2, y3, fun _ => rfl, y5, y6, y7, y8, y9, y10, H63504, H63508, H63512, Mem.gc (A := [sg g32425 65 (0, 0) [] [(.int .i64 s56369), (.bool s56370), v56372, v56376, (.int .i64 s56379), (.int .i64 s56380), (.int .i64 s56381), (.int .i64 s56382)] [], h56373, h56377, hF, hz63000, [], [], [], (bif b 9 then sg g63903 65 (0, 0) [] [(.int .i64 0), (.bool false), (.slice none 0 0), (.slice none 0 0), (.int .i64 0), (.int .i64 0), (.int .i64 0), (.int .i64 0)] [] else []), (bif b 10 then sg g64002 71 (0, 0) [] [(.int .i64 0), (.slice none 0 0)] [] else [])]) (cat_cons rfl (cat_cons rfl (cat_cons rfl (cat_cons rfl (cat_cons rfl (cat_cons (off_ b5 rfl) (cat_cons (off_ b5 rfl) (cat_cons (off_ b5 rfl) (cat_cons (off_ b11 rfl) (cat_cons (off_ b12 rfl) rfl)))))))))) (Mem.pick [0, 1, 2, 3, 4, 1005, 1006, 1007, 5, 6] rfl hm64313)⟩
       ·
        intro b a w hI hbi hn hc K hK
        obtain ⟨vs, v63503, h63505, v63507, h63509, v63511, h63513, g63903, g64002, ha, y0, y1, y2, y3, y4, y5, y6, y7, y8, y9, y10, H63504, H63508, H63512, hm⟩ := hI
        subst ha
        have b0 : b 0 = true := hn 0 (da rfl)
        have b4 : b 4 = true := hn 4 (da rfl)
        have b3 : b 3 = true := hc 4 _ rfl b4 3 (da rfl)
        have b1 : b 1 = true := hc 3 _ rfl b3 1 (da rfl)
        have b2 : b 2 = true := hc 3 _ rfl b3 2 (da rfl)
        have b6 : b 6 = false := later (j := 6) hc rfl (i := 5) (da rfl) hbi
        have b7 : b 7 = false := later (j := 7) hc rfl (i := 6) (da rfl) b6
        have b8 : b 8 = false := later (j := 8) hc rfl (i := 6) (da rfl) b6
        have b11 : b 11 = false := later (j := 11) hc rfl (i := 5) (da rfl) hbi
        have b12 : b 12 = false := later (j := 12) hc rfl (i := 5) (da rfl) hbi
        have hm64316 : Mem w0 w (cat [sg g32425 65 (0, 0) [] [(.int .i64 s56369), (.bool s56370), v56372, v56376, (.int .i64 s56379), (.int .i64 s56380), (.int .i64 s56381), (.int .i64 s56382)] [], h56373, h56377, hF, hz63000, (bif b 9 then sg g63903 65 (0, 0) [] [(.int .i64 0), (.bool false), (.slice none 0 0), (.slice none 0 0), (.int .i64 0), (.int .i64 0), (.int .i64 0), (.int .i64 0)] [] else []), (bif b 10 then sg g64002 71 (0, 0) [] [(.int .i64 0), (.slice none 0 0)] [] else [])]) := Mem.pick [0, 1, 2, 3, 4, 8, 9] rfl (Mem.cg (B := [sg g32425 65 (0, 0) [] [(.int .i64 s56369), (.bool s56370), v56372, v56376, (.int .i64 s56379), (.int .i64 s56380), (.int .i64 s56381), (.int .i64 s56382)] [], h56373, h56377, hF, hz63000, [], [], [], (bif b 9 then sg g63903 65 (0, 0) [] [(.int .i64 0), (.bool false), (.slice none 0 0), (.slice none 0 0), (.int .i64 0), (.int .i64 0), (.int .i64 0), (.int .i64 0)] [] else []), (bif b 10 then sg g64002 71 (0, 0) [] [(.int .i64 0), (.slice none 0 0)] [] else [])]) (cat_cons rfl (cat_cons rfl (cat_cons rfl (cat_cons rfl (cat_cons rfl (cat_cons (off_ hbi rfl) (cat_cons (off_ hbi rfl) (cat_cons (off_ hbi rfl) (cat_cons (off_ b11 rfl) (cat_cons (off_ b12 rfl) rfl)))))))))) hm)
        refine e_call (i := 5) hbi rfl rfl (won rfl) rfl rfl (x_call rfl rfl cl_77 (map_lit (map_cons (ev (t := 44) (v := (.agg #[(.int .i64 s56369), (.bool s56370), v56372, v56376, (.int .i64 s56379), (.int .i64 s56380), (.int .i64 s56381), (.int .i64 s56382)])) rfl ((sel_on (p := (0, 44)) rfl b0).trans (y0 b0))) (map_cons (ev (t := 48) (v := (.agg #[(.int .i64 (ix a2 s56389).Kind), (.int .i64 (ix a2 s56389).N)])) rfl ((sel_on (p := (4, 48)) rfl b4).trans (y4 b4))) map_nil)))) (spec_l13Step_ok F (hR := (cat [h56373, h56377])) (hF := cat [sg g32425 65 (0, 0) [] [(.int .i64 s56369), (.bool s56370), v56372, v56376, (.int .i64 s56379), (.int .i64 s56380), (.int .i64 s56381), (.int .i64 s56382)] [], h56373, h56377, hF, hz63000, (bif b 9 then sg g63903 65 (0, 0) [] [(.int .i64 0), (.bool false), (.slice none 0 0), (.slice none 0 0), (.int .i64 0), (.int .i64 0), (.int .i64 0), (.int .i64 0)] [] else []), (bif b 10 then sg g64002 71 (0, 0) [] [(.int .i64 0), (.slice none 0 0)] [] else [])]) (impl_Ring.mk s56369 s56370 s56371 s56375 s56379 s56380 s56381 s56382) (impl_RingAct.mk (ix a2 s56389).Kind (ix a2 s56389).N) ((H56374.rd w0).mono (Sub.at_ (k := 0) rfl)) ((H56378.rd w0).mono (Sub.at_ (k := 1) rfl)) (subc (Sub.at_ (k := 1) rfl) (subc (Sub.at_ (k := 2) rfl) subn)) (Mem.one hm64316) hr63501) ?_
        rintro e w63514 ⟨v63503, h63505, v63507, h63509, v63511, h63513, rfl, H63504, H63508, H63512, hm63515⟩
        refine ⟨_, rfl, ?_⟩
        replace hm63515 : Mem w0 w63514 (cat [h63505, h63509, h63513, sg g32425 65 (0, 0) [] [(.int .i64 s56369), (.bool s56370), v56372, v56376, (.int .i64 s56379), (.int .i64 s56380), (.int .i64 s56381), (.int .i64 s56382)] [], h56373, h56377, hF, hz63000, (bif b 9 then sg g63903 65 (0, 0) [] [(.int .i64 0), (.bool false), (.slice none 0 0), (.slice none 0 0), (.int .i64 0), (.int .i64 0), (.int .i64 0), (.int .i64 0)] [] else []), (bif b 10 then sg g64002 71 (0, 0) [] [(.int .i64 0), (.slice none 0 0)] [] else [])]) := Mem.ung [h63505, h63509, h63513] [sg g32425 65 (0, 0) [] [(.int .i64 s56369), (.bool s56370), v56372, v56376, (.int .i64 s56379), (.int .i64 s56380), (.int .i64 s56381), (.int .i64 s56382)] [], h56373, h56377, hF, hz63000, (bif b 9 then sg g63903 65 (0, 0) [] [(.int .i64 0), (.bool false), (.slice none 0 0), (.slice none 0 0), (.int .i64 0), (.int .i64 0), (.int .i64 0), (.int .i64 0)] [] else []), (bif b 10 then sg g64002 71 (0, 0) [] [(.int .i64 0), (.slice none 0 0)] [] else [])] hm63515
        exact hK _ _ ⟨_, v63503, h63505, v63507, h63509, v63511, h63513, g63903, g64002, rfl, y0, y1, y2, y3, y4, fun _ => rfl, fun hb => ab b6 hb, fun hb => ab b7 hb, fun hb => ab b8 hb, y9, y10, fun _ => H63504, fun _ => H63508, fun _ => H63512, Mem.gc (A := [sg g32425 65 (0, 0) [] [(.int .i64 s56369), (.bool s56370), v56372, v56376, (.int .i64 s56379), (.int .i64 s56380), (.int .i64 s56381), (.int .i64 s56382)] [], h56373, h56377, hF, hz63000, h63505, h63509, h63513, (bif b 9 then sg g63903 65 (0, 0) [] [(.int .i64 0), (.bool false), (.slice none 0 0), (.slice none 0 0), (.int .i64 0), (.int .i64 0), (.int .i64 0), (.int .i64 0)] [] else []), (bif b 10 then sg g64002 71 (0, 0) [] [(.int .i64 0), (.slice none 0 0)] [] else [])]) (cat_cons rfl (cat_cons rfl (cat_cons rfl (cat_cons rfl (cat_cons rfl (cat_cons (on_ rfl rfl) (cat_cons (on_ rfl rfl) (cat_cons (on_ rfl rfl) (cat_cons (off_ b11 rfl) (cat_cons (off_ b12 rfl) rfl)))))))))) (Mem.pick [3, 4, 5, 6, 7, 0, 1, 2, 8, 9] rfl hm63515)⟩
       ·
        intro b a w hI hbi hn hc K hK
        obtain ⟨vs, v63503, h63505, v63507, h63509, v63511, h63513, g63903, g64002, ha, y0, y1, y2, y3, y4, y5, y6, y7, y8, y9, y10, H63504, H63508, H63512, hm⟩ := hI
        subst ha
        have b5 : b 5 = true := hn 5 (da rfl)
        have b0 : b 0 = true := hc 5 _ rfl b5 0 (da rfl)
        have b4 : b 4 = true := hc 5 _ rfl b5 4 (da rfl)
        have b3 : b 3 = true := hc 4 _ rfl b4 3 (da rfl)
        have b1 : b 1 = true := hc 3 _ rfl b3 1 (da rfl)
        have b2 : b 2 = true := hc 3 _ rfl b3 2 (da rfl)
        have b7 : b 7 = false := later (j := 7) hc rfl (i := 6) (da rfl) hbi
        have b8 : b 8 = false := later (j := 8) hc rfl (i := 6) (da rfl) hbi
        have b11 : b 11 = false := later (j := 11) hc rfl (i := 6) (da rfl) hbi
        have b12 : b 12 = false := later (j := 12) hc rfl (i := 6) (da rfl) hbi
        have H63504 := H63504 b5
        have H63508 := H63508 b5
        have H63512 := H63512 b5
        have hm64319 : Mem w0 w (cat [sg g32425 65 (0, 0) [] [(.int .i64 s56369), (.bool s56370), v56372, v56376, (.int .i64 s56379), (.int .i64 s56380), (.int .i64 s56381), (.int .i64 s56382)] [], h56373, h56377, hF, hz63000, h63505, h63509, h63513, (bif b 9 then sg g63903 65 (0, 0) [] [(.int .i64 0), (.bool false), (.slice none 0 0), (.slice none 0 0), (.int .i64 0), (.int .i64 0), (.int .i64 0), (.int .i64 0)] [] else []), (bif b 10 then sg g64002 71 (0, 0) [] [(.int .i64 0), (.slice none 0 0)] [] else [])]) := Mem.pick [0, 1, 2, 3, 4, 5, 6, 7, 8, 9] rfl (Mem.cg (B := [sg g32425 65 (0, 0) [] [(.int .i64 s56369), (.bool s56370), v56372, v56376, (.int .i64 s56379), (.int .i64 s56380), (.int .i64 s56381), (.int .i64 s56382)] [], h56373, h56377, hF, hz63000, h63505, h63509, h63513, (bif b 9 then sg g63903 65 (0, 0) [] [(.int .i64 0), (.bool false), (.slice none 0 0), (.slice none 0 0), (.int .i64 0), (.int .i64 0), (.int .i64 0), (.int .i64 0)] [] else []), (bif b 10 then sg g64002 71 (0, 0) [] [(.int .i64 0), (.slice none 0 0)] [] else [])]) (cat_cons rfl (cat_cons rfl (cat_cons rfl (cat_cons rfl (cat_cons rfl (cat_cons (on_ b5 rfl) (cat_cons (on_ b5 rfl) (cat_cons (on_ b5 rfl) (cat_cons (off_ b11 rfl) (cat_cons (off_ b12 rfl) rfl)))))))))) hm)
        refine e_val (i := 6) hbi rfl rfl (v := (.tuple #[(.agg #[(.int .i64 r63501.1.Size), (.bool r63501.1.Up), v63503, v63507, (.int .i64 r63501.1.Lost), (.int .i64 r63501.1.Pending), (.int .i64 r63501.1.Every), (.int .i64 r63501.1.Signals)]), (.agg #[(.int .i64 r63501.2.Code), v63511])])) (won rfl) rfl rfl (x_move rfl (ev (t := 49) (v := (.tuple #[(.agg #[(.int .i64 r63501.1.Size), (.bool r63501.1.Up), v63503, v63507, (.int .i64 r63501.1.Lost), (.int .i64 r63501.1.Pending), (.int .i64 r63501.1.Every), (.int .i64 r63501.1.Signals)]), (.agg #[(.int .i64 r63501.2.Code), v63511])])) rfl ((sel_on (p := (5, 49)) rfl b5).trans (y5 b5)))) ?_
        exact hK _ _ ⟨_, v63503, h63505, v63507, h63509, v63511, h63513, g63903, g64002, rfl, y0, y1, y2, y3, y4, y5, fun _ => rfl, y7, y8, y9, y10, fun _ => H63504, fun _ => H63508, fun _ => H63512, Mem.gc (A := [sg g32425 65 (0, 0) [] [(.int .i64 s56369), (.bool s56370), v56372, v56376, (.int .i64 s56379), (.int .i64 s56380), (.int .i64 s56381), (.int .i64 s56382)] [], h56373, h56377, hF, hz63000, h63505, h63509, h63513, (bif b 9 then sg g63903 65 (0, 0) [] [(.int .i64 0), (.bool false), (.slice none 0 0), (.slice none 0 0), (.int .i64 0), (.int .i64 0), (.int .i64 0), (.int .i64 0)] [] else []), (bif b 10 then sg g64002 71 (0, 0) [] [(.int .i64 0), (.slice none 0 0)] [] else [])]) (cat_cons rfl (cat_cons rfl (cat_cons rfl (cat_cons rfl (cat_cons rfl (cat_cons (on_ b5 rfl) (cat_cons (on_ b5 rfl) (cat_cons (on_ b5 rfl) (cat_cons (off_ b11 rfl) (cat_cons (off_ b12 rfl) rfl)))))))))) (Mem.pick [0, 1, 2, 3, 4, 5, 6, 7, 8, 9] rfl hm64319)⟩
       ·
        intro b a w hI hbi hn hc K hK
        obtain ⟨vs, v63503, h63505, v63507, h63509, v63511, h63513, g63903, g64002, ha, y0, y1, y2, y3, y4, y5, y6, y7, y8, y9, y10, H63504, H63508, H63512, hm⟩ := hI
        subst ha
        have b6 : b 6 = true := hn 6 (da rfl)
        have b5 : b 5 = true := hc 6 _ rfl b6 5 (da rfl)
        have b0 : b 0 = true := hc 5 _ rfl b5 0 (da rfl)
        have b4 : b 4 = true := hc 5 _ rfl b5 4 (da rfl)
        have b3 : b 3 = true := hc 4 _ rfl b4 3 (da rfl)
        have b1 : b 1 = true := hc 3 _ rfl b3 1 (da rfl)
        have b2 : b 2 = true := hc 3 _ rfl b3 2 (da rfl)
        have b11 : b 11 = false := later (j := 11) hc rfl (i := 7) (da rfl) hbi
        have b12 : b 12 = false := later (j := 12) hc rfl (i := 7) (da rfl) hbi
        have H63504 := H63504 b5
        have H63508 := H63508 b5
        have H63512 := H63512 b5
        have hm64322 : Mem w0 w (cat [sg g32425 65 (0, 0) [] [(.int .i64 s56369), (.bool s56370), v56372, v56376, (.int .i64 s56379), (.int .i64 s56380), (.int .i64 s56381), (.int .i64 s56382)] [], h56373, h56377, hF, hz63000, h63505, h63509, h63513, (bif b 9 then sg g63903 65 (0, 0) [] [(.int .i64 0), (.bool false), (.slice none 0 0), (.slice none 0 0), (.int .i64 0), (.int .i64 0), (.int .i64 0), (.int .i64 0)] [] else []), (bif b 10 then sg g64002 71 (0, 0) [] [(.int .i64 0), (.slice none 0 0)] [] else [])]) := Mem.pick [0, 1, 2, 3, 4, 5, 6, 7, 8, 9] rfl (Mem.cg (B := [sg g32425 65 (0, 0) [] [(.int .i64 s56369), (.bool s56370), v56372, v56376, (.int .i64 s56379), (.int .i64 s56380), (.int .i64 s56381), (.int .i64 s56382)] [], h56373, h56377, hF, hz63000, h63505, h63509, h63513, (bif b 9 then sg g63903 65 (0, 0) [] [(.int .i64 0), (.bool false), (.slice none 0 0), (.slice none 0 0), (.int .i64 0), (.int .i64 0), (.int .i64 0), (.int .i64 0)] [] else []), (bif b 10 then sg g64002 71 (0, 0) [] [(.int .i64 0), (.slice none 0 0)] [] else [])]) (cat_cons rfl (cat_cons rfl (cat_cons rfl (cat_cons rfl (cat_cons rfl (cat_cons (on_ b5 rfl) (cat_cons (on_ b5 rfl) (cat_cons (on_ b5 rfl) (cat_cons (off_ b11 rfl) (cat_cons (off_ b12 rfl) rfl)))))))))) hm)
        refine e_val (i := 7) hbi rfl rfl (v := (.agg #[(.int .i64 r63501.1.Size), (.bool r63501.1.Up), v63503, v63507, (.int .i64 r63501.1.Lost), (.int .i64 r63501.1.Pending), (.int .i64 r63501.1.Every), (.int .i64 r63501.1.Signals)])) (won rfl) rfl rfl (x_extract rfl (ev (t := 43) (v := (.tuple #[(.agg #[(.int .i64 r63501.1.Size), (.bool r63501.1.Up), v63503, v63507, (.int .i64 r63501.1.Lost), (.int .i64 r63501.1.Pending), (.int .i64 r63501.1.Every), (.int .i64 r63501.1.Signals)]), (.agg #[(.int .i64 r63501.2.Code), v63511])])) rfl ((sel_on (p := (6, 43)) rfl b6).trans (y6 b6))) rfl) ?_
        exact hK _ _ ⟨_, v63503, h63505, v63507, h63509, v63511, h63513, g63903, g64002, rfl, y0, y1, y2, y3, y4, y5, y6, fun _ => rfl, y8, y9, y10, fun _ => H63504, fun _ => H63508, fun _ => H63512, Mem.gc (A := [sg g32425 65 (0, 0) [] [(.int .i64 s56369), (.bool s56370), v56372, v56376, (.int .i64 s56379), (.int .i64 s56380), (.int .i64 s56381), (.int .i64 s56382)] [], h56373, h56377, hF, hz63000, h63505, h63509, h63513, (bif b 9 then sg g63903 65 (0, 0) [] [(.int .i64 0), (.bool false), (.slice none 0 0), (.slice none 0 0), (.int .i64 0), (.int .i64 0), (.int .i64 0), (.int .i64 0)] [] else []), (bif b 10 then sg g64002 71 (0, 0) [] [(.int .i64 0), (.slice none 0 0)] [] else [])]) (cat_cons rfl (cat_cons rfl (cat_cons rfl (cat_cons rfl (cat_cons rfl (cat_cons (on_ b5 rfl) (cat_cons (on_ b5 rfl) (cat_cons (on_ b5 rfl) (cat_cons (off_ b11 rfl) (cat_cons (off_ b12 rfl) rfl)))))))))) (Mem.pick [0, 1, 2, 3, 4, 5, 6, 7, 8, 9] rfl hm64322)⟩
       ·
        intro b a w hI hbi hn hc K hK
        obtain ⟨vs, v63503, h63505, v63507, h63509, v63511, h63513, g63903, g64002, ha, y0, y1, y2, y3, y4, y5, y6, y7, y8, y9, y10, H63504, H63508, H63512, hm⟩ := hI
        subst ha
        have b6 : b 6 = true := hn 6 (da rfl)
        have b5 : b 5 = true := hc 6 _ rfl b6 5 (da rfl)
        have b0 : b 0 = true := hc 5 _ rfl b5 0 (da rfl)
        have b4 : b 4 = true := hc 5 _ rfl b5 4 (da rfl)
        have b3 : b 3 = true := hc 4 _ rfl b4 3 (da rfl)
        have b1 : b 1 = true := hc 3 _ rfl b3 1 (da rfl)
        have b2 : b 2 = true := hc 3 _ rfl b3 2 (da rfl)
        have b12 : b 12 = false := later (j := 12) hc rfl (i := 8) (da rfl) hbi
        have H63504 := H63504 b5
        have H63508 := H63508 b5
        have H63512 := H63512 b5
        have hm64325 : Mem w0 w (cat [sg g32425 65 (0, 0) [] [(.int .i64 s56369), (.bool s56370), v56372, v56376, (.int .i64 s56379), (.int .i64 s56380), (.int .i64 s56381), (.int .i64 s56382)] [], h56373, h56377, hF, hz63000, h63505, h63509, h63513, (bif b 11 then sg g63903 65 (0, 0) [] [(.int .i64 r63501.1.Size), (.bool r63501.1.Up), v63503, v63507, (.int .i64 r63501.1.Lost), (.int .i64 r63501.1.Pending), (.int .i64 r63501.1.Every), (.int .i64 r63501.1.Signals)] [] else (bif b 9 then sg g63903 65 (0, 0) [] [(.int .i64 0), (.bool false), (.slice none 0 0), (.slice none 0 0), (.int .i64 0), (.int .i64 0), (.int .i64 0), (.int .i64 0)] [] else [])), (bif b 10 then sg g64002 71 (0, 0) [] [(.int .i64 0), (.slice none 0 0)] [] else [])]) := Mem.pick [0, 1, 2, 3, 4, 5, 6, 7, 8, 9] rfl (Mem.cg (B := [sg g32425 65 (0, 0) [] [(.int .i64 s56369), (.bool s56370), v56372, v56376, (.int .i64 s56379), (.int .i64 s56380), (.int .i64 s56381), (.int .i64 s56382)] [], h56373, h56377, hF, hz63000, h63505, h63509, h63513, (bif b 11 then sg g63903 65 (0, 0) [] [(.int .i64 r63501.1.Size), (.bool r63501.1.Up), v63503, v63507, (.int .i64 r63501.1.Lost), (.int .i64 r63501.1.Pending), (.int .i64 r63501.1.Every), (.int .i64 r63501.1.Signals)] [] else (bif b 9 then sg g63903 65 (0, 0) [] [(.int .i64 0), (.bool false), (.slice none 0 0), (.slice none 0 0), (.int .i64 0), (.int .i64 0), (.int .i64 0), (.int .i64 0)] [] else [])), (bif b 10 then sg g64002 71 (0, 0) [] [(.int .i64 0), (.slice none 0 0)] [] else [])]) (cat_cons rfl (cat_cons rfl (cat_cons rfl (cat_cons rfl (cat_cons rfl (cat_cons (on_ b5 rfl) (cat_cons (on_ b5 rfl) (cat_cons (on_ b5 rfl) (cat_cons rfl (cat_cons (off_ b12 rfl) rfl)))))))))) hm)
        refine e_val (i := 8) hbi rfl rfl (v := (.agg #[(.int .i64 r63501.2.Code), v63511])) (won rfl) rfl rfl (x_extract rfl (ev (t := 43) (v := (.tuple #[(.agg #[(.int .i64 r63501.1.Size), (.bool r63501.1.Up), v63503, v63507, (.int .i64 r63501.1.Lost), (.int .i64 r63501.1.Pending), (.int .i64 r63501.1.Every), (.int .i64 r63501.1.Signals)]), (.agg #[(.int .i64 r63501.2.Code), v63511])])) rfl ((sel_on (p := (6, 43)) rfl b6).trans (y6 b6))) rfl) ?_
        exact hK _ _ ⟨_, v63503, h63505, v63507, h63509, v63511, h63513, g63903, g64002, rfl, y0, y1, y2, y3, y4, y5, y6, y7, fun _ => rfl, y9, y10, fun _ => H63504, fun _ => H63508, fun _ => H63512, Mem.gc (A := [sg g32425 65 (0, 0) [] [(.int .i64 s56369), (.bool s56370), v56372, v56376, (.int .i64 s56379), (.int .i64 s56380), (.int .i64 s56381), (.int .i64 s56382)] [], h56373, h56377, hF, hz63000, h63505, h63509, h63513, (bif b 11 then sg g63903 65 (0, 0) [] [(.int .i64 r63501.1.Size), (.bool r63501.1.Up), v63503, v63507, (.int .i64 r63501.1.Lost), (.int .i64 r63501.1.Pending), (.int .i64 r63501.1.Every), (.int .i64 r63501.1.Signals)] [] else (bif b 9 then sg g63903 65 (0, 0) [] [(.int .i64 0), (.bool false), (.slice none 0 0), (.slice none 0 0), (.int .i64 0), (.int .i64 0), (.int .i64 0), (.int .i64 0)] [] else [])), (bif b 10 then sg g64002 71 (0, 0) [] [(.int .i64 0), (.slice none 0 0)] [] else [])]) (cat_cons rfl (cat_cons rfl (cat_cons rfl (cat_cons rfl (cat_cons rfl (cat_cons (on_ b5 rfl) (cat_cons (on_ b5 rfl) (cat_cons (on_ b5 rfl) (cat_cons rfl (cat_cons (off_ b12 rfl) rfl)))))))))) (Mem.pick [0, 1, 2, 3, 4, 5, 6, 7, 8, 9] rfl hm64325)⟩
       ·
        intro b a w hI hbi hn hc K hK
        obtain ⟨vs, v63503, h63505, v63507, h63509, v63511, h63513, g63903, g64002, ha, y0, y1, y2, y3, y4, y5, y6, y7, y8, y9, y10, H63504, H63508, H63512, hm⟩ := hI
        subst ha
        have b11 : b 11 = false := later (j := 11) hc rfl (i := 9) (da rfl) hbi
        have b12 : b 12 = false := later (j := 12) hc rfl (i := 9) (da rfl) hbi
        have hm64328 : Mem w0 w (cat [sg g32425 65 (0, 0) [] [(.int .i64 s56369), (.bool s56370), v56372, v56376, (.int .i64 s56379), (.int .i64 s56380), (.int .i64 s56381), (.int .i64 s56382)] [], h56373, h56377, hF, hz63000, (bif b 5 then h63505 else []), (bif b 5 then h63509 else []), (bif b 5 then h63513 else []), (bif b 10 then sg g64002 71 (0, 0) [] [(.int .i64 0), (.slice none 0 0)] [] else [])]) := Mem.pick [0, 1, 2, 3, 4, 5, 6, 7, 9] rfl (Mem.cg (B := [sg g32425 65 (0, 0) [] [(.int .i64 s56369), (.bool s56370), v56372, v56376, (.int .i64 s56379), (.int .i64 s56380), (.int .i64 s56381), (.int .i64 s56382)] [], h56373, h56377, hF, hz63000, (bif b 5 then h63505 else []), (bif b 5 then h63509 else []), (bif b 5 then h63513 else []), [], (bif b 10 then sg g64002 71 (0, 0) [] [(.int .i64 0), (.slice none 0 0)] [] else [])]) (cat_cons rfl (cat_cons rfl (cat_cons rfl (cat_cons rfl (cat_cons rfl (cat_cons rfl (cat_cons rfl (cat_cons rfl (cat_cons (off_ b11 (off_ hbi rfl)) (cat_cons (off_ b12 rfl) rfl)))))))))) hm)
        refine e_exv (i := 9) hbi rfl rfl (won rfl) rfl rfl (e_alloc (vs := [(.int .i64 0), (.bool false), (.slice none 0 0), (.slice none 0 0), (.int .i64 0), (.int .i64 0), (.int .i64 0), (.int .i64 0)]) rfl zt_65 rfl hm64328) ?_
        rintro g63903 w63904 hm63905
        exact hK _ _ ⟨_, v63503, h63505, v63507, h63509, v63511, h63513, g63903, g64002, rfl, y0, y1, y2, y3, y4, y5, y6, y7, y8, fun _ => rfl, y10, H63504, H63508, H63512, Mem.gc (A := [sg g32425 65 (0, 0) [] [(.int .i64 s56369), (.bool s56370), v56372, v56376, (.int .i64 s56379), (.int .i64 s56380), (.int .i64 s56381), (.int .i64 s56382)] [], h56373, h56377, hF, hz63000, (bif b 5 then h63505 else []), (bif b 5 then h63509 else []), (bif b 5 then h63513 else []), sg g63903 65 (0, 0) [] [(.int .i64 0), (.bool false), (.slice none 0 0), (.slice none 0 0), (.int .i64 0), (.int .i64 0), (.int .i64 0), (.int .i64 0)] [], (bif b 10 then sg g64002 71 (0, 0) [] [(.int .i64 0), (.slice none 0 0)] [] else [])]) (cat_cons rfl (cat_cons rfl (cat_cons rfl (cat_cons rfl (cat_cons rfl (cat_cons rfl (cat_cons rfl (cat_cons rfl (cat_cons (off_ b11 (on_ rfl rfl)) (cat_cons (off_ b12 rfl) rfl)))))))))) (Mem.pick [1, 2, 3, 4, 5, 6, 7, 8, 0, 9] rfl hm63905)⟩
       ·
        intro b a w hI hbi hn hc K hK
        obtain ⟨vs, v63503, h63505, v63507, h63509, v63511, h63513, g63903, g64002, ha, y0, y1, y2, y3, y4, y5, y6, y7, y8, y9, y10, H63504, H63508, H63512, hm⟩ := hI
        subst ha
        have b11 : b 11 = false := later (j := 11) hc rfl (i := 10) (da rfl) hbi
        have b12 : b 12 = false := later (j := 12) hc rfl (i := 10) (da rfl) hbi
        have hm64331 : Mem w0 w (cat [sg g32425 65 (0, 0) [] [(.int .i64 s56369), (.bool s56370), v56372, v56376, (.int .i64 s56379), (.int .i64 s56380), (.int .i64 s56381), (.int .i64 s56382)] [], h56373, h56377, hF, hz63000, (bif b 5 then h63505 else []), (bif b 5 then h63509 else []), (bif b 5 then h63513 else []), (bif b 9 then sg g63903 65 (0, 0) [] [(.int .i64 0), (.bool false), (.slice none 0 0), (.slice none 0 0), (.int .i64 0), (.int .i64 0), (.int .i64 0), (.int .i64 0)] [] else [])]) := Mem.pick [0, 1, 2, 3, 4, 5, 6, 7, 8] rfl (Mem.cg (B := [sg g32425 65 (0, 0) [] [(.int .i64 s56369), (.bool s56370), v56372, v56376, (.int .i64 s56379), (.int .i64 s56380), (.int .i64 s56381), (.int .i64 s56382)] [], h56373, h56377, hF, hz63000, (bif b 5 then h63505 else []), (bif b 5 then h63509 else []), (bif b 5 then h63513 else []), (bif b 9 then sg g63903 65 (0, 0) [] [(.int .i64 0), (.bool false), (.slice none 0 0), (.slice none 0 0), (.int .i64 0), (.int .i64 0), (.int .i64 0), (.int .i64 0)] [] else []), []]) (cat_cons rfl (cat_cons rfl (cat_cons rfl (cat_cons rfl (cat_cons rfl (cat_cons rfl (cat_cons rfl (cat_cons rfl (cat_cons (off_ b11 rfl) (cat_cons (off_ b12 (off_ hbi rfl)) rfl)))))))))) hm)
        refine e_exv (i := 10) hbi rfl rfl (won rfl) rfl rfl (e_alloc (vs := [(.int .i64 0), (.slice none 0 0)]) rfl zt_71 rfl hm64331) ?_
        rintro g64002 w64003 hm64004
        exact hK _ _ ⟨_, v63503, h63505, v63507, h63509, v63511, h63513, g63903, g64002, rfl, y0, y1, y2, y3, y4, y5, y6, y7, y8, y9, fun _ => rfl, H63504, H63508, H63512, Mem.gc (A := [sg g32425 65 (0, 0) [] [(.int .i64 s56369), (.bool s56370), v56372, v56376, (.int .i64 s56379), (.int .i64 s56380), (.int .i64 s56381), (.int .i64 s56382)] [], h56373, h56377, hF, hz63000, (bif b 5 then h63505 else []), (bif b 5 then h63509 else []), (bif b 5 then h63513 else []), (bif b 9 then sg g63903 65 (0, 0) [] [(.int .i64 0), (.bool false), (.slice none 0 0), (.slice none 0 0), (.int .i64 0), (.int .i64 0), (.int .i64 0), (.int .i64 0)] [] else []), sg g64002 71 (0, 0) [] [(.int .i64 0), (.slice none 0 0)] []]) (cat_cons rfl (cat_cons rfl (cat_cons rfl (cat_cons rfl (cat_cons rfl (cat_cons rfl (cat_cons rfl (cat_cons rfl (cat_cons (off_ b11 rfl) (cat_cons (off_ b12 (on_ rfl rfl)) rfl)))))))))) (Mem.pick [1, 2, 3, 4, 5, 6, 7, 8, 9, 0] rfl hm64004)⟩
       ·
        intro b a w hI hbi hn hc K hK
        obtain ⟨vs, v63503, h63505, v63507, h63509, v63511, h63513, g63903, g64002, ha, y0, y1, y2, y3, y4, y5, y6, y7, y8, y9, y10, H63504, H63508, H63512, hm⟩ := hI
        subst ha
        have b0 : b 0 = true := hn 0 (da rfl)
        have b1 : b 1 = true := hn 1 (da rfl)
        have b2 : b 2 = true := hn 2 (da rfl)
        have b3 : b 3 = true := hn 3 (da rfl)
        have b4 : b 4 = true := hn 4 (da rfl)
        have b5 : b 5 = true := hn 5 (da rfl)
        have b6 : b 6 = true := hn 6 (da rfl)
        have b7 : b 7 = true := hn 7 (da rfl)
        have b9 : b 9 = true := hn 9 (da rfl)
        have b10 : b 10 = true := hn 10 (da rfl)
        have b12 : b 12 = false := later (j := 12) hc rfl (i := 11) (da rfl) hbi
        have H63504 := H63504 b5
        have H63508 := H63508 b5
        have H63512 := H63512 b5
        have hm64334 : Mem w0 w (cat [sg g32425 65 (0, 0) [] [(.int .i64 s56369), (.bool s56370), v56372, v56376, (.int .i64 s56379), (.int .i64 s56380), (.int .i64 s56381), (.int .i64 s56382)] [], h56373, h56377, hF, hz63000, h63505, h63509, h63513, sg g63903 65 (0, 0) [] [(.int .i64 0), (.bool false), (.slice none 0 0), (.slice none 0 0), (.int .i64 0), (.int .i64 0), (.int .i64 0), (.int .i64 0)] [], sg g64002 71 (0, 0) [] [(.int .i64 0), (.slice none 0 0)] []]) := Mem.pick [0, 1, 2, 3, 4, 5, 6, 7, 8, 9] rfl (Mem.cg (B := [sg g32425 65 (0, 0) [] [(.int .i64 s56369), (.bool s56370), v56372, v56376, (.int .i64 s56379), (.int .i64 s56380), (.int .i64 s56381), (.int .i64 s56382)] [], h56373, h56377, hF, hz63000, h63505, h63509, h63513, sg g63903 65 (0, 0) [] [(.int .i64 0), (.bool false), (.slice none 0 0), (.slice none 0 0), (.int .i64 0), (.int .i64 0), (.int .i64 0), (.int .i64 0)] [], sg g64002 71 (0, 0) [] [(.int .i64 0), (.slice none 0 0)] []]) (cat_cons rfl (cat_cons rfl (cat_cons rfl (cat_cons rfl (cat_cons rfl (cat_cons (on_ b5 rfl) (cat_cons (on_ b5 rfl) (cat_cons (on_ b5 rfl) (cat_cons (off_ hbi (on_ b9 rfl)) (cat_cons (off_ b12 (on_ b10 rfl)) rfl)))))))))) hm)
        refine e_exs (i := 11) hbi rfl (won rfl) rfl (e_store (vs := [(.int .i64 r63501.1.Size), (.bool r63501.1.Up), v63503, v63507, (.int .i64 r63501.1.Lost), (.int .i64 r63501.1.Pending), (.int .i64 r63501.1.Every), (.int .i64 r63501.1.Signals)]) (o' := 0) (j := 0) rfl sz_65 (ev (t := 13) (v := (.pointer (some ⟨g63903, 0, none⟩))) rfl ((sel_on (p := (9, 13)) rfl b9).trans (y9 b9))) (ev (t := 50) (v := (.agg #[(.int .i64 r63501.1.Size), (.bool r63501.1.Up), v63503, v63507, (.int .i64 r63501.1.Lost), (.int .i64 r63501.1.Pending), (.int .i64 r63501.1.Every), (.int .i64 r63501.1.Signals)])) rfl ((sel_on (p := (7, 50)) rfl b7).trans (y7 b7))) rfl (one_cons rfl (one_cons rfl (one_cons (IsSl.one (H63504).sl) (one_cons (IsSl.one (H63508).sl) (one_cons rfl (one_cons rfl (one_cons rfl (one_cons rfl one_nil)))))))) hm64334 (k := 8) rfl rfl rfl) ?_
        intro w64101 hm64102
        replace hm64102 : Mem w0 w64101 (cat [sg g32425 65 (0, 0) [] [(.int .i64 s56369), (.bool s56370), v56372, v56376, (.int .i64 s56379), (.int .i64 s56380), (.int .i64 s56381), (.int .i64 s56382)] [], h56373, h56377, hF, hz63000, h63505, h63509, h63513, sg g63903 65 (0, 0) [] [(.int .i64 r63501.1.Size), (.bool r63501.1.Up), v63503, v63507, (.int .i64 r63501.1.Lost), (.int .i64 r63501.1.Pending), (.int .i64 r63501.1.Every), (.int .i64 r63501.1.Signals)] [], sg g64002 71 (0, 0) [] [(.int .i64 0), (.slice none 0 0)] []]) := hm64102
        exact hK _ _ ⟨_, v63503, h63505, v63507, h63509, v63511, h63513, g63903, g64002, rfl, y0, y1, y2, y3, y4, y5, y6, y7, y8, y9, y10, fun _ => H63504, fun _ => H63508, fun _ => H63512, Mem.gc (A := [sg g32425 65 (0, 0) [] [(.int .i64 s56369), (.bool s56370), v56372, v56376, (.int .i64 s56379), (.int .i64 s56380), (.int .i64 s56381), (.int .i64 s56382)] [], h56373, h56377, hF, hz63000, h63505, h63509, h63513, sg g63903 65 (0, 0) [] [(.int .i64 r63501.1.Size), (.bool r63501.1.Up), v63503, v63507, (.int .i64 r63501.1.Lost), (.int .i64 r63501.1.Pending), (.int .i64 r63501.1.Every), (.int .i64 r63501.1.Signals)] [], sg g64002 71 (0, 0) [] [(.int .i64 0), (.slice none 0 0)] []]) (cat_cons rfl (cat_cons rfl (cat_cons rfl (cat_cons rfl (cat_cons rfl (cat_cons (on_ b5 rfl) (cat_cons (on_ b5 rfl) (cat_cons (on_ b5 rfl) (cat_cons (on_ rfl rfl) (cat_cons (off_ b12 (on_ b10 rfl)) rfl)))))))))) (Mem.pick [0, 1, 2, 3, 4, 5, 6, 7, 8, 9] rfl hm64102)⟩
       ·
        intro b a w hI hbi hn hc K hK
        obtain ⟨vs, v63503, h63505, v63507, h63509, v63511, h63513, g63903, g64002, ha, y0, y1, y2, y3, y4, y5, y6, y7, y8, y9, y10, H63504, H63508, H63512, hm⟩ := hI
        subst ha
        have b0 : b 0 = true := hn 0 (da rfl)
        have b1 : b 1 = true := hn 1 (da rfl)
        have b2 : b 2 = true := hn 2 (da rfl)
        have b3 : b 3 = true := hn 3 (da rfl)
        have b4 : b 4 = true := hn 4 (da rfl)
        have b5 : b 5 = true := hn 5 (da rfl)
        have b6 : b 6 = true := hn 6 (da rfl)
        have b7 : b 7 = true := hn 7 (da rfl)
        have b8 : b 8 = true := hn 8 (da rfl)
        have b9 : b 9 = true := hn 9 (da rfl)
        have b10 : b 10 = true := hn 10 (da rfl)
        have b11 : b 11 = true := hn 11 (da rfl)
        have H63504 := H63504 b5
        have H63508 := H63508 b5
        have H63512 := H63512 b5
        have hm64337 : Mem w0 w (cat [sg g32425 65 (0, 0) [] [(.int .i64 s56369), (.bool s56370), v56372, v56376, (.int .i64 s56379), (.int .i64 s56380), (.int .i64 s56381), (.int .i64 s56382)] [], h56373, h56377, hF, hz63000, h63505, h63509, h63513, sg g63903 65 (0, 0) [] [(.int .i64 r63501.1.Size), (.bool r63501.1.Up), v63503, v63507, (.int .i64 r63501.1.Lost), (.int .i64 r63501.1.Pending), (.int .i64 r63501.1.Every), (.int .i64 r63501.1.Signals)] [], sg g64002 71 (0, 0) [] [(.int .i64 0), (.slice none 0 0)] []]) := Mem.pick [0, 1, 2, 3, 4, 5, 6, 7, 8, 9] rfl (Mem.cg (B := [sg g32425 65 (0, 0) [] [(.int .i64 s56369), (.bool s56370), v56372, v56376, (.int .i64 s56379), (.int .i64 s56380), (.int .i64 s56381), (.int .i64 s56382)] [], h56373, h56377, hF, hz63000, h63505, h63509, h63513, sg g63903 65 (0, 0) [] [(.int .i64 r63501.1.Size), (.bool r63501.1.Up), v63503, v63507, (.int .i64 r63501.1.Lost), (.int .i64 r63501.1.Pending), (.int .i64 r63501.1.Every), (.int .i64 r63501.1.Signals)] [], sg g64002 71 (0, 0) [] [(.int .i64 0), (.slice none 0 0)] []]) (cat_cons rfl (cat_cons rfl (cat_cons rfl (cat_cons rfl (cat_cons rfl (cat_cons (on_ b5 rfl) (cat_cons (on_ b5 rfl) (cat_cons (on_ b5 rfl) (cat_cons (on_ b11 rfl) (cat_cons (off_ hbi (on_ b10 rfl)) rfl)))))))))) hm)
        refine e_exs (i := 12) hbi rfl (won rfl) rfl (e_store (vs := [(.int .i64 r63501.2.Code), v63511]) (o' := 0) (j := 0) rfl sz_71 (ev (t := 14) (v := (.pointer (some ⟨g64002, 0, none⟩))) rfl ((sel_on (p := (10, 14)) rfl b10).trans (y10 b10))) (ev (t := 51) (v := (.agg #[(.int .i64 r63501.2.Code), v63511])) rfl ((sel_on (p := (8, 51)) rfl b8).trans (y8 b8))) rfl (one_cons rfl (one_cons (IsSl.one (H63512).sl) one_nil)) hm64337 (k := 9) rfl rfl rfl) ?_
        intro w64201 hm64202
        replace hm64202 : Mem w0 w64201 (cat [sg g32425 65 (0, 0) [] [(.int .i64 s56369), (.bool s56370), v56372, v56376, (.int .i64 s56379), (.int .i64 s56380), (.int .i64 s56381), (.int .i64 s56382)] [], h56373, h56377, hF, hz63000, h63505, h63509, h63513, sg g63903 65 (0, 0) [] [(.int .i64 r63501.1.Size), (.bool r63501.1.Up), v63503, v63507, (.int .i64 r63501.1.Lost), (.int .i64 r63501.1.Pending), (.int .i64 r63501.1.Every), (.int .i64 r63501.1.Signals)] [], sg g64002 71 (0, 0) [] [(.int .i64 r63501.2.Code), v63511] []]) := hm64202
        exact hK _ _ ⟨_, v63503, h63505, v63507, h63509, v63511, h63513, g63903, g64002, rfl, y0, y1, y2, y3, y4, y5, y6, y7, y8, y9, y10, fun _ => H63504, fun _ => H63508, fun _ => H63512, Mem.gc (A := [sg g32425 65 (0, 0) [] [(.int .i64 s56369), (.bool s56370), v56372, v56376, (.int .i64 s56379), (.int .i64 s56380), (.int .i64 s56381), (.int .i64 s56382)] [], h56373, h56377, hF, hz63000, h63505, h63509, h63513, sg g63903 65 (0, 0) [] [(.int .i64 r63501.1.Size), (.bool r63501.1.Up), v63503, v63507, (.int .i64 r63501.1.Lost), (.int .i64 r63501.1.Pending), (.int .i64 r63501.1.Every), (.int .i64 r63501.1.Signals)] [], sg g64002 71 (0, 0) [] [(.int .i64 r63501.2.Code), v63511] []]) (cat_cons rfl (cat_cons rfl (cat_cons rfl (cat_cons rfl (cat_cons rfl (cat_cons (on_ b5 rfl) (cat_cons (on_ b5 rfl) (cat_cons (on_ b5 rfl) (cat_cons (on_ b11 rfl) (cat_cons (on_ rfl rfl) rfl)))))))))) (Mem.pick [0, 1, 2, 3, 4, 5, 6, 7, 8, 9] rfl hm64202)⟩
       intro b a w hall hI
       obtain ⟨vs, v63503, h63505, v63507, h63509, v63511, h63513, g63903, g64002, ha, y0, y1, y2, y3, y4, y5, y6, y7, y8, y9, y10, H63504, H63508, H63512, hm⟩ := hI
       have b0 : b 0 = true := hall 0 rfl
       have b1 : b 1 = true := hall 1 rfl
       have b2 : b 2 = true := hall 2 rfl
       have b3 : b 3 = true := hall 3 rfl
       have b4 : b 4 = true := hall 4 rfl
       have b5 : b 5 = true := hall 5 rfl
       have b6 : b 6 = true := hall 6 rfl
       have b7 : b 7 = true := hall 7 rfl
       have b8 : b 8 = true := hall 8 rfl
       have b9 : b 9 = true := hall 9 rfl
       have b10 : b 10 = true := hall 10 rfl
       have b11 : b 11 = true := hall 11 rfl
       have b12 : b 12 = true := hall 12 rfl
       replace H63504 := H63504 b5
       replace H63508 := H63508 b5
       replace H63512 := H63512 b5
       have hm64340 : Mem w0 w (cat [sg g32425 65 (0, 0) [] [(.int .i64 s56369), (.bool s56370), v56372, v56376, (.int .i64 s56379), (.int .i64 s56380), (.int .i64 s56381), (.int .i64 s56382)] [], h56373, h56377, hF, h63505, h63509, h63513, sg g63903 65 (0, 0) [] [(.int .i64 r63501.1.Size), (.bool r63501.1.Up), v63503, v63507, (.int .i64 r63501.1.Lost), (.int .i64 r63501.1.Pending), (.int .i64 r63501.1.Every), (.int .i64 r63501.1.Signals)] [], sg g64002 71 (0, 0) [] [(.int .i64 r63501.2.Code), v63511] [], hz63000]) := Mem.pick [0, 1, 2, 3, 5, 6, 7, 8, 9, 4] rfl (Mem.cg (B := [sg g32425 65 (0, 0) [] [(.int .i64 s56369), (.bool s56370), v56372, v56376, (.int .i64 s56379), (.int .i64 s56380), (.int .i64 s56381), (.int .i64 s56382)] [], h56373, h56377, hF, hz63000, h63505, h63509, h63513, sg g63903 65 (0, 0) [] [(.int .i64 r63501.1.Size), (.bool r63501.1.Up), v63503, v63507, (.int .i64 r63501.1.Lost), (.int .i64 r63501.1.Pending), (.int .i64 r63501.1.Every), (.int .i64 r63501.1.Signals)] [], sg g64002 71 (0, 0) [] [(.int .i64 r63501.2.Code), v63511] []]) (cat_cons rfl (cat_cons rfl (cat_cons rfl (cat_cons rfl (cat_cons rfl (cat_cons (on_ b5 rfl) (cat_cons (on_ b5 rfl) (cat_cons (on_ b5 rfl) (cat_cons (on_ b11 rfl) (cat_cons (on_ b12 rfl) rfl)))))))))) hm)
       obtain ⟨f63000, ha', z63000x2, z63000x6, z63000x9, z63000x11, z63000x12, z63000x13, z63000x14⟩ : ∃ f' : Nat → Value, a = fr 60 f' ∧ f' 2 = v2x0 ∧ f' 6 = (.pointer (some ⟨g32385, 0, none⟩)) ∧ f' 9 = (.pointer (some ⟨g32425, 0, none⟩)) ∧ f' 11 = v56385 ∧ f' 12 = (.int .i64 s56389) ∧ f' 13 = (.pointer (some ⟨g63903, 0, none⟩)) ∧ f' 14 = (.pointer (some ⟨g64002, 0, none⟩)) := ⟨_, ha, (sel_no rfl).trans q56367, (sel_no rfl).trans q56368, (sel_no rfl).trans q56383, (sel_no rfl).trans q56388, (sel_no rfl).trans q56390, (sel_on (p := (9, 13)) rfl b9).trans (y9 b9), (sel_on (p := (10, 14)) rfl b10).trans (y10 b10)⟩
       subst ha'
       subst hze63000
       replace hm64340 : Mem w0 w (cat [sg g32425 65 (0, 0) [] [(.int .i64 s56369), (.bool s56370), v56372, v56376, (.int .i64 s56379), (.int .i64 s56380), (.int .i64 s56381), (.int .i64 s56382)] [], h56373, h56377, hF, h63505, h63509, h63513, sg g63903 65 (0, 0) [] [(.int .i64 r63501.1.Size), (.bool r63501.1.Up), v63503, v63507, (.int .i64 r63501.1.Lost), (.int .i64 r63501.1.Pending), (.int .i64 r63501.1.Every), (.int .i64 r63501.1.Signals)] [], sg g64002 71 (0, 0) [] [(.int .i64 r63501.2.Code), v63511] [], sg g32385 65 (0, 0) [] [(.int .i64 0), (.bool false), (.slice none 0 0), (.slice none 0 0), (.int .i64 0), (.int .i64 0), (.int .i64 0), (.int .i64 0)] [], h56386]) := Mem.ung [sg g32425 65 (0, 0) [] [(.int .i64 s56369), (.bool s56370), v56372, v56376, (.int .i64 s56379), (.int .i64 s56380), (.int .i64 s56381), (.int .i64 s56382)] [], h56373, h56377, hF, h63505, h63509, h63513, sg g63903 65 (0, 0) [] [(.int .i64 r63501.1.Size), (.bool r63501.1.Up), v63503, v63507, (.int .i64 r63501.1.Lost), (.int .i64 r63501.1.Pending), (.int .i64 r63501.1.Every), (.int .i64 r63501.1.Signals)] [], sg g64002 71 (0, 0) [] [(.int .i64 r63501.2.Code), v63511] []] [sg g32385 65 (0, 0) [] [(.int .i64 0), (.bool false), (.slice none 0 0), (.slice none 0 0), (.int .i64 0), (.int .i64 0), (.int .i64 0), (.int .i64 0)] [], h56386] hm64340
       refine nx ?_
       refine wp_seq ?_
       refine wp_region_lit ?_
       refine s_val (v := (.agg #[(.int .i64 r63501.1.Size), (.bool r63501.1.Up), v63503, v63507, (.int .i64 r63501.1.Lost), (.int .i64 r63501.1.Pending), (.int .i64 r63501.1.Every), (.int .i64 r63501.1.Signals)])) (won rfl) rfl rfl (x_loadN (vs := [(.int .i64 r63501.1.Size), (.bool r63501.1.Up), v63503, v63507, (.int .i64 r63501.1.Lost), (.int .i64 r63501.1.Pending), (.int .i64 r63501.1.Every), (.int .i64 r63501.1.Signals)]) rfl tyN_65 (ev (t := 13) (v := (.pointer (some ⟨g63903, 0, none⟩))) rfl z63000x13) (seg_cells (o' := 0) (j := 0) hm64340 (k := 7) rfl rfl rfl)) ?_
       refine s_exs (won rfl) rfl (e_store (vs := [(.int .i64 r63501.1.Size), (.bool r63501.1.Up), v63503, v63507, (.int .i64 r63501.1.Lost), (.int .i64 r63501.1.Pending), (.int .i64 r63501.1.Every), (.int .i64 r63501.1.Signals)]) (o' := 0) (j := 0) rfl sz_65 (ev (t := 9) (v := (.pointer (some ⟨g32425, 0, none⟩))) rfl z63000x9) (ev (t := 52) rfl rfl) rfl (one_cons rfl (one_cons rfl (one_cons (IsSl.one (H63504).sl) (one_cons (IsSl.one (H63508).sl) (one_cons rfl (one_cons rfl (one_cons rfl (one_cons rfl one_nil)))))))) hm64340 (k := 0) rfl rfl rfl) ?_
       intro w64350 hm64351
       replace hm64351 : Mem w0 w64350 (cat [sg g32425 65 (0, 0) [] [(.int .i64 r63501.1.Size), (.bool r63501.1.Up), v63503, v63507, (.int .i64 r63501.1.Lost), (.int .i64 r63501.1.Pending), (.int .i64 r63501.1.Every), (.int .i64 r63501.1.Signals)] [], h56373, h56377, hF, h63505, h63509, h63513, sg g63903 65 (0, 0) [] [(.int .i64 r63501.1.Size), (.bool r63501.1.Up), v63503, v63507, (.int .i64 r63501.1.Lost), (.int .i64 r63501.1.Pending), (.int .i64 r63501.1.Every), (.int .i64 r63501.1.Signals)] [], sg g64002 71 (0, 0) [] [(.int .i64 r63501.2.Code), v63511] [], sg g32385 65 (0, 0) [] [(.int .i64 0), (.bool false), (.slice none 0 0), (.slice none 0 0), (.int .i64 0), (.int .i64 0), (.int .i64 0), (.int .i64 0)] [], h56386]) := hm64351
       refine wpList_nil ?_
       have hm64352 : Mem w0 w64350 (cat [sg g32425 65 (0, 0) [] [(.int .i64 r63501.1.Size), (.bool r63501.1.Up), v63503, v63507, (.int .i64 r63501.1.Lost), (.int .i64 r63501.1.Pending), (.int .i64 r63501.1.Every), (.int .i64 r63501.1.Signals)] [], hF, h63505, h63509, h63513, sg g64002 71 (0, 0) [] [(.int .i64 r63501.2.Code), v63511] [], sg g32385 65 (0, 0) [] [(.int .i64 0), (.bool false), (.slice none 0 0), (.slice none 0 0), (.int .i64 0), (.int .i64 0), (.int .i64 0), (.int .i64 0)] [], h56386]) := Mem.pick [0, 3, 4, 5, 6, 8, 9, 10] rfl hm64351
       refine nx ?_
       obtain ⟨hg64359, he⟩ := gdE he
       refine wp_region_lit ?_
       refine s_val (v := v56385) (won rfl) rfl rfl (x_move rfl (ev (t := 11) (v := v56385) rfl z63000x11)) ?_
       refine s_val (v := (.agg #[(.int .i64 r63501.2.Code), v63511])) (won rfl) rfl rfl (x_loadN (vs := [(.int .i64 r63501.2.Code), v63511]) rfl tyN_71 (ev (t := 14) (v := (.pointer (some ⟨g64002, 0, none⟩))) rfl z63000x14) (seg_cells (o' := 0) (j := 0) hm64352 (k := 5) rfl rfl rfl)) ?_
       refine s_exv (won rfl) rfl rfl (e_litp (cells := [(.int .i64 r63501.2.Code), v63511]) (ps := [(0, (.agg #[(.int .i64 r63501.2.Code), v63511]))]) rfl slt_66 (pmap_lit (pmap_cons (ev (t := 54) rfl rfl) pmap_nil)) (fun w1 => run_bslicez (cells := [(.int .i64 r63501.2.Code), v63511]) (zs := [.int .i64 0, .slice none 0 0]) (zc := [.int .i64 0, .slice none 0 0]) slt_66 rfl rfl (by kernel_rfl) (fill_cons (cs := [(.int .i64 r63501.2.Code), v63511]) rfl rfl rfl fill_nil) (by decide)) hm64352) ?_
       rintro g64355 w64353 hm64354
       have H64356 : OwD 71 impl_RingReply_D (.slice (some ⟨g64355, 0, none⟩) 1 1) ([r63501.2] : List impl_RingReply) (cat [sg g64355 71 (0, 0) [] [(.int .i64 r63501.2.Code), v63511] [], (cat [h63513] ++ [])]) := OwD.lit (xs := ([r63501.2] : List impl_RingReply)) (cells := [(.int .i64 r63501.2.Code), v63511]) g64355 (reps_c (d := impl_RingReply_D) (x := r63501.2) (cs := [(.int .i64 r63501.2.Code), v63511]) (h := cat [h63513]) w0 (impl_RingReply_Kmk ⟨v63511, h63513, rfl, H63512, rfl⟩) reps_n) 1 rfl (by decide)
       have hm64358 : Mem w0 w64353 (cat [(sg g64355 71 (0, 0) [] [(.int .i64 r63501.2.Code), v63511] []), h63513, sg g32425 65 (0, 0) [] [(.int .i64 r63501.1.Size), (.bool r63501.1.Up), v63503, v63507, (.int .i64 r63501.1.Lost), (.int .i64 r63501.1.Pending), (.int .i64 r63501.1.Every), (.int .i64 r63501.1.Signals)] [], hF, h63505, h63509, sg g64002 71 (0, 0) [] [(.int .i64 r63501.2.Code), v63511] [], sg g32385 65 (0, 0) [] [(.int .i64 0), (.bool false), (.slice none 0 0), (.slice none 0 0), (.int .i64 0), (.int .i64 0), (.int .i64 0), (.int .i64 0)] [], h56386]) := Mem.pick [0, 5, 1, 2, 3, 4, 6, 7, 8] rfl hm64354
       replace hm64354 : Mem w0 w64353 (cat [(cat [sg g64355 71 (0, 0) [] [(.int .i64 r63501.2.Code), v63511] [], (cat [h63513] ++ [])]), sg g32425 65 (0, 0) [] [(.int .i64 r63501.1.Size), (.bool r63501.1.Up), v63503, v63507, (.int .i64 r63501.1.Lost), (.int .i64 r63501.1.Pending), (.int .i64 r63501.1.Every), (.int .i64 r63501.1.Signals)] [], hF, h63505, h63509, sg g64002 71 (0, 0) [] [(.int .i64 r63501.2.Code), v63511] [], sg g32385 65 (0, 0) [] [(.int .i64 0), (.bool false), (.slice none 0 0), (.slice none 0 0), (.int .i64 0), (.int .i64 0), (.int .i64 0), (.int .i64 0)] [], h56386]) := Mem.eqv (by simp only [cat, List.append_assoc, List.append_nil, List.nil_append]) hm64358
       refine s_exv (won rfl) rfl rfl (e_appendD (bytes := 32) rfl slt_66 rfl (ev (t := 53) rfl rfl) (ev (t := 55) rfl rfl) H56387 (k := 7) rfl H64356 (k2 := 0) rfl rfl hm64354 hg64359 (len63 hg64359 rfl)) ?_
       rintro p64361 w64363 ⟨H64362, hm64364⟩
       replace hm64364 : Mem w0 w64363 (cat [[], sg g32425 65 (0, 0) [] [(.int .i64 r63501.1.Size), (.bool r63501.1.Up), v63503, v63507, (.int .i64 r63501.1.Lost), (.int .i64 r63501.1.Pending), (.int .i64 r63501.1.Every), (.int .i64 r63501.1.Signals)] [], hF, h63505, h63509, sg g64002 71 (0, 0) [] [(.int .i64 r63501.2.Code), v63511] [], sg g32385 65 (0, 0) [] [(.int .i64 0), (.bool false), (.slice none 0 0), (.slice none 0 0), (.int .i64 0), (.int .i64 0), (.int .i64 0), (.int .i64 0)] [], p64361.2]) := hm64364
       have hm64365 : Mem w0 w64363 (cat [sg g32425 65 (0, 0) [] [(.int .i64 r63501.1.Size), (.bool r63501.1.Up), v63503, v63507, (.int .i64 r63501.1.Lost), (.int .i64 r63501.1.Pending), (.int .i64 r63501.1.Every), (.int .i64 r63501.1.Signals)] [], hF, h63505, h63509, sg g64002 71 (0, 0) [] [(.int .i64 r63501.2.Code), v63511] [], sg g32385 65 (0, 0) [] [(.int .i64 0), (.bool false), (.slice none 0 0), (.slice none 0 0), (.int .i64 0), (.int .i64 0), (.int .i64 0), (.int .i64 0)] [], p64361.2]) := Mem.eqv (by simp only [cat, List.set_cons_zero, List.set_cons_succ, List.append_assoc, List.append_nil, List.nil_append]) hm64364
       refine s_val (v := p64361.1) (won rfl) rfl rfl (x_assign rfl (ev (t := 56) rfl rfl)) ?_
       refine wpList_nil ?_
       have hm64366 : Mem w0 w64363 (cat [sg g32425 65 (0, 0) [] [(.int .i64 r63501.1.Size), (.bool r63501.1.Up), v63503, v63507, (.int .i64 r63501.1.Lost), (.int .i64 r63501.1.Pending), (.int .i64 r63501.1.Every), (.int .i64 r63501.1.Signals)] [], hF, h63505, h63509, sg g32385 65 (0, 0) [] [(.int .i64 0), (.bool false), (.slice none 0 0), (.slice none 0 0), (.int .i64 0), (.int .i64 0), (.int .i64 0), (.int .i64 0)] [], p64361.2]) := Mem.pick [0, 1, 2, 3, 5, 6] rfl hm64365
       refine nb ?_
       refine nx ?_
       refine wp_region_lit ?_
       refine s_val (v := (.int .i64 s56389)) (won rfl) rfl rfl (x_move rfl (ev (t := 12) (v := (.int .i64 s56389)) rfl z63000x12)) ?_
       refine s_val (v := (.int .i64 (IntKind.wrap .i64 (s56389 + 1)))) (won rfl) rfl rfl (x_add rfl (ev (t := 41) rfl rfl) rfl) ?_
       refine s_val (v := (.int .i64 (IntKind.wrap .i64 (s56389 + 1)))) (won rfl) rfl rfl (x_assign rfl (ev (t := 42) rfl rfl)) ?_
       refine wpList_nil ?_
       refine nx ?_
       exact ⟨r63501.1.Size, r63501.1.Up, r63501.1.Posted, r63501.1.Done, r63501.1.Lost, r63501.1.Pending, r63501.1.Every, r63501.1.Signals, (s56384 ++ ([r63501.2] : List impl_RingReply)), (IntKind.wrap .i64 (s56389 + 1)), v63503, h63505, v63507, h63509, p64361.1, p64361.2, _, he, rfl, z63000x2, z63000x6, z63000x9, rfl, rfl, H63504, H63508, H64362, Mem.pick [4, 0, 2, 3, 5, 1] rfl hm64366⟩
      ·
       replace he := bifF he hb60372
       refine c_false rfl (p := (decide (s56389 < (a2.length : Int)))) rfl rfl hb60372 ?_
       refine wp_exit ?_
       refine xs ?_
       refine xs ?_
       refine xb ?_
       refine nx ?_
       obtain rfl := Option.some.inj he
       exact ⟨v56372, h56373, v56376, h56377, v56385, h56386, _, rfl, q56368, q56383, q56388, H56374, H56378, H56387, Mem.pick [0, 1, 2, 3, 4, 5] rfl hm60370⟩
    ·
     rintro a w ⟨v48371, h48372, v48375, h48376, v48384, h48385, f, rfl, q48367, q48382, q48387, H48373, H48377, H48386, hm64368⟩
     replace he := hk48389
     refine wp_seq ?_
     obtain ⟨r64369, hr64369, he⟩ := bindE he
     refine wp_region_lit ?_
     refine s_val (v := (.agg #[(.int .i64 s48388.1), (.bool s48388.2.1), v48371, v48375, (.int .i64 s48388.2.2.2.2.1), (.int .i64 s48388.2.2.2.2.2.1), (.int .i64 s48388.2.2.2.2.2.2.1), (.int .i64 s48388.2.2.2.2.2.2.2.1)])) (won rfl) rfl rfl (x_loadN (vs := [(.int .i64 s48388.1), (.bool s48388.2.1), v48371, v48375, (.int .i64 s48388.2.2.2.2.1), (.int .i64 s48388.2.2.2.2.2.1), (.int .i64 s48388.2.2.2.2.2.2.1), (.int .i64 s48388.2.2.2.2.2.2.2.1)]) rfl tyN_65 (ev (t := 9) (v := (.pointer (some ⟨g32425, 0, none⟩))) rfl q48382) (seg_cells (o' := 0) (j := 0) hm64368 (k := 1) rfl rfl rfl)) ?_
     refine s_call (won rfl) rfl rfl (x_call rfl rfl cl_78 (map_lit (map_cons (ev (t := 57) rfl rfl) map_nil))) (spec_l13Own_ok (hR := (cat [h48372, h48376])) (hF := cat [sg g32385 65 (0, 0) [] [(.int .i64 0), (.bool false), (.slice none 0 0), (.slice none 0 0), (.int .i64 0), (.int .i64 0), (.int .i64 0), (.int .i64 0)] [], sg g32425 65 (0, 0) [] [(.int .i64 s48388.1), (.bool s48388.2.1), v48371, v48375, (.int .i64 s48388.2.2.2.2.1), (.int .i64 s48388.2.2.2.2.2.1), (.int .i64 s48388.2.2.2.2.2.2.1), (.int .i64 s48388.2.2.2.2.2.2.2.1)] [], h48372, h48376, h48385, hF]) (impl_Ring.mk s48388.1 s48388.2.1 s48388.2.2.1 s48388.2.2.2.1 s48388.2.2.2.2.1 s48388.2.2.2.2.2.1 s48388.2.2.2.2.2.2.1 s48388.2.2.2.2.2.2.2.1) ((H48373.rd w0).mono (Sub.at_ (k := 0) rfl)) ((H48377.rd w0).mono (Sub.at_ (k := 1) rfl)) (subc (Sub.at_ (k := 2) rfl) (subc (Sub.at_ (k := 3) rfl) subn)) (Mem.one hm64368) hr64369) ?_
     rintro e w64378 ⟨v64371, h64373, v64375, h64377, rfl, H64372, H64376, hm64379⟩
     refine ⟨_, rfl, ?_⟩
     replace hm64379 : Mem w0 w64378 (cat [h64373, h64377, sg g32385 65 (0, 0) [] [(.int .i64 0), (.bool false), (.slice none 0 0), (.slice none 0 0), (.int .i64 0), (.int .i64 0), (.int .i64 0), (.int .i64 0)] [], sg g32425 65 (0, 0) [] [(.int .i64 s48388.1), (.bool s48388.2.1), v48371, v48375, (.int .i64 s48388.2.2.2.2.1), (.int .i64 s48388.2.2.2.2.2.1), (.int .i64 s48388.2.2.2.2.2.2.1), (.int .i64 s48388.2.2.2.2.2.2.2.1)] [], h48372, h48376, h48385, hF]) := Mem.ung [h64373, h64377] [sg g32385 65 (0, 0) [] [(.int .i64 0), (.bool false), (.slice none 0 0), (.slice none 0 0), (.int .i64 0), (.int .i64 0), (.int .i64 0), (.int .i64 0)] [], sg g32425 65 (0, 0) [] [(.int .i64 s48388.1), (.bool s48388.2.1), v48371, v48375, (.int .i64 s48388.2.2.2.2.1), (.int .i64 s48388.2.2.2.2.2.1), (.int .i64 s48388.2.2.2.2.2.2.1), (.int .i64 s48388.2.2.2.2.2.2.2.1)] [], h48372, h48376, h48385, hF] hm64379
     refine s_val (v := v48384) (won rfl) rfl rfl (x_move rfl (ev (t := 11) (v := v48384) rfl q48387)) ?_
     refine s_exs (won rfl) rfl (e_store (vs := [(.int .i64 r64369.Size), (.bool r64369.Up), v64371, v64375, (.int .i64 r64369.Lost), (.int .i64 r64369.Pending), (.int .i64 r64369.Every), (.int .i64 r64369.Signals)]) (o' := 0) (j := 0) rfl sz_65 (ev (t := 6) (v := (.pointer (some ⟨g32385, 0, none⟩))) rfl q48367) (ev (t := 58) rfl rfl) rfl (one_cons rfl (one_cons rfl (one_cons (IsSl.one (H64372).sl) (one_cons (IsSl.one (H64376).sl) (one_cons rfl (one_cons rfl (one_cons rfl (one_cons rfl one_nil)))))))) hm64379 (k := 2) rfl rfl rfl) ?_
     intro w64380 hm64381
     replace hm64381 : Mem w0 w64380 (cat [h64373, h64377, sg g32385 65 (0, 0) [] [(.int .i64 r64369.Size), (.bool r64369.Up), v64371, v64375, (.int .i64 r64369.Lost), (.int .i64 r64369.Pending), (.int .i64 r64369.Every), (.int .i64 r64369.Signals)] [], sg g32425 65 (0, 0) [] [(.int .i64 s48388.1), (.bool s48388.2.1), v48371, v48375, (.int .i64 s48388.2.2.2.2.1), (.int .i64 s48388.2.2.2.2.2.1), (.int .i64 s48388.2.2.2.2.2.2.1), (.int .i64 s48388.2.2.2.2.2.2.2.1)] [], h48372, h48376, h48385, hF]) := hm64381
     refine s_val (v := v48384) (won rfl) rfl rfl (x_assign rfl (ev (t := 59) rfl rfl)) ?_
     refine s_val (v := (.int .i64 0)) (won rfl) rfl rfl (x_assign rfl rfl) ?_
     refine wpList_nil ?_
     have hm64382 : Mem w0 w64380 (cat [h64373, h64377, sg g32385 65 (0, 0) [] [(.int .i64 r64369.Size), (.bool r64369.Up), v64371, v64375, (.int .i64 r64369.Lost), (.int .i64 r64369.Pending), (.int .i64 r64369.Every), (.int .i64 r64369.Signals)] [], h48385, hF]) := Mem.pick [0, 1, 2, 6, 7] rfl hm64381
     refine nx ?_
     refine wp_ret ?_
     obtain rfl := Option.some.inj he
     refine r_ret (v := (.tuple #[(.agg #[(.int .i64 r64369.Size), (.bool r64369.Up), v64371, v64375, (.int .i64 r64369.Lost), (.int .i64 r64369.Pending), (.int .i64 r64369.Every), (.int .i64 r64369.Signals)]), v48384, (.int .i64 0)])) (rv_list rfl rfl (RVs.cell (cs := [(.int .i64 r64369.Size), (.bool r64369.Up), v64371, v64375, (.int .i64 r64369.Lost), (.int .i64 r64369.Pending), (.int .i64 r64369.Every), (.int .i64 r64369.Signals)]) rfl q48367 tyN_65 (seg_cells (o' := 0) (j := 0) hm64382 (k := 2) rfl rfl rfl) (RVs.tmp (v := v48384) rfl rfl (RVs.tmp (v := (.int .i64 0)) rfl rfl RVs.nil)))) rfl ?_
     exact ⟨v64371, h64373, v64375, h64377, v48384, h48385, rfl, H64372, H64376, H48386, Mem.pick [0, 1, 3, 4] rfl hm64382⟩
def impl_inRange (a0 : Int) (a1 : Int) (a2 : Int) : Option (Bool) := (some ((decide (a1 ≤ a0)) && (decide (a0 ≤ a2))))
set_option maxHeartbeats 400000 in
set_option maxRecDepth 100000 in
theorem impl_inRange_ok {w0 w : World} {hR hF : Hp} (a0 : Int) (a1 : Int) (a2 : Int) {r : (Bool)} (hm : Mem w0 w (cat [hF])) (he : impl_inRange a0 a1 a2 = some r) :
    Calls Try.prog 58 #[(.int .i64 a0), (.int .i64 a1), (.int .i64 a2)] w (fun e w' => e = .returned (.bool r) ∧ Mem w0 w' (cat [hF])) := by
 refine calls_fr (n := 15) Try.func58 rfl rfl rfl ?_
 unfold impl_inRange at he
 refine wp_seq ?_
 refine wp_region_lit ?_
 refine s_val (v := (.bool false)) (won rfl) rfl rfl (x_assign rfl rfl) ?_
 refine wpList_nil ?_
 refine nx ?_
 refine wp_seq ?_
 refine wp_region_lit ?_
 refine s_val (v := (.int .i64 a0)) (won rfl) rfl rfl (x_move rfl (ev (t := 0) rfl rfl)) ?_
 refine s_val (v := (.int .i64 a1)) (won rfl) rfl rfl (x_move rfl (ev (t := 1) rfl rfl)) ?_
 refine s_val (v := (.bool (decide (a1 ≤ a0)))) (won rfl) rfl rfl (x_geq rfl (ev (t := 7) rfl rfl) (ev (t := 8) rfl rfl)) ?_
 refine s_val (v := (.bool (decide (a1 ≤ a0)))) (won rfl) rfl rfl (x_move rfl (ev (t := 9) rfl rfl)) ?_
 refine s_cval (p := (decide (a1 ≤ a0))) (v := (.int .i64 a0)) (won_t (j := 3) (t := 10) (q := (decide (a1 ≤ a0))) rfl rfl rfl rfl rfl) rfl rfl (fun hp => (x_move rfl (ev (t := 0) rfl rfl))) ?_
 refine s_cval (p := (decide (a1 ≤ a0))) (v := (.int .i64 a2)) (won_t (j := 3) (t := 10) (q := (decide (a1 ≤ a0))) rfl rfl rfl rfl rfl) rfl rfl (fun hp => (x_move rfl (ev (t := 2) rfl rfl))) ?_
 refine s_cval (p := (decide (a1 ≤ a0))) (v := (.bool (decide (a0 ≤ a2)))) (won_t (j := 3) (t := 10) (q := (decide (a1 ≤ a0))) rfl rfl rfl rfl rfl) rfl rfl (fun hp => (x_leq rfl (ev (t := 11) rfl (Eq.trans (b := cv (decide (a1 ≤ a0)) (.int .i64 a0)) rfl (on_c hp))) (ev (t := 12) rfl (Eq.trans (b := cv (decide (a1 ≤ a0)) (.int .i64 a2)) rfl (on_c hp))))) ?_
 refine s_val (v := (.bool ((decide (a1 ≤ a0)) && (decide (a0 ≤ a2))))) (won rfl) rfl rfl (x_pick_and rfl (ev (t := 10) rfl rfl) (fun hq => ev rfl (Eq.trans (b := cv (decide (a1 ≤ a0)) (.bool (decide (a0 ≤ a2)))) rfl (on_c hq))) rfl) ?_
 refine s_val (v := (.bool ((decide (a1 ≤ a0)) && (decide (a0 ≤ a2))))) (won rfl) rfl rfl (x_assign rfl (ev (t := 14) rfl rfl)) ?_
 refine wpList_nil ?_
 refine nx ?_
 refine wp_ret ?_
 obtain rfl := Option.some.inj he
 refine r_ret (v := (.bool ((decide (a1 ≤ a0)) && (decide (a0 ≤ a2))))) (rv_one rfl (RVs.tmp (v := (.bool ((decide (a1 ≤ a0)) && (decide (a0 ≤ a2))))) rfl rfl RVs.nil)) rfl ?_
 exact ⟨rfl, Mem.pick [0] rfl hm⟩
def impl_NewRing (a0 : Int) (a1 : Int) : Option (impl_Ring × Int) := (impl_inRange a0 1 16).bind fun r50 => (bif (!(!r50)) then impl_inRange a1 1 16 else some false).bind fun r53 => (bif ((!r50) || (!r53)) then (some ((impl_Ring.mk 0 false ([] : List Int) ([] : List Int) 0 0 0 0), 4)) else (some ((impl_Ring.mk a0 true ([] : List Int) ([] : List Int) 0 0 a1 0), 0)))
set_option maxHeartbeats 400000 in
set_option maxRecDepth 100000 in
theorem impl_NewRing_ok {w0 w : World} {hR hF : Hp} (a0 : Int) (a1 : Int) {r : (impl_Ring × Int)} (hm : Mem w0 w (cat [hF])) (he : impl_NewRing a0 a1 = some r) :
    Calls Try.prog 74 #[(.int .i64 a0), (.int .i64 a1)] w (fun e w' => ∃ (v'0 : Value) (h'0 : Hp) (v'1 : Value) (h'1 : Hp), e = .returned (.tuple #[(.agg #[(.int .i64 r.1.Size), (.bool r.1.Up), v'0, v'1, (.int .i64 r.1.Lost), (.int .i64 r.1.Pending), (.int .i64 r.1.Every), (.int .i64 r.1.Signals)]), (.int .i64 r.2)]) ∧ OwF 3 (FK.int .i64) v'0 r.1.Posted h'0 ∧ OwF 3 (FK.int .i64) v'1 r.1.Done h'1 ∧ Mem w0 w' (cat [h'0, h'1, hF])) := by
 refine calls_fr (n := 18) Try.func74 rfl rfl rfl ?_
 unfold impl_NewRing at he
 refine wp_seq ?_
 refine wp_region_lit ?_
 refine s_exv (won rfl) rfl rfl (e_alloc (vs := [(.int .i64 0), (.bool false), (.slice none 0 0), (.slice none 0 0), (.int .i64 0), (.int .i64 0), (.int .i64 0), (.int .i64 0)]) rfl zt_65 rfl hm) ?_
 rintro g35 w36 hm37
 refine s_val (v := (.int .i64 0)) (won rfl) rfl rfl (x_assign rfl rfl) ?_
 refine wpList_nil ?_
 refine nx ?_
 refine wp_seq ?_
 refine wp_seq ?_
 obtain ⟨r50, hr50, he⟩ := bindE he
 obtain ⟨r53, hr53, he⟩ := bindE he
 refine wp_region_lit ?_
 refine s_val (v := (.int .i64 a0)) (won rfl) rfl rfl (x_move rfl (ev (t := 0) rfl rfl)) ?_
 refine s_call (won rfl) rfl rfl (x_call rfl rfl cl_58 (map_lit (map_cons (ev (t := 6) rfl rfl) (map_cons rfl (map_cons rfl map_nil))))) (impl_inRange_ok (hR := (cat [])) (hF := cat [sg g35 65 (0, 0) [] [(.int .i64 0), (.bool false), (.slice none 0 0), (.slice none 0 0), (.int .i64 0), (.int .i64 0), (.int .i64 0), (.int .i64 0)] [], hF]) a0 1 16  (Mem.one hm37) hr50) ?_
 rintro e w51 ⟨rfl, hm52⟩
 refine ⟨_, rfl, ?_⟩
 replace hm52 : Mem w0 w51 (cat [sg g35 65 (0, 0) [] [(.int .i64 0), (.bool false), (.slice none 0 0), (.slice none 0 0), (.int .i64 0), (.int .i64 0), (.int .i64 0), (.int .i64 0)] [], hF]) := Mem.un hm52
 refine s_val (v := (.bool (!r50))) (won rfl) rfl rfl (x_not rfl (ev (t := 7) rfl rfl)) ?_
 refine s_val (v := (.bool (!r50))) (won rfl) rfl rfl (x_move rfl (ev (t := 8) rfl rfl)) ?_
 refine s_cval (p := (!(!r50))) (v := (.int .i64 a1)) (won_f (j := 3) (t := 9) (q := (!r50)) rfl rfl rfl rfl rfl) rfl rfl (fun hp => (x_move rfl (ev (t := 1) rfl rfl))) ?_
 refine s_ccall (p := (!(!r50))) (v := (.bool r53)) (J := fun w' => Mem w0 w' (cat [sg g35 65 (0, 0) [] [(.int .i64 0), (.bool false), (.slice none 0 0), (.slice none 0 0), (.int .i64 0), (.int .i64 0), (.int .i64 0), (.int .i64 0)] [], hF])) (won_f (j := 3) (t := 9) (q := (!r50)) rfl rfl rfl rfl rfl) rfl rfl (fun hp => (x_call rfl rfl cl_58 (map_lit (map_cons (ev (t := 10) rfl (Eq.trans (b := cv (!(!r50)) (.int .i64 a1)) rfl (on_c hp))) (map_cons rfl (map_cons rfl map_nil)))))) (fun hp => ((impl_inRange_ok (hR := (cat [])) (hF := cat [sg g35 65 (0, 0) [] [(.int .i64 0), (.bool false), (.slice none 0 0), (.slice none 0 0), (.int .i64 0), (.int .i64 0), (.int .i64 0), (.int .i64 0)] [], hF]) a1 1 16  (Mem.one hm52) (bifT hr53 hp))).mono fun e w2 h => ⟨h.1, Mem.un h.2⟩) hm52 ?_
 intro w54 hm55
 refine s_cval (p := (!(!r50))) (v := (.bool (!r53))) (won_f (j := 3) (t := 9) (q := (!r50)) rfl rfl rfl rfl rfl) rfl rfl (fun hp => (x_not rfl (ev (t := 11) rfl (Eq.trans (b := cv (!(!r50)) (.bool r53)) rfl (on_c hp))))) ?_
 refine s_val (v := (.bool ((!r50) || (!r53)))) (won rfl) rfl rfl (x_pick_or rfl (ev (t := 9) rfl rfl) rfl (fun hq => ev rfl (Eq.trans (b := cv (!(!r50)) (.bool (!r53))) rfl (on_c (not_i hq))))) ?_
 refine wpList_nil ?_
 refine nx ?_
 rcases Bool.eq_false_or_eq_true (((!r50) || (!r53))) with hb56 | hb56
 ·
  replace he := bifT he hb56
  refine c_true rfl (p := ((!r50) || (!r53))) rfl rfl hb56 ?_
  refine wp_seq ?_
  refine wp_region_lit ?_
  refine s_val (v := (.agg #[(.int .i64 0), (.bool false), (.slice none 0 0), (.slice none 0 0), (.int .i64 0), (.int .i64 0), (.int .i64 0), (.int .i64 0)])) (won rfl) rfl rfl (x_build (cells := [(.int .i64 0), (.bool false), (.slice none 0 0), (.slice none 0 0), (.int .i64 0), (.int .i64 0), (.int .i64 0), (.int .i64 0)]) (zc := [.int .i64 0, .bool false, .slice none 0 0, .slice none 0 0, .int .i64 0, .int .i64 0, .int .i64 0, .int .i64 0]) (sizes := [(0, 1), (1, 1), (2, 1), (3, 1), (4, 1), (5, 1), (6, 1), (7, 1)]) (ps := []) rfl zt_65 rfl uf_65 ufz_65 (pmap_lit pmap_nil) fill_nil) ?_
  refine s_exs (won rfl) rfl (e_store (vs := [(.int .i64 0), (.bool false), (.slice none 0 0), (.slice none 0 0), (.int .i64 0), (.int .i64 0), (.int .i64 0), (.int .i64 0)]) (o' := 0) (j := 0) rfl sz_65 (ev (t := 4) rfl rfl) (ev (t := 14) rfl rfl) rfl rfl hm55 (k := 0) rfl rfl rfl) ?_
  intro w59 hm60
  replace hm60 : Mem w0 w59 (cat [sg g35 65 (0, 0) [] [(.int .i64 0), (.bool false), (.slice none 0 0), (.slice none 0 0), (.int .i64 0), (.int .i64 0), (.int .i64 0), (.int .i64 0)] [], hF]) := hm60
  refine s_val (v := (.int .i64 4)) (won rfl) rfl rfl (x_assign rfl rfl) ?_
  refine wpList_nil ?_
  refine nx ?_
  refine wp_ret ?_
  refine xr ?_
  obtain rfl := Option.some.inj he
  refine r_ret (v := (.tuple #[(.agg #[(.int .i64 0), (.bool false), (.slice none 0 0), (.slice none 0 0), (.int .i64 0), (.int .i64 0), (.int .i64 0), (.int .i64 0)]), (.int .i64 4)])) (rv_list rfl rfl (RVs.cell (cs := [(.int .i64 0), (.bool false), (.slice none 0 0), (.slice none 0 0), (.int .i64 0), (.int .i64 0), (.int .i64 0), (.int .i64 0)]) rfl rfl tyN_65 (seg_cells (o' := 0) (j := 0) hm60 (k := 0) rfl rfl rfl) (RVs.tmp (v := (.int .i64 4)) rfl rfl RVs.nil))) rfl ?_
  exact ⟨(.slice none 0 0), [], (.slice none 0 0), [], rfl, (OwF.nil 3 (FK.int .i64)), (OwF.nil 3 (FK.int .i64)), Mem.pick [1000, 1001, 1] rfl hm60⟩
 ·
  replace he := bifF he hb56
  refine c_false rfl (p := ((!r50) || (!r53))) rfl rfl hb56 ?_
  refine wp_skip ?_
  refine nx ?_
  refine wp_seq ?_
  refine wp_region_lit ?_
  refine s_val (v := (.int .i64 a0)) (won rfl) rfl rfl (x_move rfl (ev (t := 0) rfl rfl)) ?_
  refine s_val (v := (.int .i64 a1)) (won rfl) rfl rfl (x_move rfl (ev (t := 1) rfl rfl)) ?_
  refine s_val (v := (.agg #[(.int .i64 a0), (.bool true), (.slice none 0 0), (.slice none 0 0), (.int .i64 0), (.int .i64 0), (.int .i64 a1), (.int .i64 0)])) (won rfl) rfl rfl (x_build (cells := [(.int .i64 a0), (.bool true), (.slice none 0 0), (.slice none 0 0), (.int .i64 0), (.int .i64 0), (.int .i64 a1), (.int .i64 0)]) (zc := [.int .i64 0, .bool false, .slice none 0 0, .slice none 0 0, .int .i64 0, .int .i64 0, .int .i64 0, .int .i64 0]) (sizes := [(0, 1), (1, 1), (2, 1), (3, 1), (4, 1), (5, 1), (6, 1), (7, 1)]) (ps := [(0, (.int .i64 a0)), (1, (.bool true)), (6, (.int .i64 a1))]) rfl zt_65 rfl uf_65 ufz_65 (pmap_lit (pmap_cons (ev (t := 15) rfl rfl) (pmap_cons rfl (pmap_cons (ev (t := 16) rfl rfl) pmap_nil)))) (fill_cons (cs := [(.int .i64 a0)]) rfl rfl rfl (fill_cons (cs := [(.bool true)]) rfl rfl rfl (fill_cons (cs := [(.int .i64 a1)]) rfl rfl rfl fill_nil)))) ?_
  refine s_exs (won rfl) rfl (e_store (vs := [(.int .i64 a0), (.bool true), (.slice none 0 0), (.slice none 0 0), (.int .i64 0), (.int .i64 0), (.int .i64 a1), (.int .i64 0)]) (o' := 0) (j := 0) rfl sz_65 (ev (t := 4) rfl rfl) (ev (t := 17) rfl rfl) rfl rfl hm55 (k := 0) rfl rfl rfl) ?_
  intro w63 hm64
  replace hm64 : Mem w0 w63 (cat [sg g35 65 (0, 0) [] [(.int .i64 a0), (.bool true), (.slice none 0 0), (.slice none 0 0), (.int .i64 0), (.int .i64 0), (.int .i64 a1), (.int .i64 0)] [], hF]) := hm64
  refine s_val (v := (.int .i64 0)) (won rfl) rfl rfl (x_assign rfl rfl) ?_
  refine wpList_nil ?_
  refine nx ?_
  refine wp_ret ?_
  obtain rfl := Option.some.inj he
  refine r_ret (v := (.tuple #[(.agg #[(.int .i64 a0), (.bool true), (.slice none 0 0), (.slice none 0 0), (.int .i64 0), (.int .i64 0), (.int .i64 a1), (.int .i64 0)]), (.int .i64 0)])) (rv_list rfl rfl (RVs.cell (cs := [(.int .i64 a0), (.bool true), (.slice none 0 0), (.slice none 0 0), (.int .i64 0), (.int .i64 0), (.int .i64 a1), (.int .i64 0)]) rfl rfl tyN_65 (seg_cells (o' := 0) (j := 0) hm64 (k := 0) rfl rfl rfl) (RVs.tmp (v := (.int .i64 0)) rfl rfl RVs.nil))) rfl ?_
  exact ⟨(.slice none 0 0), [], (.slice none 0 0), [], rfl, (OwF.nil 3 (FK.int .i64)), (OwF.nil 3 (FK.int .i64)), Mem.pick [1000, 1001, 1] rfl hm64⟩
def slices_Index___int_int__l1 (F : Nat) (a0 : (List Int)) (a1 : Int) : Nat → Int → Option (Fl (Int) (Unit))
  | 0, _ => none
  | k + 1, s117 => (bif (decide (s117 < (a0.length : Int))) then gd ((0 : Int) ≤ s117 ∧ s117 < (a0.length : Int)) ((bif (decide (a1 = (ix a0 s117))) then (some (Fl.out s117)) else slices_Index___int_int__l1 F a0 a1 k (IntKind.wrap .i64 (s117 + 1)))) else (some (Fl.go ())))
def slices_Index___int_int_ (F : Nat) (a0 : (List Int)) (a1 : Int) : Option (Int) := (slices_Index___int_int__l1 F a0 a1 F 0 : Option (Fl (Int) (Unit))).bind fun l101 => l101.on fun (s100 : (Unit)) => (some (-1))
set_option maxHeartbeats 400000 in
set_option maxRecDepth 100000 in
theorem slices_Index___int_int__ok (F : Nat) {w0 w : World} {hR hF : Hp} {v0x0 : Value} (a0 : (List Int)) (a1 : Int) {r : (Int)} (H0x0 : RdF w0 (FK.int .i64) v0x0 a0 hR) (hs : Sub hR hF) (hm : Mem w0 w (cat [hF])) (he : slices_Index___int_int_ F a0 a1 = some r) :
    Calls Try.prog 93 #[v0x0, (.int .i64 a1)] w (fun e w' => e = .returned (.int .i64 r) ∧ Mem w0 w' (cat [hF])) := by
 refine calls_fr (n := 19) Try.func93 rfl rfl rfl ?_
 unfold slices_Index___int_int_ at he
 refine wp_seq ?_
 refine wp_region_lit ?_
 refine s_val (v := (.int .i64 0)) (won rfl) rfl rfl (x_assign rfl rfl) ?_
 refine wpList_nil ?_
 refine nx ?_
 obtain ⟨l101, hT103, hk102⟩ := bindE he
 replace he := hT103
 refine wp_seqJ (fun a w => ∃ (s100 : (Unit)) (f : Nat → Value), l101 = Fl.go s100 ∧ a = fr 19 f ∧ Mem w0 w (cat [hF])) ?_ ?_
 ·
  refine wp_seq ?_
  refine wp_region_lit ?_
  refine s_val (v := v0x0) (won rfl) rfl rfl (x_move rfl (ev (t := 0) rfl rfl)) ?_
  refine s_val (v := (.int .i64 (a0.length : Int))) (won rfl) rfl rfl (x_len rfl slt_26 (ev (t := 6) rfl rfl) (H0x0).sl) ?_
  refine s_val (v := (.int .i64 0)) (won rfl) rfl rfl (x_move rfl rfl) ?_
  refine wpList_nil ?_
  refine nx ?_
  refine wp_block ?_
  refine wp_fuel (I := fun k => fun a w => ∃ (s117 : Int) (f : Nat → Value), slices_Index___int_int__l1 F a0 a1 k s117 = some l101 ∧ a = fr 19 f ∧ f 0 = v0x0 ∧ f 1 = (.int .i64 a1) ∧ f 7 = (.int .i64 (a0.length : Int)) ∧ f 8 = (.int .i64 s117) ∧ Mem w0 w (cat [hF])) F _ _ ⟨0, _, he, rfl, rfl, rfl, rfl, rfl, Mem.pick [0] rfl hm⟩ ?_ ?_
  ·
   rintro a w ⟨s117, f, he, rfl, q114, q115, q116, q118, hm126⟩
   rw [slices_Index___int_int__l1] at he; exact none_no he
  ·
   rintro k a w ⟨s117, f, he, rfl, q114, q115, q116, q118, hm128⟩
   rw [slices_Index___int_int__l1] at he
   refine wp_seq ?_
   refine wp_region_lit ?_
   refine s_val (v := (.bool (decide (s117 < (a0.length : Int))))) (won rfl) rfl rfl (x_lss rfl (ev (t := 8) (v := (.int .i64 s117)) rfl q118) (ev (t := 7) (v := (.int .i64 (a0.length : Int))) rfl q116)) ?_
   refine wpList_nil ?_
   refine nx ?_
   refine wp_seq ?_
   rcases Bool.eq_false_or_eq_true ((decide (s117 < (a0.length : Int)))) with hb130 | hb130
   ·
    replace he := bifT he hb130
    refine c_true rfl (p := (decide (s117 < (a0.length : Int)))) rfl rfl hb130 ?_
    refine wp_skip ?_
    refine nx ?_
    refine wp_seq ?_
    refine wp_block ?_
    refine wp_seq ?_
    refine wp_region_lit ?_
    refine s_val (v := (.int .i64 s117)) (won rfl) rfl rfl (x_move rfl (ev (t := 8) (v := (.int .i64 s117)) rfl q118)) ?_
    refine s_val (v := (.int .i64 s117)) (won rfl) rfl rfl (x_assign rfl (ev (t := 10) rfl rfl)) ?_
    refine wpList_nil ?_
    refine nx ?_
    refine wp_seq ?_
    obtain ⟨hg133, he⟩ := gdE he
    refine wp_region_lit ?_
    refine s_val (v := (.int .i64 a1)) (won rfl) rfl rfl (x_move rfl (ev (t := 1) (v := (.int .i64 a1)) rfl q115)) ?_
    refine s_val (v := v0x0) (won rfl) rfl rfl (x_move rfl (ev (t := 0) (v := v0x0) rfl q114)) ?_
    refine s_val (v := (.int .i64 s117)) (won rfl) rfl rfl (x_move rfl (ev (t := 5) rfl rfl)) ?_
    refine s_val (v := (.pointer (some ((slA v0x0).add (Int.toNat s117 * 1))))) (won rfl) rfl rfl (x_index (d := (FK.int .i64)) rfl slt_26 (ev (t := 12) rfl rfl) (ev (t := 13) rfl rfl) H0x0 hg133.1 hg133.2) ?_
    refine s_val (v := (.int .i64 (ix a0 s117))) (won rfl) rfl rfl (x_load rfl ty1x3 (ev (t := 14) rfl rfl) (RdF.cell0 H0x0 hm128 (Sub.trans hs (Sub.at_ (k := 0) rfl)) hg133.1 hg133.2 rfl)) ?_
    refine s_val (v := (.bool (decide (a1 = (ix a0 s117))))) (won rfl) rfl rfl (x_eql rfl (ev (t := 11) rfl rfl) (ev (t := 15) rfl rfl)) ?_
    refine wpList_nil ?_
    refine nx ?_
    rcases Bool.eq_false_or_eq_true ((decide (a1 = (ix a0 s117)))) with hb134 | hb134
    ·
     replace he := bifT he hb134
     refine c_true rfl (p := (decide (a1 = (ix a0 s117)))) rfl rfl hb134 ?_
     refine wp_seq ?_
     refine wp_region_lit ?_
     refine s_val (v := (.int .i64 s117)) (won rfl) rfl rfl (x_move rfl (ev (t := 5) rfl rfl)) ?_
     refine s_val (v := (.int .i64 s117)) (won rfl) rfl rfl (x_assign rfl (ev (t := 17) rfl rfl)) ?_
     refine wpList_nil ?_
     refine nx ?_
     refine wp_ret ?_
     refine rb ?_
     refine xr ?_
     refine xr ?_
     refine rb ?_
     refine xr ?_
     obtain rfl := Option.some.inj he
     replace he := outE hk102
     obtain rfl := Option.some.inj he
     refine r_ret (v := (.int .i64 s117)) (rv_one rfl (RVs.tmp (v := (.int .i64 s117)) rfl rfl RVs.nil)) rfl ?_
     exact ⟨rfl, Mem.pick [0] rfl hm128⟩
    ·
     replace he := bifF he hb134
     refine c_false rfl (p := (decide (a1 = (ix a0 s117)))) rfl rfl hb134 ?_
     refine wp_skip ?_
     refine nb ?_
     refine nx ?_
     refine wp_region_lit ?_
     refine s_val (v := (.int .i64 (IntKind.wrap .i64 (s117 + 1)))) (won rfl) rfl rfl (x_add rfl (ev (t := 8) (v := (.int .i64 s117)) rfl q118) rfl) ?_
     refine s_val (v := (.int .i64 (IntKind.wrap .i64 (s117 + 1)))) (won rfl) rfl rfl (x_move rfl (ev (t := 18) rfl rfl)) ?_
     refine wpList_nil ?_
     refine nx ?_
     exact ⟨(IntKind.wrap .i64 (s117 + 1)), _, he, rfl, q114, q115, q116, rfl, Mem.pick [0] rfl hm128⟩
   ·
    replace he := bifF he hb130
    refine c_false rfl (p := (decide (s117 < (a0.length : Int)))) rfl rfl hb130 ?_
    refine wp_exit ?_
    refine xs ?_
    refine xs ?_
    refine xb ?_
    refine nx ?_
    obtain rfl := Option.some.inj he
    exact ⟨(), _, rfl, rfl, Mem.pick [0] rfl hm128⟩
 ·
  rintro a w ⟨s100, f, rfl, rfl, hm136⟩
  replace he := goE hk102
  refine wp_seq ?_
  refine wp_region_lit ?_
  refine s_val (v := (.int .i64 (-1))) (won rfl) rfl rfl (x_assign rfl rfl) ?_
  refine wpList_nil ?_
  refine nx ?_
  refine wp_ret ?_
  obtain rfl := Option.some.inj he
  refine r_ret (v := (.int .i64 (-1))) (rv_one rfl (RVs.tmp (v := (.int .i64 (-1))) rfl rfl RVs.nil)) rfl ?_
  exact ⟨rfl, Mem.pick [0] rfl hm136⟩
def slices_Contains___int_int_ (F : Nat) (a0 : (List Int)) (a1 : Int) : Option (Bool) := (slices_Index___int_int_ F a0 a1).bind fun r4 => (some (decide ((0 : Int) ≤ r4)))
set_option maxHeartbeats 400000 in
set_option maxRecDepth 100000 in
theorem slices_Contains___int_int__ok (F : Nat) {w0 w : World} {hR hF : Hp} {v0x0 : Value} (a0 : (List Int)) (a1 : Int) {r : (Bool)} (H0x0 : RdF w0 (FK.int .i64) v0x0 a0 hR) (hs : Sub hR hF) (hm : Mem w0 w (cat [hF])) (he : slices_Contains___int_int_ F a0 a1 = some r) :
    Calls Try.prog 79 #[v0x0, (.int .i64 a1)] w (fun e w' => e = .returned (.bool r) ∧ Mem w0 w' (cat [hF])) := by
 refine calls_fr (n := 9) Try.func79 rfl rfl rfl ?_
 unfold slices_Contains___int_int_ at he
 refine wp_seq ?_
 refine wp_region_lit ?_
 refine s_val (v := (.bool false)) (won rfl) rfl rfl (x_assign rfl rfl) ?_
 refine wpList_nil ?_
 refine nx ?_
 refine wp_seq ?_
 obtain ⟨r4, hr4, he⟩ := bindE he
 refine wp_region_lit ?_
 refine s_val (v := v0x0) (won rfl) rfl rfl (x_move rfl (ev (t := 0) rfl rfl)) ?_
 refine s_val (v := (.int .i64 a1)) (won rfl) rfl rfl (x_move rfl (ev (t := 1) rfl rfl)) ?_
 refine s_call (won rfl) rfl rfl (x_call rfl rfl cl_93 (map_lit (map_cons (ev (t := 5) rfl rfl) (map_cons (ev (t := 6) rfl rfl) map_nil)))) (slices_Index___int_int__ok F (hR := (cat [hR])) (hF := cat [hF]) a0 a1 (H0x0.mono (Sub.at_ (k := 0) rfl)) (subc (Sub.trans hs (Sub.at_ (k := 0) rfl)) subn) (Mem.one hm) hr4) ?_
 rintro e w5 ⟨rfl, hm6⟩
 refine ⟨_, rfl, ?_⟩
 replace hm6 : Mem w0 w5 (cat [hF]) := Mem.un hm6
 refine s_val (v := (.bool (decide ((0 : Int) ≤ r4)))) (won rfl) rfl rfl (x_geq rfl (ev (t := 7) rfl rfl) rfl) ?_
 refine s_val (v := (.bool (decide ((0 : Int) ≤ r4)))) (won rfl) rfl rfl (x_assign rfl (ev (t := 8) rfl rfl)) ?_
 refine wpList_nil ?_
 refine nx ?_
 refine wp_ret ?_
 obtain rfl := Option.some.inj he
 refine r_ret (v := (.bool (decide ((0 : Int) ≤ r4)))) (rv_one rfl (RVs.tmp (v := (.bool (decide ((0 : Int) ≤ r4)))) rfl rfl RVs.nil)) rfl ?_
 exact ⟨rfl, Mem.pick [0] rfl hm6⟩
def impl_Ring_post (F : Nat) (a0 : impl_Ring) (a1 : Int) : Option (Int × impl_Ring) := (impl_inRange a1 0 999).bind fun r90 => (bif (!r90) then (some (4, a0)) else (slices_Contains___int_int_ F a0.Posted a1).bind fun r94 => (bif (!r94) then slices_Contains___int_int_ F a0.Done a1 else some false).bind fun r97 => (bif (r94 || r97) then (some (9, a0)) else (bif (decide ((IntKind.wrap .i64 ((a0.Posted.length : Int) + (a0.Done.length : Int))) = a0.Size)) then (some (7, a0)) else gd ((a0.Posted.length + ([a1] : List Int).length) * 8 ≤ 140737488355328) ((some (0, (impl_Ring.mk a0.Size a0.Up (a0.Posted ++ ([a1] : List Int)) a0.Done a0.Lost a0.Pending a0.Every a0.Signals)))))))
set_option maxHeartbeats 400000 in
set_option maxRecDepth 100000 in
theorem impl_Ring_post_ok (F : Nat) {w0 w : World} {hR hF : Hp} {v0x2 : Value} {h0x2 : Hp} {v0x3 : Value} {g0 T0 o0 : Nat} {fr0 : Nat × Nat} {pre0 post0 : List Value} (a0 : impl_Ring) (a1 : Int) {r : (Int × impl_Ring)} (H0x2 : OwF 3 (FK.int .i64) v0x2 a0.Posted h0x2) (H0x3 : RdF w0 (FK.int .i64) v0x3 a0.Done hR) (hs : Sub hR hF) (hp0 : pre0.length = o0) (hm : Mem w0 w (cat [sg g0 T0 fr0 pre0 [(.int .i64 a0.Size), (.bool a0.Up), v0x2, v0x3, (.int .i64 a0.Lost), (.int .i64 a0.Pending), (.int .i64 a0.Every), (.int .i64 a0.Signals)] post0, h0x2, hF])) (he : impl_Ring_post F a0 a1 = some r) :
    Calls Try.prog 90 #[(.pointer (some ⟨g0, o0, none⟩)), (.int .i64 a1)] w (fun e w' => ∃ (v'0 : Value) (h'0 : Hp), e = .returned (.int .i64 r.1) ∧ OwF 3 (FK.int .i64) v'0 r.2.Posted h'0 ∧ Mem w0 w' (cat [sg g0 T0 fr0 pre0 [(.int .i64 a0.Size), (.bool a0.Up), v'0, v0x3, (.int .i64 a0.Lost), (.int .i64 a0.Pending), (.int .i64 a0.Every), (.int .i64 a0.Signals)] post0, h'0, hF])) := by
 refine calls_fr (n := 51) Try.func90 rfl rfl rfl ?_
 unfold impl_Ring_post at he
 refine wp_seq ?_
 refine wp_region_lit ?_
 refine s_val (v := (.int .i64 0)) (won rfl) rfl rfl (x_assign rfl rfl) ?_
 refine wpList_nil ?_
 refine nx ?_
 refine wp_seq ?_
 refine wp_block ?_
 refine wp_seq ?_
 obtain ⟨r90, hr90, he⟩ := bindE he
 refine wp_region_lit ?_
 refine s_val (v := (.int .i64 a1)) (won rfl) rfl rfl (x_move rfl (ev (t := 1) rfl rfl)) ?_
 refine s_call (won rfl) rfl rfl (x_call rfl rfl cl_58 (map_lit (map_cons (ev (t := 6) rfl rfl) (map_cons rfl (map_cons rfl map_nil))))) (impl_inRange_ok (hR := (cat [])) (hF := cat [sg g0 T0 fr0 pre0 [(.int .i64 a0.Size), (.bool a0.Up), v0x2, v0x3, (.int .i64 a0.Lost), (.int .i64 a0.Pending), (.int .i64 a0.Every), (.int .i64 a0.Signals)] post0, h0x2, hF]) a1 0 999  (Mem.one hm) hr90) ?_
 rintro e w91 ⟨rfl, hm92⟩
 refine ⟨_, rfl, ?_⟩
 replace hm92 : Mem w0 w91 (cat [sg g0 T0 fr0 pre0 [(.int .i64 a0.Size), (.bool a0.Up), v0x2, v0x3, (.int .i64 a0.Lost), (.int .i64 a0.Pending), (.int .i64 a0.Every), (.int .i64 a0.Signals)] post0, h0x2, hF]) := Mem.un hm92
 refine s_val (v := (.bool (!r90))) (won rfl) rfl rfl (x_not rfl (ev (t := 7) rfl rfl)) ?_
 refine s_val (v := (.bool (!r90))) (won rfl) rfl rfl (x_assign rfl (ev (t := 8) rfl rfl)) ?_
 refine wpList_nil ?_
 refine nx ?_
 rcases Bool.eq_false_or_eq_true ((!r90)) with hb93 | hb93
 ·
  replace he := bifT he hb93
  refine c_true rfl (p := (!r90)) rfl rfl hb93 ?_
  refine wp_seq ?_
  refine wp_region_lit ?_
  refine s_val (v := (.int .i64 4)) (won rfl) rfl rfl (x_assign rfl rfl) ?_
  refine wpList_nil ?_
  refine nx ?_
  refine wp_ret ?_
  refine rb ?_
  refine xr ?_
  obtain rfl := Option.some.inj he
  refine r_ret (v := (.int .i64 4)) (rv_one rfl (RVs.tmp (v := (.int .i64 4)) rfl rfl RVs.nil)) rfl ?_
  exact ⟨v0x2, h0x2, rfl, H0x2, Mem.pick [0, 1, 2] rfl hm92⟩
 ·
  replace he := bifF he hb93
  refine c_false rfl (p := (!r90)) rfl rfl hb93 ?_
  refine wp_seq ?_
  obtain ⟨r94, hr94, he⟩ := bindE he
  obtain ⟨r97, hr97, he⟩ := bindE he
  refine wp_region_lit ?_
  refine s_val (v := (.pointer (some ⟨g0, o0, none⟩))) (won rfl) rfl rfl (x_move rfl (ev (t := 0) rfl rfl)) ?_
  refine s_val (v := (.pointer (some ⟨g0, o0, none⟩))) (won rfl) rfl rfl (x_nil rfl (ev (t := 10) rfl rfl)) ?_
  refine s_val (v := (.pointer (some ⟨g0, o0 + 2, none⟩))) (won rfl) rfl rfl (x_field rfl fa_65x2 (ev (t := 11) rfl rfl)) ?_
  refine s_val (v := v0x2) (won rfl) rfl rfl (x_load rfl ty1x26 (ev (t := 12) rfl rfl) (seg_cell (o' := o0) (j := 2) hm92 (k := 0) rfl hp0 rfl)) ?_
  refine s_val (v := (.int .i64 a1)) (won rfl) rfl rfl (x_move rfl (ev (t := 1) rfl rfl)) ?_
  refine s_call (won rfl) rfl rfl (x_call rfl rfl cl_79 (map_lit (map_cons (ev (t := 13) rfl rfl) (map_cons (ev (t := 14) rfl rfl) map_nil)))) (slices_Contains___int_int__ok F (hR := (cat [h0x2])) (hF := cat [sg g0 T0 fr0 pre0 [(.int .i64 a0.Size), (.bool a0.Up), v0x2, v0x3, (.int .i64 a0.Lost), (.int .i64 a0.Pending), (.int .i64 a0.Every), (.int .i64 a0.Signals)] post0, h0x2, hF]) a0.Posted a1 ((H0x2.rd w0).mono (Sub.at_ (k := 0) rfl)) (subc (Sub.at_ (k := 1) rfl) subn) (Mem.one hm92) hr94) ?_
  rintro e w95 ⟨rfl, hm96⟩
  refine ⟨_, rfl, ?_⟩
  replace hm96 : Mem w0 w95 (cat [sg g0 T0 fr0 pre0 [(.int .i64 a0.Size), (.bool a0.Up), v0x2, v0x3, (.int .i64 a0.Lost), (.int .i64 a0.Pending), (.int .i64 a0.Every), (.int .i64 a0.Signals)] post0, h0x2, hF]) := Mem.un hm96
  refine s_val (v := (.bool r94)) (won rfl) rfl rfl (x_move rfl (ev (t := 15) rfl rfl)) ?_
  refine s_cval (p := (!r94)) (v := (.pointer (some ⟨g0, o0, none⟩))) (won_f (j := 6) (t := 16) (q := r94) rfl rfl rfl rfl rfl) rfl rfl (fun hp => (x_move rfl (ev (t := 0) rfl rfl))) ?_
  refine s_cval (p := (!r94)) (v := (.pointer (some ⟨g0, o0, none⟩))) (won_f (j := 6) (t := 16) (q := r94) rfl rfl rfl rfl rfl) rfl rfl (fun hp => (x_nil rfl (ev (t := 17) rfl (Eq.trans (b := cv (!r94) (.pointer (some ⟨g0, o0, none⟩))) rfl (on_c hp))))) ?_
  refine s_cval (p := (!r94)) (v := (.pointer (some ⟨g0, o0 + 3, none⟩))) (won_f (j := 6) (t := 16) (q := r94) rfl rfl rfl rfl rfl) rfl rfl (fun hp => (x_field rfl fa_65x3 (ev (t := 18) rfl (Eq.trans (b := cv (!r94) (.pointer (some ⟨g0, o0, none⟩))) rfl (on_c hp))))) ?_
  refine s_cval (p := (!r94)) (v := v0x3) (won_f (j := 6) (t := 16) (q := r94) rfl rfl rfl rfl rfl) rfl rfl (fun hp => (x_load rfl ty1x26 (ev (t := 19) rfl (Eq.trans (b := cv (!r94) (.pointer (some ⟨g0, o0 + 3, none⟩))) rfl (on_c hp))) (seg_cell (o' := o0) (j := 3) hm96 (k := 0) rfl hp0 rfl))) ?_
  refine s_cval (p := (!r94)) (v := (.int .i64 a1)) (won_f (j := 6) (t := 16) (q := r94) rfl rfl rfl rfl rfl) rfl rfl (fun hp => (x_move rfl (ev (t := 1) rfl rfl))) ?_
  refine s_ccall (p := (!r94)) (v := (.bool r97)) (J := fun w' => Mem w0 w' (cat [sg g0 T0 fr0 pre0 [(.int .i64 a0.Size), (.bool a0.Up), v0x2, v0x3, (.int .i64 a0.Lost), (.int .i64 a0.Pending), (.int .i64 a0.Every), (.int .i64 a0.Signals)] post0, h0x2, hF])) (won_f (j := 6) (t := 16) (q := r94) rfl rfl rfl rfl rfl) rfl rfl (fun hp => (x_call rfl rfl cl_79 (map_lit (map_cons (ev (t := 20) rfl (Eq.trans (b := cv (!r94) v0x3) rfl (on_c hp))) (map_cons (ev (t := 21) rfl (Eq.trans (b := cv (!r94) (.int .i64 a1)) rfl (on_c hp))) map_nil))))) (fun hp => ((slices_Contains___int_int__ok F (hR := (cat [hR])) (hF := cat [sg g0 T0 fr0 pre0 [(.int .i64 a0.Size), (.bool a0.Up), v0x2, v0x3, (.int .i64 a0.Lost), (.int .i64 a0.Pending), (.int .i64 a0.Every), (.int .i64 a0.Signals)] post0, h0x2, hF]) a0.Done a1 (H0x3.mono (Sub.at_ (k := 0) rfl)) (subc (Sub.trans hs (Sub.at_ (k := 2) rfl)) subn) (Mem.one hm96) (bifT hr97 hp))).mono fun e w2 h => ⟨h.1, Mem.un h.2⟩) hm96 ?_
  intro w98 hm99
  refine s_val (v := (.bool (r94 || r97))) (won rfl) rfl rfl (x_pick_or rfl (ev (t := 16) rfl rfl) rfl (fun hq => ev rfl (Eq.trans (b := cv (!r94) (.bool r97)) rfl (on_c (not_i hq))))) ?_
  refine s_val (v := (.bool (r94 || r97))) (won rfl) rfl rfl (x_assign rfl (ev (t := 23) rfl rfl)) ?_
  refine wpList_nil ?_
  refine nx ?_
  rcases Bool.eq_false_or_eq_true ((r94 || r97)) with hb100 | hb100
  ·
   replace he := bifT he hb100
   refine c_true rfl (p := (r94 || r97)) rfl rfl hb100 ?_
   refine wp_seq ?_
   refine wp_region_lit ?_
   refine s_val (v := (.int .i64 9)) (won rfl) rfl rfl (x_assign rfl rfl) ?_
   refine wpList_nil ?_
   refine nx ?_
   refine wp_ret ?_
   refine rb ?_
   refine xr ?_
   obtain rfl := Option.some.inj he
   refine r_ret (v := (.int .i64 9)) (rv_one rfl (RVs.tmp (v := (.int .i64 9)) rfl rfl RVs.nil)) rfl ?_
   exact ⟨v0x2, h0x2, rfl, H0x2, Mem.pick [0, 1, 2] rfl hm99⟩
  ·
   replace he := bifF he hb100
   refine c_false rfl (p := (r94 || r97)) rfl rfl hb100 ?_
   refine wp_seq ?_
   refine wp_qregion (cat [sg g0 T0 fr0 pre0 [(.int .i64 a0.Size), (.bool a0.Up), v0x2, v0x3, (.int .i64 a0.Lost), (.int .i64 a0.Pending), (.int .i64 a0.Every), (.int .i64 a0.Signals)] post0, h0x2, hF]) mixed (by kernel_rfl) hm99 ?_
   refine q_val (v := (.pointer (some ⟨g0, o0, none⟩))) (won rfl) rfl rfl (fun wq hq => (x_move rfl (ev (t := 0) rfl rfl))) ?_
   refine q_val (v := (.pointer (some ⟨g0, o0, none⟩))) (won rfl) rfl rfl (fun wq hq => (x_nil rfl (ev (t := 25) rfl rfl))) ?_
   refine q_val (v := (.pointer (some ⟨g0, o0 + 2, none⟩))) (won rfl) rfl rfl (fun wq hq => (x_field rfl fa_65x2 (ev (t := 26) rfl rfl))) ?_
   refine q_val (v := v0x2) (won rfl) rfl rfl (fun wq hq => (x_load rfl ty1x26 (ev (t := 27) rfl rfl) (seg_cell (o' := o0) (j := 2) hq (k := 0) rfl hp0 rfl))) ?_
   refine q_val (v := (.int .i64 (a0.Posted.length : Int))) (won rfl) rfl rfl (fun wq hq => (x_len rfl slt_26 (ev (t := 28) rfl rfl) (H0x2).sl)) ?_
   refine q_val (v := (.pointer (some ⟨g0, o0, none⟩))) (won rfl) rfl rfl (fun wq hq => (x_move rfl (ev (t := 0) rfl rfl))) ?_
   refine q_val (v := (.pointer (some ⟨g0, o0, none⟩))) (won rfl) rfl rfl (fun wq hq => (x_nil rfl (ev (t := 30) rfl rfl))) ?_
   refine q_val (v := (.pointer (some ⟨g0, o0 + 3, none⟩))) (won rfl) rfl rfl (fun wq hq => (x_field rfl fa_65x3 (ev (t := 31) rfl rfl))) ?_
   refine q_val (v := v0x3) (won rfl) rfl rfl (fun wq hq => (x_load rfl ty1x26 (ev (t := 32) rfl rfl) (seg_cell (o' := o0) (j := 3) hq (k := 0) rfl hp0 rfl))) ?_
   refine q_val (v := (.int .i64 (a0.Done.length : Int))) (won rfl) rfl rfl (fun wq hq => (x_len rfl slt_26 (ev (t := 33) rfl rfl) (H0x3).sl)) ?_
   refine q_val (v := (.int .i64 (IntKind.wrap .i64 ((a0.Posted.length : Int) + (a0.Done.length : Int))))) (won rfl) rfl rfl (fun wq hq => (x_add rfl (ev (t := 29) rfl rfl) (ev (t := 34) rfl rfl))) ?_
   refine q_val (v := (.pointer (some ⟨g0, o0, none⟩))) (won rfl) rfl rfl (fun wq hq => (x_move rfl (ev (t := 0) rfl rfl))) ?_
   refine q_val (v := (.pointer (some ⟨g0, o0, none⟩))) (won rfl) rfl rfl (fun wq hq => (x_nil rfl (ev (t := 36) rfl rfl))) ?_
   refine q_val (v := (.pointer (some ⟨g0, o0, none⟩))) (won rfl) rfl rfl (fun wq hq => (x_field rfl fa_65x0 (ev (t := 37) rfl rfl))) ?_
   refine q_val (v := (.int .i64 a0.Size)) (won rfl) rfl rfl (fun wq hq => (x_load rfl ty1x3 (ev (t := 38) rfl rfl) (seg_cell (o' := o0) (j := 0) hq (k := 0) rfl hp0 rfl))) ?_
   refine q_val (v := (.bool (decide ((IntKind.wrap .i64 ((a0.Posted.length : Int) + (a0.Done.length : Int))) = a0.Size)))) (won rfl) rfl rfl (fun wq hq => (x_eql rfl (ev (t := 35) rfl rfl) (ev (t := 39) rfl rfl))) ?_
   refine q_val (v := (.bool (decide ((IntKind.wrap .i64 ((a0.Posted.length : Int) + (a0.Done.length : Int))) = a0.Size)))) (won rfl) rfl rfl (fun wq hq => (x_assign rfl (ev (t := 40) rfl rfl))) ?_
   refine wpQuiet_nil ?_
   intro w101 hm102
   refine nx ?_
   rcases Bool.eq_false_or_eq_true ((decide ((IntKind.wrap .i64 ((a0.Posted.length : Int) + (a0.Done.length : Int))) = a0.Size))) with hb103 | hb103
   ·
    replace he := bifT he hb103
    refine c_true rfl (p := (decide ((IntKind.wrap .i64 ((a0.Posted.length : Int) + (a0.Done.length : Int))) = a0.Size))) rfl rfl hb103 ?_
    refine wp_seq ?_
    refine wp_region_lit ?_
    refine s_val (v := (.int .i64 7)) (won rfl) rfl rfl (x_assign rfl rfl) ?_
    refine wpList_nil ?_
    refine nx ?_
    refine wp_ret ?_
    refine rb ?_
    refine xr ?_
    obtain rfl := Option.some.inj he
    refine r_ret (v := (.int .i64 7)) (rv_one rfl (RVs.tmp (v := (.int .i64 7)) rfl rfl RVs.nil)) rfl ?_
    exact ⟨v0x2, h0x2, rfl, H0x2, Mem.pick [0, 1, 2] rfl hm102⟩
   ·
    replace he := bifF he hb103
    refine c_false rfl (p := (decide ((IntKind.wrap .i64 ((a0.Posted.length : Int) + (a0.Done.length : Int))) = a0.Size))) rfl rfl hb103 ?_
    refine wp_skip ?_
    refine nb ?_
    refine nx ?_
    refine wp_seq ?_
    obtain ⟨hg109, he⟩ := gdE he
    refine wp_region_lit ?_
    refine s_val (v := (.pointer (some ⟨g0, o0, none⟩))) (won rfl) rfl rfl (x_move rfl (ev (t := 0) rfl rfl)) ?_
    refine s_val (v := (.pointer (some ⟨g0, o0, none⟩))) (won rfl) rfl rfl (x_move rfl (ev (t := 0) rfl rfl)) ?_
    refine s_val (v := (.pointer (some ⟨g0, o0, none⟩))) (won rfl) rfl rfl (x_nil rfl (ev (t := 42) rfl rfl)) ?_
    refine s_val (v := (.pointer (some ⟨g0, o0 + 2, none⟩))) (won rfl) rfl rfl (x_field rfl fa_65x2 (ev (t := 43) rfl rfl)) ?_
    refine s_val (v := v0x2) (won rfl) rfl rfl (x_load rfl ty1x26 (ev (t := 44) rfl rfl) (seg_cell (o' := o0) (j := 2) hm102 (k := 0) rfl hp0 rfl)) ?_
    refine s_val (v := (.int .i64 a1)) (won rfl) rfl rfl (x_move rfl (ev (t := 1) rfl rfl)) ?_
    refine s_exv (won rfl) rfl rfl (e_litp (cells := [(.int .i64 a1)]) (ps := [(0, (.int .i64 a1))]) rfl slt_26 (pmap_lit (pmap_cons (ev (t := 46) rfl rfl) pmap_nil)) (fun w1 => run_bslicez (cells := [(.int .i64 a1)]) (zs := [.int .i64 0]) (zc := [.int .i64 0]) slt_26 rfl rfl (by kernel_rfl) (fill_cons (cs := [(.int .i64 a1)]) rfl rfl rfl fill_nil) (by decide)) hm102) ?_
    rintro g106 w104 hm105
    have H107 : OwF 3 (FK.int .i64) (.slice (some ⟨g106, 0, none⟩) 1 1) ([a1] : List Int) (sg g106 3 (0, 0) [] (encs (FK.int .i64) ([a1] : List Int)) []) := OwF.lit g106 ([a1] : List Int) 1 rfl (by decide)
    replace hm105 : Mem w0 w104 (cat [(sg g106 3 (0, 0) [] (encs (FK.int .i64) ([a1] : List Int)) []), sg g0 T0 fr0 pre0 [(.int .i64 a0.Size), (.bool a0.Up), v0x2, v0x3, (.int .i64 a0.Lost), (.int .i64 a0.Pending), (.int .i64 a0.Every), (.int .i64 a0.Signals)] post0, h0x2, hF]) := hm105
    refine s_exv (won rfl) rfl rfl (e_append (bytes := 8) rfl slt_26 rfl (ev (t := 45) rfl rfl) (ev (t := 47) rfl rfl) H0x2 (k := 2) rfl (H107.rd w0) (Sub.at_ (k := 0) rfl) hm105 hg109 (len63 hg109 rfl)) ?_
    rintro p111 w113 ⟨H112, hm114⟩
    replace hm114 : Mem w0 w113 (cat [(sg g106 3 (0, 0) [] (encs (FK.int .i64) ([a1] : List Int)) []), sg g0 T0 fr0 pre0 [(.int .i64 a0.Size), (.bool a0.Up), v0x2, v0x3, (.int .i64 a0.Lost), (.int .i64 a0.Pending), (.int .i64 a0.Every), (.int .i64 a0.Signals)] post0, p111.2, hF]) := hm114
    refine s_val (v := (.pointer (some ⟨g0, o0, none⟩))) (won rfl) rfl rfl (x_nil rfl (ev (t := 41) rfl rfl)) ?_
    refine s_val (v := (.pointer (some ⟨g0, o0 + 2, none⟩))) (won rfl) rfl rfl (x_field rfl fa_65x2 (ev (t := 49) rfl rfl)) ?_
    refine s_exs (won rfl) rfl (e_store (vs := [p111.1]) (o' := o0) (j := 2) rfl sz_26 (ev (t := 50) rfl rfl) (ev (t := 48) rfl rfl) (IsSl.cells (H112).sl) (one_cons (IsSl.one (H112).sl) one_nil) hm114 (k := 1) rfl hp0 rfl) ?_
    intro w115 hm116
    replace hm116 : Mem w0 w115 (cat [(sg g106 3 (0, 0) [] (encs (FK.int .i64) ([a1] : List Int)) []), sg g0 T0 fr0 pre0 [(.int .i64 a0.Size), (.bool a0.Up), p111.1, v0x3, (.int .i64 a0.Lost), (.int .i64 a0.Pending), (.int .i64 a0.Every), (.int .i64 a0.Signals)] post0, p111.2, hF]) := hm116
    refine wpList_nil ?_
    have hm117 : Mem w0 w115 (cat [sg g0 T0 fr0 pre0 [(.int .i64 a0.Size), (.bool a0.Up), p111.1, v0x3, (.int .i64 a0.Lost), (.int .i64 a0.Pending), (.int .i64 a0.Every), (.int .i64 a0.Signals)] post0, p111.2, hF]) := Mem.pick [1, 2, 3] rfl hm116
    refine nx ?_
    refine wp_seq ?_
    refine wp_region_lit ?_
    refine s_val (v := (.int .i64 0)) (won rfl) rfl rfl (x_assign rfl rfl) ?_
    refine wpList_nil ?_
    refine nx ?_
    refine wp_ret ?_
    obtain rfl := Option.some.inj he
    refine r_ret (v := (.int .i64 0)) (rv_one rfl (RVs.tmp (v := (.int .i64 0)) rfl rfl RVs.nil)) rfl ?_
    exact ⟨p111.1, p111.2, rfl, H112, Mem.pick [0, 1, 2] rfl hm117⟩
def impl_Ring_arrive (a0 : impl_Ring) (a1 : (List Int)) : Option ((List Int) × impl_Ring) := (bif ((!a0.Up) || (decide ((a0.Posted.length : Int) = 0))) then (some (a1, (impl_Ring.mk a0.Size a0.Up a0.Posted a0.Done (iMin (IntKind.wrap .i64 (a0.Lost + 1)) 1000000000) a0.Pending a0.Every a0.Signals))) else gd ((0 : Int) ≤ 0 ∧ 0 < (a0.Posted.length : Int)) (gd ((0 : Int) ≤ 1 ∧ 1 ≤ (a0.Posted.length : Int)) (gd ((a0.Done.length + ([(ix a0.Posted 0)] : List Int).length) * 8 ≤ 140737488355328) (((bif (decide ((IntKind.wrap .i64 (a0.Pending + 1)) = a0.Every)) then (some (0, (iMin (IntKind.wrap .i64 (a0.Signals + 1)) 1000000000))) else (some ((IntKind.wrap .i64 (a0.Pending + 1)), a0.Signals))) : Option (Int × Int)).bind fun (s239 : (Int × Int)) => gd ((a1.length + ([(ix a0.Posted 0)] : List Int).length) * 8 ≤ 140737488355328) ((some ((a1 ++ ([(ix a0.Posted 0)] : List Int)), (impl_Ring.mk a0.Size a0.Up (slc a0.Posted (Int.toNat 1) a0.Posted.length) (a0.Done ++ ([(ix a0.Posted 0)] : List Int)) a0.Lost s239.1 a0.Every s239.2))))))))
set_option maxHeartbeats 400000 in
set_option maxRecDepth 100000 in
theorem impl_Ring_arrive_ok {w0 w : World} {hR hF : Hp} {v0x2 : Value} {h0x2 : Hp} {v0x3 : Value} {h0x3 : Hp} {g0 T0 o0 : Nat} {fr0 : Nat × Nat} {pre0 post0 : List Value} {v1x0 : Value} {h1x0 : Hp} (a0 : impl_Ring) (a1 : (List Int)) {r : ((List Int) × impl_Ring)} (H0x2 : OwF 3 (FK.int .i64) v0x2 a0.Posted h0x2) (H0x3 : OwF 3 (FK.int .i64) v0x3 a0.Done h0x3) (H1x0 : OwF 3 (FK.int .i64) v1x0 a1 h1x0) (hp0 : pre0.length = o0) (hm : Mem w0 w (cat [sg g0 T0 fr0 pre0 [(.int .i64 a0.Size), (.bool a0.Up), v0x2, v0x3, (.int .i64 a0.Lost), (.int .i64 a0.Pending), (.int .i64 a0.Every), (.int .i64 a0.Signals)] post0, h0x2, h0x3, h1x0, hF])) (he : impl_Ring_arrive a0 a1 = some r) :
    Calls Try.prog 91 #[(.pointer (some ⟨g0, o0, none⟩)), v1x0] w (fun e w' => ∃ (v'0 : Value) (h'0 : Hp) (v'1 : Value) (h'1 : Hp) (v'2 : Value) (h'2 : Hp), e = .returned v'2 ∧ OwF 3 (FK.int .i64) v'0 r.2.Posted h'0 ∧ OwF 3 (FK.int .i64) v'1 r.2.Done h'1 ∧ OwF 3 (FK.int .i64) v'2 r.1 h'2 ∧ Mem w0 w' (cat [sg g0 T0 fr0 pre0 [(.int .i64 a0.Size), (.bool a0.Up), v'0, v'1, (.int .i64 r.2.Lost), (.int .i64 r.2.Pending), (.int .i64 a0.Every), (.int .i64 r.2.Signals)] post0, h'0, h'1, h'2, hF])) := by
 refine calls_fr (n := 85) Try.func91 rfl rfl rfl ?_
 unfold impl_Ring_arrive at he
 refine wp_seq ?_
 refine wp_region_lit ?_
 refine s_val (v := (.slice none 0 0)) (won rfl) rfl rfl (x_assign rfl rfl) ?_
 refine wpList_nil ?_
 refine nx ?_
 refine wp_seq ?_
 refine wp_seq ?_
 refine wp_region_lit ?_
 refine s_val (v := (.pointer (some ⟨g0, o0, none⟩))) (won rfl) rfl rfl (x_move rfl (ev (t := 0) rfl rfl)) ?_
 refine s_val (v := (.pointer (some ⟨g0, o0, none⟩))) (won rfl) rfl rfl (x_nil rfl (ev (t := 6) rfl rfl)) ?_
 refine s_val (v := (.pointer (some ⟨g0, o0 + 1, none⟩))) (won rfl) rfl rfl (x_field rfl fa_65x1 (ev (t := 7) rfl rfl)) ?_
 refine s_val (v := (.bool a0.Up)) (won rfl) rfl rfl (x_load rfl ty1x4 (ev (t := 8) rfl rfl) (seg_cell (o' := o0) (j := 1) hm (k := 0) rfl hp0 rfl)) ?_
 refine s_val (v := (.bool (!a0.Up))) (won rfl) rfl rfl (x_not rfl (ev (t := 9) rfl rfl)) ?_
 refine s_val (v := (.bool (!a0.Up))) (won rfl) rfl rfl (x_move rfl (ev (t := 10) rfl rfl)) ?_
 refine s_cval (p := (!(!a0.Up))) (v := (.pointer (some ⟨g0, o0, none⟩))) (won_f (j := 5) (t := 11) (q := (!a0.Up)) rfl rfl rfl rfl rfl) rfl rfl (fun hp => (x_move rfl (ev (t := 0) rfl rfl))) ?_
 refine s_cval (p := (!(!a0.Up))) (v := (.pointer (some ⟨g0, o0, none⟩))) (won_f (j := 5) (t := 11) (q := (!a0.Up)) rfl rfl rfl rfl rfl) rfl rfl (fun hp => (x_nil rfl (ev (t := 12) rfl (Eq.trans (b := cv (!(!a0.Up)) (.pointer (some ⟨g0, o0, none⟩))) rfl (on_c hp))))) ?_
 refine s_cval (p := (!(!a0.Up))) (v := (.pointer (some ⟨g0, o0 + 2, none⟩))) (won_f (j := 5) (t := 11) (q := (!a0.Up)) rfl rfl rfl rfl rfl) rfl rfl (fun hp => (x_field rfl fa_65x2 (ev (t := 13) rfl (Eq.trans (b := cv (!(!a0.Up)) (.pointer (some ⟨g0, o0, none⟩))) rfl (on_c hp))))) ?_
 refine s_cval (p := (!(!a0.Up))) (v := v0x2) (won_f (j := 5) (t := 11) (q := (!a0.Up)) rfl rfl rfl rfl rfl) rfl rfl (fun hp => (x_load rfl ty1x26 (ev (t := 14) rfl (Eq.trans (b := cv (!(!a0.Up)) (.pointer (some ⟨g0, o0 + 2, none⟩))) rfl (on_c hp))) (seg_cell (o' := o0) (j := 2) hm (k := 0) rfl hp0 rfl))) ?_
 refine s_cval (p := (!(!a0.Up))) (v := (.int .i64 (a0.Posted.length : Int))) (won_f (j := 5) (t := 11) (q := (!a0.Up)) rfl rfl rfl rfl rfl) rfl rfl (fun hp => (x_len rfl slt_26 (ev (t := 15) rfl (Eq.trans (b := cv (!(!a0.Up)) v0x2) rfl (on_c hp))) (H0x2).sl)) ?_
 refine s_cval (p := (!(!a0.Up))) (v := (.bool (decide ((a0.Posted.length : Int) = 0)))) (won_f (j := 5) (t := 11) (q := (!a0.Up)) rfl rfl rfl rfl rfl) rfl rfl (fun hp => (x_eql rfl (ev (t := 16) rfl (Eq.trans (b := cv (!(!a0.Up)) (.int .i64 (a0.Posted.length : Int))) rfl (on_c hp))) rfl)) ?_
 refine s_val (v := (.bool ((!a0.Up) || (decide ((a0.Posted.length : Int) = 0))))) (won rfl) rfl rfl (x_pick_or rfl (ev (t := 11) rfl rfl) rfl (fun hq => ev rfl (Eq.trans (b := cv (!(!a0.Up)) (.bool (decide ((a0.Posted.length : Int) = 0)))) rfl (on_c (not_i hq))))) ?_
 refine wpList_nil ?_
 refine nx ?_
 rcases Bool.eq_false_or_eq_true (((!a0.Up) || (decide ((a0.Posted.length : Int) = 0)))) with hb204 | hb204
 ·
  replace he := bifT he hb204
  refine c_true rfl (p := ((!a0.Up) || (decide ((a0.Posted.length : Int) = 0)))) rfl rfl hb204 ?_
  refine wp_seq ?_
  refine wp_region_lit ?_
  refine s_val (v := (.pointer (some ⟨g0, o0, none⟩))) (won rfl) rfl rfl (x_move rfl (ev (t := 0) rfl rfl)) ?_
  refine s_val (v := (.pointer (some ⟨g0, o0, none⟩))) (won rfl) rfl rfl (x_move rfl (ev (t := 0) rfl rfl)) ?_
  refine s_val (v := (.pointer (some ⟨g0, o0, none⟩))) (won rfl) rfl rfl (x_nil rfl (ev (t := 20) rfl rfl)) ?_
  refine s_val (v := (.pointer (some ⟨g0, o0 + 4, none⟩))) (won rfl) rfl rfl (x_field rfl fa_65x4 (ev (t := 21) rfl rfl)) ?_
  refine s_val (v := (.int .i64 a0.Lost)) (won rfl) rfl rfl (x_load rfl ty1x3 (ev (t := 22) rfl rfl) (seg_cell (o' := o0) (j := 4) hm (k := 0) rfl hp0 rfl)) ?_
  refine s_val (v := (.int .i64 (IntKind.wrap .i64 (a0.Lost + 1)))) (won rfl) rfl rfl (x_add rfl (ev (t := 23) rfl rfl) rfl) ?_
  refine s_val (v := (.int .i64 (iMin (IntKind.wrap .i64 (a0.Lost + 1)) 1000000000))) (won rfl) rfl rfl (x_min rfl (ev (t := 24) rfl rfl) rfl) ?_
  refine s_val (v := (.pointer (some ⟨g0, o0, none⟩))) (won rfl) rfl rfl (x_nil rfl (ev (t := 19) rfl rfl)) ?_
  refine s_val (v := (.pointer (some ⟨g0, o0 + 4, none⟩))) (won rfl) rfl rfl (x_field rfl fa_65x4 (ev (t := 26) rfl rfl)) ?_
  refine s_exs (won rfl) rfl (e_store (vs := [(.int .i64 (iMin (IntKind.wrap .i64 (a0.Lost + 1)) 1000000000))]) (o' := o0) (j := 4) rfl sz_3 (ev (t := 27) rfl rfl) (ev (t := 25) rfl rfl) rfl rfl hm (k := 0) rfl hp0 rfl) ?_
  intro w205 hm206
  replace hm206 : Mem w0 w205 (cat [sg g0 T0 fr0 pre0 [(.int .i64 a0.Size), (.bool a0.Up), v0x2, v0x3, (.int .i64 (iMin (IntKind.wrap .i64 (a0.Lost + 1)) 1000000000)), (.int .i64 a0.Pending), (.int .i64 a0.Every), (.int .i64 a0.Signals)] post0, h0x2, h0x3, h1x0, hF]) := hm206
  refine wpList_nil ?_
  refine nx ?_
  refine wp_seq ?_
  refine wp_region_lit ?_
  refine s_val (v := v1x0) (won rfl) rfl rfl (x_move rfl (ev (t := 1) rfl rfl)) ?_
  refine s_val (v := v1x0) (won rfl) rfl rfl (x_assign rfl (ev (t := 28) rfl rfl)) ?_
  refine wpList_nil ?_
  refine nx ?_
  refine wp_ret ?_
  refine xr ?_
  obtain rfl := Option.some.inj he
  refine r_ret (v := v1x0) (rv_one rfl (RVs.tmp (v := v1x0) rfl rfl RVs.nil)) rfl ?_
  exact ⟨v0x2, h0x2, v0x3, h0x3, v1x0, h1x0, rfl, H0x2, H0x3, H1x0, Mem.pick [0, 1, 2, 3, 4] rfl hm206⟩
 ·
  replace he := bifF he hb204
  refine c_false rfl (p := ((!a0.Up) || (decide ((a0.Posted.length : Int) = 0)))) rfl rfl hb204 ?_
  refine wp_skip ?_
  refine nx ?_
  refine wp_seq ?_
  obtain ⟨hg207, he⟩ := gdE he
  refine wp_region_lit ?_
  refine s_val (v := (.pointer (some ⟨g0, o0, none⟩))) (won rfl) rfl rfl (x_move rfl (ev (t := 0) rfl rfl)) ?_
  refine s_val (v := (.pointer (some ⟨g0, o0, none⟩))) (won rfl) rfl rfl (x_nil rfl (ev (t := 29) rfl rfl)) ?_
  refine s_val (v := (.pointer (some ⟨g0, o0 + 2, none⟩))) (won rfl) rfl rfl (x_field rfl fa_65x2 (ev (t := 30) rfl rfl)) ?_
  refine s_val (v := v0x2) (won rfl) rfl rfl (x_load rfl ty1x26 (ev (t := 31) rfl rfl) (seg_cell (o' := o0) (j := 2) hm (k := 0) rfl hp0 rfl)) ?_
  refine s_val (v := (.pointer (some ((slA v0x2).add (Int.toNat 0 * 1))))) (won rfl) rfl rfl (x_index (d := (FK.int .i64)) rfl slt_26 (ev (t := 32) rfl rfl) rfl (H0x2.rd w0) hg207.1 hg207.2) ?_
  refine s_val (v := (.int .i64 (ix a0.Posted 0))) (won rfl) rfl rfl (x_load rfl ty1x3 (ev (t := 33) rfl rfl) (RdF.cell0 (H0x2.rd w0) hm (Sub.at_ (k := 1) rfl) hg207.1 hg207.2 rfl)) ?_
  refine s_val (v := (.int .i64 (ix a0.Posted 0))) (won rfl) rfl rfl (x_assign rfl (ev (t := 34) rfl rfl)) ?_
  refine wpList_nil ?_
  refine nx ?_
  refine wp_seq ?_
  obtain ⟨hg208, he⟩ := gdE he
  refine wp_region_lit ?_
  refine s_val (v := (.pointer (some ⟨g0, o0, none⟩))) (won rfl) rfl rfl (x_move rfl (ev (t := 0) rfl rfl)) ?_
  refine s_val (v := (.pointer (some ⟨g0, o0, none⟩))) (won rfl) rfl rfl (x_move rfl (ev (t := 0) rfl rfl)) ?_
  refine s_val (v := (.pointer (some ⟨g0, o0, none⟩))) (won rfl) rfl rfl (x_nil rfl (ev (t := 36) rfl rfl)) ?_
  refine s_val (v := (.pointer (some ⟨g0, o0 + 2, none⟩))) (won rfl) rfl rfl (x_field rfl fa_65x2 (ev (t := 37) rfl rfl)) ?_
  refine s_val (v := v0x2) (won rfl) rfl rfl (x_load rfl ty1x26 (ev (t := 38) rfl rfl) (seg_cell (o' := o0) (j := 2) hm (k := 0) rfl hp0 rfl)) ?_
  refine s_val (v := (cutV v0x2 (Int.toNat 1) a0.Posted.length 1)) (won rfl) rfl rfl (y_slice_l rfl slt_26 (ev (t := 39) rfl rfl) rfl (H0x2).sl hg208.1 hg208.2) ?_
  refine s_val (v := (.pointer (some ⟨g0, o0, none⟩))) (won rfl) rfl rfl (x_nil rfl (ev (t := 35) rfl rfl)) ?_
  refine s_val (v := (.pointer (some ⟨g0, o0 + 2, none⟩))) (won rfl) rfl rfl (x_field rfl fa_65x2 (ev (t := 41) rfl rfl)) ?_
  refine s_exs (won rfl) rfl (e_store (vs := [(cutV v0x2 (Int.toNat 1) a0.Posted.length 1)]) (o' := o0) (j := 2) rfl sz_26 (ev (t := 42) rfl rfl) (ev (t := 40) rfl rfl) (IsSl.cells ((cutV_rd (a := (Int.toNat 1)) (b := a0.Posted.length) (H0x2.rd w0) (by have := hg208; omega) (Nat.le_refl _))).sl) (one_cons (IsSl.one ((cutV_rd (a := (Int.toNat 1)) (b := a0.Posted.length) (H0x2.rd w0) (by have := hg208; omega) (Nat.le_refl _))).sl) one_nil) hm (k := 0) rfl hp0 rfl) ?_
  intro w210 hm211
  replace hm211 : Mem w0 w210 (cat [sg g0 T0 fr0 pre0 [(.int .i64 a0.Size), (.bool a0.Up), (cutV v0x2 (Int.toNat 1) a0.Posted.length 1), v0x3, (.int .i64 a0.Lost), (.int .i64 a0.Pending), (.int .i64 a0.Every), (.int .i64 a0.Signals)] post0, h0x2, h0x3, h1x0, hF]) := hm211
  refine wpList_nil ?_
  refine nx ?_
  refine wp_seq ?_
  obtain ⟨hg217, he⟩ := gdE he
  refine wp_region_lit ?_
  refine s_val (v := (.pointer (some ⟨g0, o0, none⟩))) (won rfl) rfl rfl (x_move rfl (ev (t := 0) rfl rfl)) ?_
  refine s_val (v := (.pointer (some ⟨g0, o0, none⟩))) (won rfl) rfl rfl (x_move rfl (ev (t := 0) rfl rfl)) ?_
  refine s_val (v := (.pointer (some ⟨g0, o0, none⟩))) (won rfl) rfl rfl (x_nil rfl (ev (t := 44) rfl rfl)) ?_
  refine s_val (v := (.pointer (some ⟨g0, o0 + 3, none⟩))) (won rfl) rfl rfl (x_field rfl fa_65x3 (ev (t := 45) rfl rfl)) ?_
  refine s_val (v := v0x3) (won rfl) rfl rfl (x_load rfl ty1x26 (ev (t := 46) rfl rfl) (seg_cell (o' := o0) (j := 3) hm211 (k := 0) rfl hp0 rfl)) ?_
  refine s_val (v := (.int .i64 (ix a0.Posted 0))) (won rfl) rfl rfl (x_move rfl (ev (t := 5) rfl rfl)) ?_
  refine s_exv (won rfl) rfl rfl (e_litp (cells := [(.int .i64 (ix a0.Posted 0))]) (ps := [(0, (.int .i64 (ix a0.Posted 0)))]) rfl slt_26 (pmap_lit (pmap_cons (ev (t := 48) rfl rfl) pmap_nil)) (fun w1 => run_bslicez (cells := [(.int .i64 (ix a0.Posted 0))]) (zs := [.int .i64 0]) (zc := [.int .i64 0]) slt_26 rfl rfl (by kernel_rfl) (fill_cons (cs := [(.int .i64 (ix a0.Posted 0))]) rfl rfl rfl fill_nil) (by decide)) hm211) ?_
  rintro g214 w212 hm213
  have H215 : OwF 3 (FK.int .i64) (.slice (some ⟨g214, 0, none⟩) 1 1) ([(ix a0.Posted 0)] : List Int) (sg g214 3 (0, 0) [] (encs (FK.int .i64) ([(ix a0.Posted 0)] : List Int)) []) := OwF.lit g214 ([(ix a0.Posted 0)] : List Int) 1 rfl (by decide)
  replace hm213 : Mem w0 w212 (cat [(sg g214 3 (0, 0) [] (encs (FK.int .i64) ([(ix a0.Posted 0)] : List Int)) []), sg g0 T0 fr0 pre0 [(.int .i64 a0.Size), (.bool a0.Up), (cutV v0x2 (Int.toNat 1) a0.Posted.length 1), v0x3, (.int .i64 a0.Lost), (.int .i64 a0.Pending), (.int .i64 a0.Every), (.int .i64 a0.Signals)] post0, h0x2, h0x3, h1x0, hF]) := hm213
  refine s_exv (won rfl) rfl rfl (e_append (bytes := 8) rfl slt_26 rfl (ev (t := 47) rfl rfl) (ev (t := 49) rfl rfl) H0x3 (k := 3) rfl (H215.rd w0) (Sub.at_ (k := 0) rfl) hm213 hg217 (len63 hg217 rfl)) ?_
  rintro p219 w221 ⟨H220, hm222⟩
  replace hm222 : Mem w0 w221 (cat [(sg g214 3 (0, 0) [] (encs (FK.int .i64) ([(ix a0.Posted 0)] : List Int)) []), sg g0 T0 fr0 pre0 [(.int .i64 a0.Size), (.bool a0.Up), (cutV v0x2 (Int.toNat 1) a0.Posted.length 1), v0x3, (.int .i64 a0.Lost), (.int .i64 a0.Pending), (.int .i64 a0.Every), (.int .i64 a0.Signals)] post0, h0x2, p219.2, h1x0, hF]) := hm222
  refine s_val (v := (.pointer (some ⟨g0, o0, none⟩))) (won rfl) rfl rfl (x_nil rfl (ev (t := 43) rfl rfl)) ?_
  refine s_val (v := (.pointer (some ⟨g0, o0 + 3, none⟩))) (won rfl) rfl rfl (x_field rfl fa_65x3 (ev (t := 51) rfl rfl)) ?_
  refine s_exs (won rfl) rfl (e_store (vs := [p219.1]) (o' := o0) (j := 3) rfl sz_26 (ev (t := 52) rfl rfl) (ev (t := 50) rfl rfl) (IsSl.cells (H220).sl) (one_cons (IsSl.one (H220).sl) one_nil) hm222 (k := 1) rfl hp0 rfl) ?_
  intro w223 hm224
  replace hm224 : Mem w0 w223 (cat [(sg g214 3 (0, 0) [] (encs (FK.int .i64) ([(ix a0.Posted 0)] : List Int)) []), sg g0 T0 fr0 pre0 [(.int .i64 a0.Size), (.bool a0.Up), (cutV v0x2 (Int.toNat 1) a0.Posted.length 1), p219.1, (.int .i64 a0.Lost), (.int .i64 a0.Pending), (.int .i64 a0.Every), (.int .i64 a0.Signals)] post0, h0x2, p219.2, h1x0, hF]) := hm224
  refine wpList_nil ?_
  have hm225 : Mem w0 w223 (cat [sg g0 T0 fr0 pre0 [(.int .i64 a0.Size), (.bool a0.Up), (cutV v0x2 (Int.toNat 1) a0.Posted.length 1), p219.1, (.int .i64 a0.Lost), (.int .i64 a0.Pending), (.int .i64 a0.Every), (.int .i64 a0.Signals)] post0, h0x2, p219.2, h1x0, hF]) := Mem.pick [1, 2, 3, 4, 5] rfl hm224
  refine nx ?_
  refine wp_seq ?_
  refine wp_region_lit ?_
  refine s_val (v := (.pointer (some ⟨g0, o0, none⟩))) (won rfl) rfl rfl (x_move rfl (ev (t := 0) rfl rfl)) ?_
  refine s_val (v := (.pointer (some ⟨g0, o0, none⟩))) (won rfl) rfl rfl (x_nil rfl (ev (t := 53) rfl rfl)) ?_
  refine s_val (v := (.pointer (some ⟨g0, o0 + 5, none⟩))) (won rfl) rfl rfl (x_field rfl fa_65x5 (ev (t := 54) rfl rfl)) ?_
  refine s_val (v := (.int .i64 a0.Pending)) (won rfl) rfl rfl (x_load rfl ty1x3 (ev (t := 55) rfl rfl) (seg_cell (o' := o0) (j := 5) hm225 (k := 0) rfl hp0 rfl)) ?_
  refine s_val (v := (.int .i64 (IntKind.wrap .i64 (a0.Pending + 1)))) (won rfl) rfl rfl (x_add rfl (ev (t := 56) rfl rfl) rfl) ?_
  refine s_val (v := (.pointer (some ⟨g0, o0, none⟩))) (won rfl) rfl rfl (x_nil rfl (ev (t := 53) rfl rfl)) ?_
  refine s_val (v := (.pointer (some ⟨g0, o0 + 5, none⟩))) (won rfl) rfl rfl (x_field rfl fa_65x5 (ev (t := 58) rfl rfl)) ?_
  refine s_exs (won rfl) rfl (e_store (vs := [(.int .i64 (IntKind.wrap .i64 (a0.Pending + 1)))]) (o' := o0) (j := 5) rfl sz_3 (ev (t := 59) rfl rfl) (ev (t := 57) rfl rfl) rfl rfl hm225 (k := 0) rfl hp0 rfl) ?_
  intro w226 hm227
  replace hm227 : Mem w0 w226 (cat [sg g0 T0 fr0 pre0 [(.int .i64 a0.Size), (.bool a0.Up), (cutV v0x2 (Int.toNat 1) a0.Posted.length 1), p219.1, (.int .i64 a0.Lost), (.int .i64 (IntKind.wrap .i64 (a0.Pending + 1))), (.int .i64 a0.Every), (.int .i64 a0.Signals)] post0, h0x2, p219.2, h1x0, hF]) := hm227
  refine wpList_nil ?_
  refine nx ?_
  obtain ⟨s239, hT241, hk240⟩ := bindE he
  replace he := hT241
  refine wp_seqJ (fun a w => ∃ (f : Nat → Value), a = fr 85 f ∧ f 1 = v1x0 ∧ f 5 = (.int .i64 (ix a0.Posted 0)) ∧ Mem w0 w (cat [sg g0 T0 fr0 pre0 [(.int .i64 a0.Size), (.bool a0.Up), (cutV v0x2 (Int.toNat 1) a0.Posted.length 1), p219.1, (.int .i64 a0.Lost), (.int .i64 s239.1), (.int .i64 a0.Every), (.int .i64 s239.2)] post0, h0x2, p219.2, h1x0, hF])) ?_ ?_
  ·
   refine wp_seq ?_
   refine wp_qregion (cat [sg g0 T0 fr0 pre0 [(.int .i64 a0.Size), (.bool a0.Up), (cutV v0x2 (Int.toNat 1) a0.Posted.length 1), p219.1, (.int .i64 a0.Lost), (.int .i64 (IntKind.wrap .i64 (a0.Pending + 1))), (.int .i64 a0.Every), (.int .i64 a0.Signals)] post0, h0x2, p219.2, h1x0, hF]) mixed (by kernel_rfl) hm227 ?_
   refine q_val (v := (.pointer (some ⟨g0, o0, none⟩))) (won rfl) rfl rfl (fun wq hq => (x_move rfl (ev (t := 0) rfl rfl))) ?_
   refine q_val (v := (.pointer (some ⟨g0, o0, none⟩))) (won rfl) rfl rfl (fun wq hq => (x_nil rfl (ev (t := 60) rfl rfl))) ?_
   refine q_val (v := (.pointer (some ⟨g0, o0 + 5, none⟩))) (won rfl) rfl rfl (fun wq hq => (x_field rfl fa_65x5 (ev (t := 61) rfl rfl))) ?_
   refine q_val (v := (.int .i64 (IntKind.wrap .i64 (a0.Pending + 1)))) (won rfl) rfl rfl (fun wq hq => (x_load rfl ty1x3 (ev (t := 62) rfl rfl) (seg_cell (o' := o0) (j := 5) hq (k := 0) rfl hp0 rfl))) ?_
   refine q_val (v := (.pointer (some ⟨g0, o0, none⟩))) (won rfl) rfl rfl (fun wq hq => (x_move rfl (ev (t := 0) rfl rfl))) ?_
   refine q_val (v := (.pointer (some ⟨g0, o0, none⟩))) (won rfl) rfl rfl (fun wq hq => (x_nil rfl (ev (t := 64) rfl rfl))) ?_
   refine q_val (v := (.pointer (some ⟨g0, o0 + 6, none⟩))) (won rfl) rfl rfl (fun wq hq => (x_field rfl fa_65x6 (ev (t := 65) rfl rfl))) ?_
   refine q_val (v := (.int .i64 a0.Every)) (won rfl) rfl rfl (fun wq hq => (x_load rfl ty1x3 (ev (t := 66) rfl rfl) (seg_cell (o' := o0) (j := 6) hq (k := 0) rfl hp0 rfl))) ?_
   refine q_val (v := (.bool (decide ((IntKind.wrap .i64 (a0.Pending + 1)) = a0.Every)))) (won rfl) rfl rfl (fun wq hq => (x_eql rfl (ev (t := 63) rfl rfl) (ev (t := 67) rfl rfl))) ?_
   refine wpQuiet_nil ?_
   intro w242 hm243
   refine nx ?_
   rcases Bool.eq_false_or_eq_true ((decide ((IntKind.wrap .i64 (a0.Pending + 1)) = a0.Every))) with hb244 | hb244
   ·
    replace he := bifT he hb244
    refine c_true rfl (p := (decide ((IntKind.wrap .i64 (a0.Pending + 1)) = a0.Every))) rfl rfl hb244 ?_
    refine wp_seq ?_
    refine wp_region_lit ?_
    refine s_val (v := (.pointer (some ⟨g0, o0, none⟩))) (won rfl) rfl rfl (x_move rfl (ev (t := 0) rfl rfl)) ?_
    refine s_val (v := (.pointer (some ⟨g0, o0, none⟩))) (won rfl) rfl rfl (x_nil rfl (ev (t := 69) rfl rfl)) ?_
    refine s_val (v := (.pointer (some ⟨g0, o0 + 5, none⟩))) (won rfl) rfl rfl (x_field rfl fa_65x5 (ev (t := 70) rfl rfl)) ?_
    refine s_exs (won rfl) rfl (e_store (vs := [(.int .i64 0)]) (o' := o0) (j := 5) rfl sz_3 (ev (t := 71) rfl rfl) rfl rfl rfl hm243 (k := 0) rfl hp0 rfl) ?_
    intro w245 hm246
    replace hm246 : Mem w0 w245 (cat [sg g0 T0 fr0 pre0 [(.int .i64 a0.Size), (.bool a0.Up), (cutV v0x2 (Int.toNat 1) a0.Posted.length 1), p219.1, (.int .i64 a0.Lost), (.int .i64 0), (.int .i64 a0.Every), (.int .i64 a0.Signals)] post0, h0x2, p219.2, h1x0, hF]) := hm246
    refine wpList_nil ?_
    refine nx ?_
    refine wp_region_lit ?_
    refine s_val (v := (.pointer (some ⟨g0, o0, none⟩))) (won rfl) rfl rfl (x_move rfl (ev (t := 0) rfl rfl)) ?_
    refine s_val (v := (.pointer (some ⟨g0, o0, none⟩))) (won rfl) rfl rfl (x_move rfl (ev (t := 0) rfl rfl)) ?_
    refine s_val (v := (.pointer (some ⟨g0, o0, none⟩))) (won rfl) rfl rfl (x_nil rfl (ev (t := 73) rfl rfl)) ?_
    refine s_val (v := (.pointer (some ⟨g0, o0 + 7, none⟩))) (won rfl) rfl rfl (x_field rfl fa_65x7 (ev (t := 74) rfl rfl)) ?_
    refine s_val (v := (.int .i64 a0.Signals)) (won rfl) rfl rfl (x_load rfl ty1x3 (ev (t := 75) rfl rfl) (seg_cell (o' := o0) (j := 7) hm246 (k := 0) rfl hp0 rfl)) ?_
    refine s_val (v := (.int .i64 (IntKind.wrap .i64 (a0.Signals + 1)))) (won rfl) rfl rfl (x_add rfl (ev (t := 76) rfl rfl) rfl) ?_
    refine s_val (v := (.int .i64 (iMin (IntKind.wrap .i64 (a0.Signals + 1)) 1000000000))) (won rfl) rfl rfl (x_min rfl (ev (t := 77) rfl rfl) rfl) ?_
    refine s_val (v := (.pointer (some ⟨g0, o0, none⟩))) (won rfl) rfl rfl (x_nil rfl (ev (t := 72) rfl rfl)) ?_
    refine s_val (v := (.pointer (some ⟨g0, o0 + 7, none⟩))) (won rfl) rfl rfl (x_field rfl fa_65x7 (ev (t := 79) rfl rfl)) ?_
    refine s_exs (won rfl) rfl (e_store (vs := [(.int .i64 (iMin (IntKind.wrap .i64 (a0.Signals + 1)) 1000000000))]) (o' := o0) (j := 7) rfl sz_3 (ev (t := 80) rfl rfl) (ev (t := 78) rfl rfl) rfl rfl hm246 (k := 0) rfl hp0 rfl) ?_
    intro w247 hm248
    replace hm248 : Mem w0 w247 (cat [sg g0 T0 fr0 pre0 [(.int .i64 a0.Size), (.bool a0.Up), (cutV v0x2 (Int.toNat 1) a0.Posted.length 1), p219.1, (.int .i64 a0.Lost), (.int .i64 0), (.int .i64 a0.Every), (.int .i64 (iMin (IntKind.wrap .i64 (a0.Signals + 1)) 1000000000))] post0, h0x2, p219.2, h1x0, hF]) := hm248
    refine wpList_nil ?_
    refine nx ?_
    obtain rfl := Option.some.inj he
    exact ⟨_, rfl, rfl, rfl, Mem.pick [0, 1, 2, 3, 4] rfl hm248⟩
   ·
    replace he := bifF he hb244
    refine c_false rfl (p := (decide ((IntKind.wrap .i64 (a0.Pending + 1)) = a0.Every))) rfl rfl hb244 ?_
    refine wp_skip ?_
    refine nx ?_
    obtain rfl := Option.some.inj he
    exact ⟨_, rfl, rfl, rfl, Mem.pick [0, 1, 2, 3, 4] rfl hm243⟩
  ·
   rintro a w ⟨f, rfl, q237, q238, hm250⟩
   replace he := hk240
   refine wp_seq ?_
   obtain ⟨hg256, he⟩ := gdE he
   refine wp_region_lit ?_
   refine s_val (v := v1x0) (won rfl) rfl rfl (x_move rfl (ev (t := 1) (v := v1x0) rfl q237)) ?_
   refine s_val (v := (.int .i64 (ix a0.Posted 0))) (won rfl) rfl rfl (x_move rfl (ev (t := 5) (v := (.int .i64 (ix a0.Posted 0))) rfl q238)) ?_
   refine s_exv (won rfl) rfl rfl (e_litp (cells := [(.int .i64 (ix a0.Posted 0))]) (ps := [(0, (.int .i64 (ix a0.Posted 0)))]) rfl slt_26 (pmap_lit (pmap_cons (ev (t := 82) rfl rfl) pmap_nil)) (fun w1 => run_bslicez (cells := [(.int .i64 (ix a0.Posted 0))]) (zs := [.int .i64 0]) (zc := [.int .i64 0]) slt_26 rfl rfl (by kernel_rfl) (fill_cons (cs := [(.int .i64 (ix a0.Posted 0))]) rfl rfl rfl fill_nil) (by decide)) hm250) ?_
   rintro g253 w251 hm252
   have H254 : OwF 3 (FK.int .i64) (.slice (some ⟨g253, 0, none⟩) 1 1) ([(ix a0.Posted 0)] : List Int) (sg g253 3 (0, 0) [] (encs (FK.int .i64) ([(ix a0.Posted 0)] : List Int)) []) := OwF.lit g253 ([(ix a0.Posted 0)] : List Int) 1 rfl (by decide)
   replace hm252 : Mem w0 w251 (cat [(sg g253 3 (0, 0) [] (encs (FK.int .i64) ([(ix a0.Posted 0)] : List Int)) []), sg g0 T0 fr0 pre0 [(.int .i64 a0.Size), (.bool a0.Up), (cutV v0x2 (Int.toNat 1) a0.Posted.length 1), p219.1, (.int .i64 a0.Lost), (.int .i64 s239.1), (.int .i64 a0.Every), (.int .i64 s239.2)] post0, h0x2, p219.2, h1x0, hF]) := hm252
   refine s_exv (won rfl) rfl rfl (e_append (bytes := 8) rfl slt_26 rfl (ev (t := 81) rfl rfl) (ev (t := 83) rfl rfl) H1x0 (k := 4) rfl (H254.rd w0) (Sub.at_ (k := 0) rfl) hm252 hg256 (len63 hg256 rfl)) ?_
   rintro p258 w260 ⟨H259, hm261⟩
   replace hm261 : Mem w0 w260 (cat [(sg g253 3 (0, 0) [] (encs (FK.int .i64) ([(ix a0.Posted 0)] : List Int)) []), sg g0 T0 fr0 pre0 [(.int .i64 a0.Size), (.bool a0.Up), (cutV v0x2 (Int.toNat 1) a0.Posted.length 1), p219.1, (.int .i64 a0.Lost), (.int .i64 s239.1), (.int .i64 a0.Every), (.int .i64 s239.2)] post0, h0x2, p219.2, p258.2, hF]) := hm261
   refine s_val (v := p258.1) (won rfl) rfl rfl (x_assign rfl (ev (t := 84) rfl rfl)) ?_
   refine wpList_nil ?_
   have hm262 : Mem w0 w260 (cat [sg g0 T0 fr0 pre0 [(.int .i64 a0.Size), (.bool a0.Up), (cutV v0x2 (Int.toNat 1) a0.Posted.length 1), p219.1, (.int .i64 a0.Lost), (.int .i64 s239.1), (.int .i64 a0.Every), (.int .i64 s239.2)] post0, h0x2, p219.2, p258.2, hF]) := Mem.pick [1, 2, 3, 4, 5] rfl hm261
   refine nx ?_
   refine wp_ret ?_
   obtain rfl := Option.some.inj he
   refine r_ret (v := p258.1) (rv_one rfl (RVs.tmp (v := p258.1) rfl rfl RVs.nil)) rfl ?_
   exact ⟨(cutV v0x2 (Int.toNat 1) a0.Posted.length 1), h0x2, p219.1, p219.2, p258.1, p258.2, rfl, (OwF.cut (a := (Int.toNat 1)) (b := a0.Posted.length) H0x2 (by have := hg208; omega) (Nat.le_refl _)), H220, H259, Mem.pick [0, 1, 2, 3, 4] rfl hm262⟩
end Go.Proofs.Ytpkdolmbhfmjcaa.FnExactRingRun
