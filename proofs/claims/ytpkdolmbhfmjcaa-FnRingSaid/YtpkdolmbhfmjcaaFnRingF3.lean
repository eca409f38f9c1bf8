/- What functions of the program compute, and their walks: printed. -/
import Derived.Test.YtpkdolmbhfmjcaaFnRingT
import Derived.Test.YtpkdolmbhfmjcaaFnRingF0
import Derived.Test.YtpkdolmbhfmjcaaFnRingF1
import Derived.Test.YtpkdolmbhfmjcaaFnRingF2
set_option linter.unusedVariables false
set_option linter.unusedSimpArgs false
set_option linter.unusedSectionVars false
namespace Go.Proofs.Ytpkdolmbhfmjcaa.FnRing
open Go.RowKit Go.Proofs.Gw
attribute [local irreducible] wpList DG wpQuiet wl
def spec_RingRun_l1 (F : Nat) (a2 : (List impl_RingAct)) : Nat → Int → Bool → (List Int) → (List Int) → Int → Int → Int → Int → (List impl_RingReply) → Int → Option (Int × Bool × (List Int) × (List Int) × Int × Int × Int × Int × (List impl_RingReply))
  | 0, _, _, _, _, _, _, _, _, _, _ => none
  | k + 1, s56369, s56370, s56371, s56375, s56379, s56380, s56381, s56382, s56384, s56389 => (bif (decide (s56389 < (a2.length : Int))) then gd ((0 : Int) ≤ s56389 ∧ s56389 < (a2.length : Int)) ((spec_l13Step F (impl_Ring.mk s56369 s56370 s56371 s56375 s56379 s56380 s56381 s56382) (impl_RingAct.mk (ix a2 s56389).Kind (ix a2 s56389).N)).bind fun r63501 => gd ((s56384.length + ([r63501.2] : List impl_RingReply).length) * 32 ≤ 140737488355328) (spec_RingRun_l1 F a2 k r63501.1.Size r63501.1.Up r63501.1.Posted r63501.1.Done r63501.1.Lost r63501.1.Pending r63501.1.Every r63501.1.Signals (s56384 ++ ([r63501.2] : List impl_RingReply)) (IntKind.wrap .i64 (s56389 + 1)))) else (some (s56369, s56370, s56371, s56375, s56379, s56380, s56381, s56382, s56384)))
def spec_RingRun (F : Nat) (a0 : Int) (a1 : Int) (a2 : (List impl_RingAct)) : Option (impl_Ring × (List impl_RingReply) × Int) := (bif (decide ((4096 : Int) < (a2.length : Int))) then (some ((impl_Ring.mk 0 false ([] : List Int) ([] : List Int) 0 0 0 0), ([] : List impl_RingReply), 2)) else (spec_NewRing a0 a1).bind fun r32412 => (bif (!decide (r32412.2 = 0)) then (some ((impl_Ring.mk 0 false ([] : List Int) ([] : List Int) 0 0 0 0), ([] : List impl_RingReply), r32412.2)) else (bif (decide ((300 : Int) < (a2.length : Int))) then (some ((impl_Ring.mk 0 false ([] : List Int) ([] : List Int) 0 0 0 0), ([] : List impl_RingReply), 6)) else (spec_RingRun_l1 F a2 F r32412.1.Size r32412.1.Up r32412.1.Posted r32412.1.Done r32412.1.Lost r32412.1.Pending r32412.1.Every r32412.1.Signals ([] : List impl_RingReply) 0 : Option (Int × Bool × (List Int) × (List Int) × Int × Int × Int × Int × (List impl_RingReply))).bind fun (s48388 : (Int × Bool × (List Int) × (List Int) × Int × Int × Int × Int × (List impl_RingReply))) => (spec_l13Own (impl_Ring.mk s48388.1 s48388.2.1 s48388.2.2.1 s48388.2.2.2.1 s48388.2.2.2.2.1 s48388.2.2.2.2.2.1 s48388.2.2.2.2.2.2.1 s48388.2.2.2.2.2.2.2.1)).bind fun r64369 => (some (r64369, s48388.2.2.2.2.2.2.2.2, 0)))))
set_option maxHeartbeats 400000 in
set_option maxRecDepth 100000 in
theorem spec_RingRun_ok (F : Nat) {w0 w : World} {hR hF : Hp} {v2x0 : Value} (a0 : Int) (a1 : Int) (a2 : (List impl_RingAct)) {r : (impl_Ring × (List impl_RingReply) × Int)} (H2x0 : RdF w0 impl_RingAct.K v2x0 a2 hR) (hs : Sub hR hF) (hm : Mem w0 w (cat [hF])) (he : spec_RingRun F a0 a1 a2 = some r) :
    Calls Try.prog 35 #[(.int .i64 a0), (.int .i64 a1), v2x0] w (fun e w' => ∃ (v'0 : Value) (h'0 : Hp) (v'1 : Value) (h'1 : Hp) (v'2 : Value) (h'2 : Hp), e = .returned (.tuple #[(.agg #[(.int .i64 r.1.Size), (.bool r.1.Up), v'0, v'1, (.int .i64 r.1.Lost), (.int .i64 r.1.Pending), (.int .i64 r.1.Every), (.int .i64 r.1.Signals)]), v'2, (.int .i64 r.2.2)]) ∧ OwF 3 (FK.int .i64) v'0 r.1.Posted h'0 ∧ OwF 3 (FK.int .i64) v'1 r.1.Done h'1 ∧ OwD 71 impl_RingReply_D v'2 r.2.1 h'2 ∧ Mem w0 w' (cat [h'0, h'1, h'2, hF])) := by
 refine calls_fr (n := 60) Try.func35 rfl rfl rfl ?_
 unfold spec_RingRun at he
 refine wp_seq ?_
 refine wp_region_lit ?_
 refine s_exv (won rfl) rfl rfl (e_alloc (vs := [(.int .i64 0), (.bool false), (.slice none 0 0), (.slice none 0 0), (.int .i64 0), (.int .i64 0), (.int .i64 0), (.int .i64 0)]) rfl zt_65 rfl hm) ?_
 rintro g32385 w32386 hm32387
 refine s_val (v := (.slice none 0 0)) (won rfl) rfl rfl (x_assign rfl rfl) ?_
 refine s_val (v := (.int .i64 0)) (won rfl) rfl rfl (x_assign rfl rfl) ?_
 refine wpList_nil ?_
 refine nx ?_
 refine wp_seq ?_
 refine wp_seq ?_
 refine wp_region_lit ?_
 refine s_val (v := v2x0) (won rfl) rfl rfl (x_move rfl (ev (t := 2) rfl rfl)) ?_
 refine s_val (v := (.int .i64 (a2.length : Int))) (won rfl) rfl rfl (x_len rfl slt_62 (ev (t := 15) rfl rfl) (H2x0).sl) ?_
 refine s_val (v := (.bool (decide ((4096 : Int) < (a2.length : Int))))) (won rfl) rfl rfl (x_gtr rfl (ev (t := 16) rfl rfl) rfl) ?_
 refine wpList_nil ?_
 refine nx ?_
 rcases Bool.eq_false_or_eq_true ((decide ((4096 : Int) < (a2.length : Int)))) with hb32401 | hb32401
 ·
  replace he := bifT he hb32401
  refine c_true rfl (p := (decide ((4096 : Int) < (a2.length : Int)))) rfl rfl hb32401 ?_
  refine wp_seq ?_
  refine wp_region_lit ?_
  refine s_val (v := (.agg #[(.int .i64 0), (.bool false), (.slice none 0 0), (.slice none 0 0), (.int .i64 0), (.int .i64 0), (.int .i64 0), (.int .i64 0)])) (won rfl) rfl rfl (x_build (cells := [(.int .i64 0), (.bool false), (.slice none 0 0), (.slice none 0 0), (.int .i64 0), (.int .i64 0), (.int .i64 0), (.int .i64 0)]) (zc := [.int .i64 0, .bool false, .slice none 0 0, .slice none 0 0, .int .i64 0, .int .i64 0, .int .i64 0, .int .i64 0]) (sizes := [(0, 1), (1, 1), (2, 1), (3, 1), (4, 1), (5, 1), (6, 1), (7, 1)]) (ps := []) rfl zt_65 rfl uf_65 ufz_65 (pmap_lit pmap_nil) fill_nil) ?_
  refine s_exv (won rfl) rfl rfl (e_litp (cells := []) (ps := []) rfl slt_66 (pmap_lit pmap_nil) (fun w1 => run_bslice0 slt_66) hm32387) ?_
  rintro g32406 w32404 hm32405
  have H32407 : OwD 71 impl_RingReply_D (.slice (some ⟨g32406, 0, none⟩) 0 0) ([] : List impl_RingReply) (cat [sg g32406 71 (0, 0) [] [] [], []]) := OwD.lit (xs := ([] : List impl_RingReply)) (cells := []) g32406 reps_n 0 rfl (by decide)
  have hm32409 : Mem w0 w32404 (cat [(sg g32406 71 (0, 0) [] [] []), sg g32385 65 (0, 0) [] [(.int .i64 0), (.bool false), (.slice none 0 0), (.slice none 0 0), (.int .i64 0), (.int .i64 0), (.int .i64 0), (.int .i64 0)] [], hF]) := Mem.pick [0, 1, 2] rfl hm32405
  replace hm32405 : Mem w0 w32404 (cat [(cat [sg g32406 71 (0, 0) [] [] [], []]), sg g32385 65 (0, 0) [] [(.int .i64 0), (.bool false), (.slice none 0 0), (.slice none 0 0), (.int .i64 0), (.int .i64 0), (.int .i64 0), (.int .i64 0)] [], hF]) := Mem.eqv (by simp only [cat, List.append_assoc, List.append_nil, List.nil_append]) hm32409
  refine s_exs (won rfl) rfl (e_store (vs := [(.int .i64 0), (.bool false), (.slice none 0 0), (.slice none 0 0), (.int .i64 0), (.int .i64 0), (.int .i64 0), (.int .i64 0)]) (o' := 0) (j := 0) rfl sz_65 (ev (t := 6) rfl rfl) (ev (t := 18) rfl rfl) rfl rfl hm32405 (k := 1) rfl rfl rfl) ?_
  intro w32410 hm32411
  replace hm32411 : Mem w0 w32410 (cat [(cat [sg g32406 71 (0, 0) [] [] [], []]), sg g32385 65 (0, 0) [] [(.int .i64 0), (.bool false), (.slice none 0 0), (.slice none 0 0), (.int .i64 0), (.int .i64 0), (.int .i64 0), (.int .i64 0)] [], hF]) := hm32411
  refine s_val (v := (.slice (some ⟨g32406, 0, none⟩) 0 0)) (won rfl) rfl rfl (x_assign rfl (ev (t := 19) rfl rfl)) ?_
  refine s_val (v := (.int .i64 2)) (won rfl) rfl rfl (x_assign rfl rfl) ?_
  refine wpList_nil ?_
  refine nx ?_
  refine wp_ret ?_
  refine xr ?_
  obtain rfl := Option.some.inj he
  refine r_ret (v := (.tuple #[(.agg #[(.int .i64 0), (.bool false), (.slice none 0 0), (.slice none 0 0), (.int .i64 0), (.int .i64 0), (.int .i64 0), (.int .i64 0)]), (.slice (some ⟨g32406, 0, none⟩) 0 0), (.int .i64 2)])) (rv_list rfl rfl (RVs.cell (cs := [(.int .i64 0), (.bool false), (.slice none 0 0), (.slice none 0 0), (.int .i64 0), (.int .i64 0), (.int .i64 0), (.int .i64 0)]) rfl rfl tyN_65 (seg_cells (o' := 0) (j := 0) hm32411 (k := 1) rfl rfl rfl) (RVs.tmp (v := (.slice (some ⟨g32406, 0, none⟩) 0 0)) rfl rfl (RVs.tmp (v := (.int .i64 2)) rfl rfl RVs.nil)))) rfl ?_
  exact ⟨(.slice none 0 0), [], (.slice none 0 0), [], (.slice (some ⟨g32406, 0, none⟩) 0 0), (cat [sg g32406 71 (0, 0) [] [] [], []]), rfl, (OwF.nil 3 (FK.int .i64)), (OwF.nil 3 (FK.int .i64)), H32407, Mem.pick [1000, 1001, 0, 2] rfl hm32411⟩
 ·
  replace he := bifF he hb32401
  refine c_false rfl (p := (decide ((4096 : Int) < (a2.length : Int)))) rfl rfl hb32401 ?_
  refine wp_skip ?_
  refine nx ?_
  refine wp_seq ?_
  obtain ⟨r32412, hr32412, he⟩ := bindE he
  refine wp_region_lit ?_
  refine s_val (v := (.int .i64 a0)) (won rfl) rfl rfl (x_move rfl (ev (t := 0) rfl rfl)) ?_
  refine s_val (v := (.int .i64 a1)) (won rfl) rfl rfl (x_move rfl (ev (t := 1) rfl rfl)) ?_
  refine s_call (won rfl) rfl rfl (x_call rfl rfl cl_76 (map_lit (map_cons (ev (t := 21) rfl rfl) (map_cons (ev (t := 22) rfl rfl) map_nil)))) (spec_NewRing_ok (hR := (cat [])) (hF := cat [sg g32385 65 (0, 0) [] [(.int .i64 0), (.bool false), (.slice none 0 0), (.slice none 0 0), (.int .i64 0), (.int .i64 0), (.int .i64 0), (.int .i64 0)] [], hF]) a0 a1  (Mem.one hm32387) hr32412) ?_
  rintro e w32421 ⟨v32414, h32416, v32418, h32420, rfl, H32415, H32419, hm32422⟩
  refine ⟨_, rfl, ?_⟩
  replace hm32422 : Mem w0 w32421 (cat [h32416, h32420, sg g32385 65 (0, 0) [] [(.int .i64 0), (.bool false), (.slice none 0 0), (.slice none 0 0), (.int .i64 0), (.int .i64 0), (.int .i64 0), (.int .i64 0)] [], hF]) := Mem.ung [h32416, h32420] [sg g32385 65 (0, 0) [] [(.int .i64 0), (.bool false), (.slice none 0 0), (.slice none 0 0), (.int .i64 0), (.int .i64 0), (.int .i64 0), (.int .i64 0)] [], hF] hm32422
  refine s_val (v := (.tuple #[(.agg #[(.int .i64 r32412.1.Size), (.bool r32412.1.Up), v32414, v32418, (.int .i64 r32412.1.Lost), (.int .i64 r32412.1.Pending), (.int .i64 r32412.1.Every), (.int .i64 r32412.1.Signals)]), (.int .i64 r32412.2)])) (won rfl) rfl rfl (x_move rfl (ev (t := 23) rfl rfl)) ?_
  refine s_val (v := (.agg #[(.int .i64 r32412.1.Size), (.bool r32412.1.Up), v32414, v32418, (.int .i64 r32412.1.Lost), (.int .i64 r32412.1.Pending), (.int .i64 r32412.1.Every), (.int .i64 r32412.1.Signals)])) (won rfl) rfl rfl (x_extract rfl (ev (t := 20) rfl rfl) rfl) ?_
  refine s_val (v := (.int .i64 r32412.2)) (won rfl) rfl rfl (x_extract rfl (ev (t := 20) rfl rfl) rfl) ?_
  refine s_exv (won rfl) rfl rfl (e_alloc (vs := [(.int .i64 0), (.bool false), (.slice none 0 0), (.slice none 0 0), (.int .i64 0), (.int .i64 0), (.int .i64 0), (.int .i64 0)]) rfl zt_65 rfl hm32422) ?_
  rintro g32425 w32426 hm32427
  refine s_exs (won rfl) rfl (e_store (vs := [(.int .i64 r32412.1.Size), (.bool r32412.1.Up), v32414, v32418, (.int .i64 r32412.1.Lost), (.int .i64 r32412.1.Pending), (.int .i64 r32412.1.Every), (.int .i64 r32412.1.Signals)]) (o' := 0) (j := 0) rfl sz_65 (ev (t := 9) rfl rfl) (ev (t := 24) rfl rfl) rfl (one_cons rfl (one_cons rfl (one_cons (IsSl.one (H32415).sl) (one_cons (IsSl.one (H32419).sl) (one_cons rfl (one_cons rfl (one_cons rfl (one_cons rfl one_nil)))))))) hm32427 (k := 0) rfl rfl rfl) ?_
  intro w32429 hm32430
  replace hm32430 : Mem w0 w32429 (cat [sg g32425 65 (0, 0) [] [(.int .i64 r32412.1.Size), (.bool r32412.1.Up), v32414, v32418, (.int .i64 r32412.1.Lost), (.int .i64 r32412.1.Pending), (.int .i64 r32412.1.Every), (.int .i64 r32412.1.Signals)] [], h32416, h32420, sg g32385 65 (0, 0) [] [(.int .i64 0), (.bool false), (.slice none 0 0), (.slice none 0 0), (.int .i64 0), (.int .i64 0), (.int .i64 0), (.int .i64 0)] [], hF]) := hm32430
  refine s_val (v := (.int .i64 r32412.2)) (won rfl) rfl rfl (x_assign rfl (ev (t := 25) rfl rfl)) ?_
  refine wpList_nil ?_
  refine nx ?_
  refine wp_seq ?_
  refine wp_seq ?_
  refine wp_region_lit ?_
  refine s_val (v := (.int .i64 r32412.2)) (won rfl) rfl rfl (x_move rfl (ev (t := 10) rfl rfl)) ?_
  refine s_val (v := (.bool (!decide (r32412.2 = 0)))) (won rfl) rfl rfl (x_neq rfl (ev (t := 26) rfl rfl) rfl) ?_
  refine wpList_nil ?_
  refine nx ?_
  rcases Bool.eq_false_or_eq_true ((!decide (r32412.2 = 0))) with hb32443 | hb32443
  ·
   replace he := bifT he hb32443
   refine c_true rfl (p := (!decide (r32412.2 = 0))) rfl rfl hb32443 ?_
   refine wp_seq ?_
   refine wp_region_lit ?_
   refine s_val (v := (.agg #[(.int .i64 0), (.bool false), (.slice none 0 0), (.slice none 0 0), (.int .i64 0), (.int .i64 0), (.int .i64 0), (.int .i64 0)])) (won rfl) rfl rfl (x_build (cells := [(.int .i64 0), (.bool false), (.slice none 0 0), (.slice none 0 0), (.int .i64 0), (.int .i64 0), (.int .i64 0), (.int .i64 0)]) (zc := [.int .i64 0, .bool false, .slice none 0 0, .slice none 0 0, .int .i64 0, .int .i64 0, .int .i64 0, .int .i64 0]) (sizes := [(0, 1), (1, 1), (2, 1), (3, 1), (4, 1), (5, 1), (6, 1), (7, 1)]) (ps := []) rfl zt_65 rfl uf_65 ufz_65 (pmap_lit pmap_nil) fill_nil) ?_
   refine s_exv (won rfl) rfl rfl (e_litp (cells := []) (ps := []) rfl slt_66 (pmap_lit pmap_nil) (fun w1 => run_bslice0 slt_66) hm32430) ?_
   rintro g32448 w32446 hm32447
   have H32449 : OwD 71 impl_RingReply_D (.slice (some ⟨g32448, 0, none⟩) 0 0) ([] : List impl_RingReply) (cat [sg g32448 71 (0, 0) [] [] [], []]) := OwD.lit (xs := ([] : List impl_RingReply)) (cells := []) g32448 reps_n 0 rfl (by decide)
   have hm32451 : Mem w0 w32446 (cat [(sg g32448 71 (0, 0) [] [] []), sg g32425 65 (0, 0) [] [(.int .i64 r32412.1.Size), (.bool r32412.1.Up), v32414, v32418, (.int .i64 r32412.1.Lost), (.int .i64 r32412.1.Pending), (.int .i64 r32412.1.Every), (.int .i64 r32412.1.Signals)] [], h32416, h32420, sg g32385 65 (0, 0) [] [(.int .i64 0), (.bool false), (.slice none 0 0), (.slice none 0 0), (.int .i64 0), (.int .i64 0), (.int .i64 0), (.int .i64 0)] [], hF]) := Mem.pick [0, 1, 2, 3, 4, 5] rfl hm32447
   replace hm32447 : Mem w0 w32446 (cat [(cat [sg g32448 71 (0, 0) [] [] [], []]), sg g32425 65 (0, 0) [] [(.int .i64 r32412.1.Size), (.bool r32412.1.Up), v32414, v32418, (.int .i64 r32412.1.Lost), (.int .i64 r32412.1.Pending), (.int .i64 r32412.1.Every), (.int .i64 r32412.1.Signals)] [], h32416, h32420, sg g32385 65 (0, 0) [] [(.int .i64 0), (.bool false), (.slice none 0 0), (.slice none 0 0), (.int .i64 0), (.int .i64 0), (.int .i64 0), (.int .i64 0)] [], hF]) := Mem.eqv (by simp only [cat, List.append_assoc, List.append_nil, List.nil_append]) hm32451
   refine s_val (v := (.int .i64 r32412.2)) (won rfl) rfl rfl (x_move rfl (ev (t := 10) rfl rfl)) ?_
   refine s_exs (won rfl) rfl (e_store (vs := [(.int .i64 0), (.bool false), (.slice none 0 0), (.slice none 0 0), (.int .i64 0), (.int .i64 0), (.int .i64 0), (.int .i64 0)]) (o' := 0) (j := 0) rfl sz_65 (ev (t := 6) rfl rfl) (ev (t := 28) rfl rfl) rfl rfl hm32447 (k := 4) rfl rfl rfl) ?_
   intro w32452 hm32453
   replace hm32453 : Mem w0 w32452 (cat [(cat [sg g32448 71 (0, 0) [] [] [], []]), sg g32425 65 (0, 0) [] [(.int .i64 r32412.1.Size), (.bool r32412.1.Up), v32414, v32418, (.int .i64 r32412.1.Lost), (.int .i64 r32412.1.Pending), (.int .i64 r32412.1.Every), (.int .i64 r32412.1.Signals)] [], h32416, h32420, sg g32385 65 (0, 0) [] [(.int .i64 0), (.bool false), (.slice none 0 0), (.slice none 0 0), (.int .i64 0), (.int .i64 0), (.int .i64 0), (.int .i64 0)] [], hF]) := hm32453
   refine s_val (v := (.slice (some ⟨g32448, 0, none⟩) 0 0)) (won rfl) rfl rfl (x_assign rfl (ev (t := 29) rfl rfl)) ?_
   refine s_val (v := (.int .i64 r32412.2)) (won rfl) rfl rfl (x_assign rfl (ev (t := 30) rfl rfl)) ?_
   refine wpList_nil ?_
   have hm32454 : Mem w0 w32452 (cat [(cat [sg g32448 71 (0, 0) [] [] [], []]), sg g32385 65 (0, 0) [] [(.int .i64 0), (.bool false), (.slice none 0 0), (.slice none 0 0), (.int .i64 0), (.int .i64 0), (.int .i64 0), (.int .i64 0)] [], hF]) := Mem.pick [0, 4, 5] rfl hm32453
   refine nx ?_
   refine wp_ret ?_
   refine xr ?_
   obtain rfl := Option.some.inj he
   refine r_ret (v := (.tuple #[(.agg #[(.int .i64 0), (.bool false), (.slice none 0 0), (.slice none 0 0), (.int .i64 0), (.int .i64 0), (.int .i64 0), (.int .i64 0)]), (.slice (some ⟨g32448, 0, none⟩) 0 0), (.int .i64 r32412.2)])) (rv_list rfl rfl (RVs.cell (cs := [(.int .i64 0), (.bool false), (.slice none 0 0), (.slice none 0 0), (.int .i64 0), (.int .i64 0), (.int .i64 0), (.int .i64 0)]) rfl rfl tyN_65 (seg_cells (o' := 0) (j := 0) hm32454 (k := 1) rfl rfl rfl) (RVs.tmp (v := (.slice (some ⟨g32448, 0, none⟩) 0 0)) rfl rfl (RVs.tmp (v := (.int .i64 r32412.2)) rfl rfl RVs.nil)))) rfl ?_
   exact ⟨(.slice none 0 0), [], (.slice none 0 0), [], (.slice (some ⟨g32448, 0, none⟩) 0 0), (cat [sg g32448 71 (0, 0) [] [] [], []]), rfl, (OwF.nil 3 (FK.int .i64)), (OwF.nil 3 (FK.int .i64)), H32449, Mem.pick [1000, 1001, 0, 2] rfl hm32454⟩
  ·
   replace he := bifF he hb32443
   refine c_false rfl (p := (!decide (r32412.2 = 0))) rfl rfl hb32443 ?_
   refine wp_skip ?_
   refine nx ?_
   refine wp_seq ?_
   refine wp_seq ?_
   refine wp_region_lit ?_
   refine s_val (v := v2x0) (won rfl) rfl rfl (x_move rfl (ev (t := 2) rfl rfl)) ?_
   refine s_val (v := (.int .i64 (a2.length : Int))) (won rfl) rfl rfl (x_len rfl slt_62 (ev (t := 31) rfl rfl) (H2x0).sl) ?_
   refine s_val (v := (.bool (decide ((300 : Int) < (a2.length : Int))))) (won rfl) rfl rfl (x_gtr rfl (ev (t := 32) rfl rfl) rfl) ?_
   refine wpList_nil ?_
   refine nx ?_
   rcases Bool.eq_false_or_eq_true ((decide ((300 : Int) < (a2.length : Int)))) with hb32467 | hb32467
   ·
    replace he := bifT he hb32467
    refine c_true rfl (p := (decide ((300 : Int) < (a2.length : Int)))) rfl rfl hb32467 ?_
    refine wp_seq ?_
    refine wp_region_lit ?_
    refine s_val (v := (.agg #[(.int .i64 0), (.bool false), (.slice none 0 0), (.slice none 0 0), (.int .i64 0), (.int .i64 0), (.int .i64 0), (.int .i64 0)])) (won rfl) rfl rfl (x_build (cells := [(.int .i64 0), (.bool false), (.slice none 0 0), (.slice none 0 0), (.int .i64 0), (.int .i64 0), (.int .i64 0), (.int .i64 0)]) (zc := [.int .i64 0, .bool false, .slice none 0 0, .slice none 0 0, .int .i64 0, .int .i64 0, .int .i64 0, .int .i64 0]) (sizes := [(0, 1), (1, 1), (2, 1), (3, 1), (4, 1), (5, 1), (6, 1), (7, 1)]) (ps := []) rfl zt_65 rfl uf_65 ufz_65 (pmap_lit pmap_nil) fill_nil) ?_
    refine s_exv (won rfl) rfl rfl (e_litp (cells := []) (ps := []) rfl slt_66 (pmap_lit pmap_nil) (fun w1 => run_bslice0 slt_66) hm32430) ?_
    rintro g32472 w32470 hm32471
    have H32473 : OwD 71 impl_RingReply_D (.slice (some ⟨g32472, 0, none⟩) 0 0) ([] : List impl_RingReply) (cat [sg g32472 71 (0, 0) [] [] [], []]) := OwD.lit (xs := ([] : List impl_RingReply)) (cells := []) g32472 reps_n 0 rfl (by decide)
    have hm32475 : Mem w0 w32470 (cat [(sg g32472 71 (0, 0) [] [] []), sg g32425 65 (0, 0) [] [(.int .i64 r32412.1.Size), (.bool r32412.1.Up), v32414, v32418, (.int .i64 r32412.1.Lost), (.int .i64 r32412.1.Pending), (.int .i64 r32412.1.Every), (.int .i64 r32412.1.Signals)] [], h32416, h32420, sg g32385 65 (0, 0) [] [(.int .i64 0), (.bool false), (.slice none 0 0), (.slice none 0 0), (.int .i64 0), (.int .i64 0), (.int .i64 0), (.int .i64 0)] [], hF]) := Mem.pick [0, 1, 2, 3, 4, 5] rfl hm32471
    replace hm32471 : Mem w0 w32470 (cat [(cat [sg g32472 71 (0, 0) [] [] [], []]), sg g32425 65 (0, 0) [] [(.int .i64 r32412.1.Size), (.bool r32412.1.Up), v32414, v32418, (.int .i64 r32412.1.Lost), (.int .i64 r32412.1.Pending), (.int .i64 r32412.1.Every), (.int .i64 r32412.1.Signals)] [], h32416, h32420, sg g32385 65 (0, 0) [] [(.int .i64 0), (.bool false), (.slice none 0 0), (.slice none 0 0), (.int .i64 0), (.int .i64 0), (.int .i64 0), (.int .i64 0)] [], hF]) := Mem.eqv (by simp only [cat, List.append_assoc, List.append_nil, List.nil_append]) hm32475
    refine s_exs (won rfl) rfl (e_store (vs := [(.int .i64 0), (.bool false), (.slice none 0 0), (.slice none 0 0), (.int .i64 0), (.int .i64 0), (.int .i64 0), (.int .i64 0)]) (o' := 0) (j := 0) rfl sz_65 (ev (t := 6) rfl rfl) (ev (t := 34) rfl rfl) rfl rfl hm32471 (k := 4) rfl rfl rfl) ?_
    intro w32476 hm32477
    replace hm32477 : Mem w0 w32476 (cat [(cat [sg g32472 71 (0, 0) [] [] [], []]), sg g32425 65 (0, 0) [] [(.int .i64 r32412.1.Size), (.bool r32412.1.Up), v32414, v32418, (.int .i64 r32412.1.Lost), (.int .i64 r32412.1.Pending), (.int .i64 r32412.1.Every), (.int .i64 r32412.1.Signals)] [], h32416, h32420, sg g32385 65 (0, 0) [] [(.int .i64 0), (.bool false), (.slice none 0 0), (.slice none 0 0), (.int .i64 0), (.int .i64 0), (.int .i64 0), (.int .i64 0)] [], hF]) := hm32477
    refine s_val (v := (.slice (some ⟨g32472, 0, none⟩) 0 0)) (won rfl) rfl rfl (x_assign rfl (ev (t := 35) rfl rfl)) ?_
    refine s_val (v := (.int .i64 6)) (won rfl) rfl rfl (x_assign rfl rfl) ?_
    refine wpList_nil ?_
    have hm32478 : Mem w0 w32476 (cat [(cat [sg g32472 71 (0, 0) [] [] [], []]), sg g32385 65 (0, 0) [] [(.int .i64 0), (.bool false), (.slice none 0 0), (.slice none 0 0), (.int .i64 0), (.int .i64 0), (.int .i64 0), (.int .i64 0)] [], hF]) := Mem.pick [0, 4, 5] rfl hm32477
    refine nx ?_
    refine wp_ret ?_
    refine xr ?_
    obtain rfl := Option.some.inj he
    refine r_ret (v := (.tuple #[(.agg #[(.int .i64 0), (.bool false), (.slice none 0 0), (.slice none 0 0), (.int .i64 0), (.int .i64 0), (.int .i64 0), (.int .i64 0)]), (.slice (some ⟨g32472, 0, none⟩) 0 0), (.int .i64 6)])) (rv_list rfl rfl (RVs.cell (cs := [(.int .i64 0), (.bool false), (.slice none 0 0), (.slice none 0 0), (.int .i64 0), (.int .i64 0), (.int .i64 0), (.int .i64 0)]) rfl rfl tyN_65 (seg_cells (o' := 0) (j := 0) hm32478 (k := 1) rfl rfl rfl) (RVs.tmp (v := (.slice (some ⟨g32472, 0, none⟩) 0 0)) rfl rfl (RVs.tmp (v := (.int .i64 6)) rfl rfl RVs.nil)))) rfl ?_
    exact ⟨(.slice none 0 0), [], (.slice none 0 0), [], (.slice (some ⟨g32472, 0, none⟩) 0 0), (cat [sg g32472 71 (0, 0) [] [] [], []]), rfl, (OwF.nil 3 (FK.int .i64)), (OwF.nil 3 (FK.int .i64)), H32473, Mem.pick [1000, 1001, 0, 2] rfl hm32478⟩
   ·
    replace he := bifF he hb32467
    refine c_false rfl (p := (decide ((300 : Int) < (a2.length : Int)))) rfl rfl hb32467 ?_
    refine wp_skip ?_
    refine nx ?_
    refine wp_seq ?_
    refine wp_region_lit ?_
    refine s_exv (won rfl) rfl rfl (e_litp (cells := []) (ps := []) rfl slt_66 (pmap_lit pmap_nil) (fun w1 => run_bslice0 slt_66) hm32430) ?_
    rintro g32481 w32479 hm32480
    have H32482 : OwD 71 impl_RingReply_D (.slice (some ⟨g32481, 0, none⟩) 0 0) ([] : List impl_RingReply) (cat [sg g32481 71 (0, 0) [] [] [], []]) := OwD.lit (xs := ([] : List impl_RingReply)) (cells := []) g32481 reps_n 0 rfl (by decide)
    have hm32484 : Mem w0 w32479 (cat [(sg g32481 71 (0, 0) [] [] []), sg g32425 65 (0, 0) [] [(.int .i64 r32412.1.Size), (.bool r32412.1.Up), v32414, v32418, (.int .i64 r32412.1.Lost), (.int .i64 r32412.1.Pending), (.int .i64 r32412.1.Every), (.int .i64 r32412.1.Signals)] [], h32416, h32420, sg g32385 65 (0, 0) [] [(.int .i64 0), (.bool false), (.slice none 0 0), (.slice none 0 0), (.int .i64 0), (.int .i64 0), (.int .i64 0), (.int .i64 0)] [], hF]) := Mem.pick [0, 1, 2, 3, 4, 5] rfl hm32480
    replace hm32480 : Mem w0 w32479 (cat [(cat [sg g32481 71 (0, 0) [] [] [], []]), sg g32425 65 (0, 0) [] [(.int .i64 r32412.1.Size), (.bool r32412.1.Up), v32414, v32418, (.int .i64 r32412.1.Lost), (.int .i64 r32412.1.Pending), (.int .i64 r32412.1.Every), (.int .i64 r32412.1.Signals)] [], h32416, h32420, sg g32385 65 (0, 0) [] [(.int .i64 0), (.bool false), (.slice none 0 0), (.slice none 0 0), (.int .i64 0), (.int .i64 0), (.int .i64 0), (.int .i64 0)] [], hF]) := Mem.eqv (by simp only [cat, List.append_assoc, List.append_nil, List.nil_append]) hm32484
    refine s_val (v := (.slice (some ⟨g32481, 0, none⟩) 0 0)) (won rfl) rfl rfl (x_assign rfl (ev (t := 36) rfl rfl)) ?_
    refine wpList_nil ?_
    refine nx ?_
    obtain ⟨s48388, hT48390, hk48389⟩ := bindE he
    replace he := hT48390
    refine wp_seqJ (fun a w => ∃ (v48371 : Value) (h48372 : Hp) (v48375 : Value) (h48376 : Hp) (v48384 : Value) (h48385 : Hp) (f : Nat → Value), a = fr 60 f ∧ f 6 = (.pointer (some ⟨g32385, 0, none⟩)) ∧ f 9 = (.pointer (some ⟨g32425, 0, none⟩)) ∧ f 11 = v48384 ∧ OwF 3 (FK.int .i64) v48371 s48388.2.2.1 h48372 ∧ OwF 3 (FK.int .i64) v48375 s48388.2.2.2.1 h48376 ∧ OwD 71 impl_RingReply_D v48384 s48388.2.2.2.2.2.2.2.2 h48385 ∧ Mem w0 w (cat [sg g32385 65 (0, 0) [] [(.int .i64 0), (.bool false), (.slice none 0 0), (.slice none 0 0), (.int .i64 0), (.int .i64 0), (.int .i64 0), (.int .i64 0)] [], sg g32425 65 (0, 0) [] [(.int .i64 s48388.1), (.bool s48388.2.1), v48371, v48375, (.int .i64 s48388.2.2.2.2.1), (.int .i64 s48388.2.2.2.2.2.1), (.int .i64 s48388.2.2.2.2.2.2.1), (.int .i64 s48388.2.2.2.2.2.2.2.1)] [], h48372, h48376, h48385, hF])) ?_ ?_
    ·
     refine wp_seq ?_
     refine wp_region_lit ?_
     refine s_val (v := (.int .i64 0)) (won rfl) rfl rfl (x_assign rfl rfl) ?_
     refine wpList_nil ?_
     refine nx ?_
     refine wp_block ?_
     refine wp_fuel (I := fun k => fun a w => ∃ (s56369 : Int) (s56370 : Bool) (s56371 : (List Int)) (s56375 : (List Int)) (s56379 : Int) (s56380 : Int) (s56381 : Int) (s56382 : Int) (s56384 : (List impl_RingReply)) (s56389 : Int) (v56372 : Value) (h56373 : Hp) (v56376 : Value) (h56377 : Hp) (v56385 : Value) (h56386 : Hp) (f : Nat → Value), spec_RingRun_l1 F a2 k s56369 s56370 s56371 s56375 s56379 s56380 s56381 s56382 s56384 s56389 = some s48388 ∧ a = fr 60 f ∧ f 2 = v2x0 ∧ f 6 = (.pointer (some ⟨g32385, 0, none⟩)) ∧ f 9 = (.pointer (some ⟨g32425, 0, none⟩)) ∧ f 11 = v56385 ∧ f 12 = (.int .i64 s56389) ∧ OwF 3 (FK.int .i64) v56372 s56371 h56373 ∧ OwF 3 (FK.int .i64) v56376 s56375 h56377 ∧ OwD 71 impl_RingReply_D v56385 s56384 h56386 ∧ Mem w0 w (cat [sg g32385 65 (0, 0) [] [(.int .i64 0), (.bool false), (.slice none 0 0), (.slice none 0 0), (.int .i64 0), (.int .i64 0), (.int .i64 0), (.int .i64 0)] [], sg g32425 65 (0, 0) [] [(.int .i64 s56369), (.bool s56370), v56372, v56376, (.int .i64 s56379), (.int .i64 s56380), (.int .i64 s56381), (.int .i64 s56382)] [], h56373, h56377, h56386, hF])) F _ _ ⟨r32412.1.Size, r32412.1.Up, r32412.1.Posted, r32412.1.Done, r32412.1.Lost, r32412.1.Pending, r32412.1.Every, r32412.1.Signals, ([] : List impl_RingReply), 0, v32414, h32416, v32418, h32420, (.slice (some ⟨g32481, 0, none⟩) 0 0), (cat [sg g32481 71 (0, 0) [] [] [], []]), _, he, rfl, rfl, rfl, rfl, rfl, rfl, H32415, H32419, H32482, Mem.pick [4, 1, 2, 3, 0, 5] rfl hm32480⟩ ?_ ?_
     ·
      rintro a w ⟨s56369, s56370, s56371, s56375, s56379, s56380, s56381, s56382, s56384, s56389, v56372, h56373, v56376, h56377, v56385, h56386, f, he, rfl, q56367, q56368, q56383, q56388, q56390, H56374, H56378, H56387, hm60368⟩
      rw [spec_RingRun_l1] at he; exact none_no he
     ·
      rintro k a w ⟨s56369, s56370, s56371, s56375, s56379, s56380, s56381, s56382, s56384, s56389, v56372, h56373, v56376, h56377, v56385, h56386, f, he, rfl, q56367, q56368, q56383, q56388, q56390, H56374, H56378, H56387, hm60370⟩
      rw [spec_RingRun_l1] at he
      refine wp_seq ?_
      refine wp_seq ?_
      refine wp_region_lit ?_
      refine s_val (v := (.int .i64 s56389)) (won rfl) rfl rfl (x_move rfl (ev (t := 12) (v := (.int .i64 s56389)) rfl q56390)) ?_
      refine s_val (v := v2x0) (won rfl) rfl rfl (x_move rfl (ev (t := 2) (v := v2x0) rfl q56367)) ?_
      refine s_val (v := (.int .i64 (a2.length : Int))) (won rfl) rfl rfl (x_len rfl slt_62 (ev (t := 38) rfl rfl) (H2x0).sl) ?_
      refine s_val (v := (.bool (decide (s56389 < (a2.length : Int))))) (won rfl) rfl rfl (x_lss rfl (ev (t := 37) rfl rfl) (ev (t := 39) rfl rfl)) ?_
      refine wpList_nil ?_
      refine nx ?_
      rcases Bool.eq_false_or_eq_true ((decide (s56389 < (a2.length : Int)))) with hb60372 | hb60372
      ·
       replace he := bifT he hb60372
       refine c_true rfl (p := (decide (s56389 < (a2.length : Int)))) rfl rfl hb60372 ?_
       refine wp_skip ?_
       refine nx ?_
       refine wp_seq ?_
       refine wp_block ?_
       refine wp_seq ?_
       obtain ⟨hg63301, he⟩ := gdE he
       obtain ⟨r63501, hr63501, he⟩ := bindE he
       obtain ⟨hz63000, hze63000⟩ : ∃ hz : Hp, hz = cat [sg g32385 65 (0, 0) [] [(.int .i64 0), (.bool false), (.slice none 0 0), (.slice none 0 0), (.int .i64 0), (.int .i64 0), (.int .i64 0), (.int .i64 0)] [], h56386] := ⟨_, rfl⟩
       have hm63000 : Mem w0 w (cat [sg g32425 65 (0, 0) [] [(.int .i64 s56369), (.bool s56370), v56372, v56376, (.int .i64 s56379), (.int .i64 s56380), (.int .i64 s56381), (.int .i64 s56382)] [], h56373, h56377, hF, hz63000]) := by rw [hze63000]; exact Mem.grp [sg g32425 65 (0, 0) [] [(.int .i64 s56369), (.bool s56370), v56372, v56376, (.int .i64 s56379), (.int .i64 s56380), (.int .i64 s56381), (.int .i64 s56382)] [], h56373, h56377, hF] [sg g32385 65 (0, 0) [] [(.int .i64 0), (.bool false), (.slice none 0 0), (.slice none 0 0), (.int .i64 0), (.int .i64 0), (.int .i64 0), (.int .i64 0)] [], h56386] (Mem.pick [1, 2, 3, 5, 0, 4] rfl hm60370)
       refine wp_drawF (I := fun f b a w => ∃ (vs : Nat → Value) (v63503 : Value) (h63505 : Hp) (v63507 : Value) (h63509 : Hp) (v63511 : Value) (h63513 : Hp) (g63903 : Nat) (g64002 : Nat), a = fr 60 (sel b [(0, 44), (1, 45), (2, 46), (3, 47), (4, 48), (5, 49), (6, 43), (7, 50), (8, 51), (9, 13), (10, 14)] vs f) ∧ (b 0 = true → vs 0 = (.agg #[(.int .i64 s56369), (.bool s56370), v56372, v56376, (.int .i64 s56379), (.int .i64 s56380), (.int .i64 s56381), (.int .i64 s56382)])) ∧ (b 1 = true → vs 1 = v2x0) ∧ (b 2 = true → vs 2 = (.int .i64 s56389)) ∧ (b 3 = true → vs 3 = (.pointer (some ((slA v2x0).add (Int.toNat s56389 * 2))))) ∧ (b 4 = true → vs 4 = (.agg #[(.int .i64 (ix a2 s56389).Kind), (.int .i64 (ix a2 s56389).N)])) ∧ (b 5 = true → vs 5 = (.tuple #[(.agg #[(.int .i64 r63501.1.Size), (.bool r63501.1.Up), v63503, v63507, (.int .i64 r63501.1.Lost), (.int .i64 r63501.1.Pending), (.int .i64 r63501.1.Every), (.int .i64 r63501.1.Signals)]), (.agg #[(.int .i64 r63501.2.Code), v63511])])) ∧ (b 6 = true → vs 6 = (.tuple #[(.agg #[(.int .i64 r63501.1.Size), (.bool r63501.1.Up), v63503, v63507, (.int .i64 r63501.1.Lost), (.int .i64 r63501.1.Pending), (.int .i64 r63501.1.Every), (.int .i64 r63501.1.Signals)]), (.agg #[(.int .i64 r63501.2.Code), v63511])])) ∧ (b 7 = true → vs 7 = (.agg #[(.int .i64 r63501.1.Size), (.bool r63501.1.Up), v63503, v63507, (.int .i64 r63501.1.Lost), (.int .i64 r63501.1.Pending), (.int .i64 r63501.1.Every), (.int .i64 r63501.1.Signals)])) ∧ (b 8 = true → vs 8 = (.agg #[(.int .i64 r63501.2.Code), v63511])) ∧ (b 9 = true → vs 9 = (.pointer (some ⟨g63903, 0, none⟩))) ∧ (b 10 = true → vs 10 = (.pointer (some ⟨g64002, 0, none⟩))) ∧ (b 5 = true → OwF 3 (FK.int .i64) v63503 r63501.1.Posted h63505) ∧ (b 5 = true → OwF 3 (FK.int .i64) v63507 r63501.1.Done h63509) ∧ (b 5 = true → OwF 3 (FK.int .i64) v63511 r63501.2.List h63513) ∧ Mem w0 w (cat [sg g32425 65 (0, 0) [] [(.int .i64 s56369), (.bool s56370), v56372, v56376, (.int .i64 s56379), (.int .i64 s56380), (.int .i64 s56381), (.int .i64 s56382)] [], h56373, h56377, hF, hz63000, (bif b 5 then h63505 else []), (bif b 5 then h63509 else []), (bif b 5 then h63513 else []), (bif b 11 then sg g63903 65 (0, 0) [] [(.int .i64 r63501.1.Size), (.bool r63501.1.Up), v63503, v63507, (.int .i64 r63501.1.Lost), (.int .i64 r63501.1.Pending), (.int .i64 r63501.1.Every), (.int .i64 r63501.1.Signals)] [] else (bif b 9 then sg g63903 65 (0, 0) [] [(.int .i64 0), (.bool false), (.slice none 0 0), (.slice none 0 0), (.int .i64 0), (.int .i64 0), (.int .i64 0), (.int .i64 0)] [] else [])), (bif b 12 then sg g64002 71 (0, 0) [] [(.int .i64 r63501.2.Code), v63511] [] else (bif b 10 then sg g64002 71 (0, 0) [] [(.int .i64 0), (.slice none 0 0)] [] else []))])) mixed (by kernel_rfl) ⟨fun _ => undef, undef, [], undef, [], undef, [], 0, 0, (by rw [sel_false]), fun h => fno h, fun h => fno h, fun h => fno h, fun h => fno h, fun h => fno h, fun h => fno h, fun h => fno h, fun h => fno h, fun h => fno h, fun h => fno h, fun h => fno h, fun h => fno h, fun h => fno h, fun h => fno h, Mem.drew (Mem.pick [0, 1, 2, 3, 4, 1000, 1001, 1002, 1003, 1004] rfl hm63000)⟩ (steps_cons (i := 0) ?_ (steps_cons (i := 1) ?_ (steps_cons (i := 2) ?_ (steps_cons (i := 3) ?_ (steps_cons (i := 4) ?_ (steps_cons (i := 5) ?_ (steps_cons (i := 6) ?_ (steps_cons (i := 7) ?_ (steps_cons (i := 8) ?_ (steps_cons (i := 9) ?_ (steps_cons (i := 10) ?_ (steps_cons (i := 11) ?_ (steps_cons (i := 12) ?_ steps_nil))))))))))))) ?_
       ·
        intro b a w hI hbi hn hc K hK
        obtain ⟨vs, v63503, h63505, v63507, h63509, v63511, h63513, g63903, g64002, ha, y0, y1, y2, y3, y4, y5, y6, y7, y8, y9, y10, H63504, H63508, H63512, hm⟩ := hI
        subst ha
        have b5 : b 5 = false := later (j := 5) hc rfl (i := 0) (da rfl) hbi
        have b6 : b 6 = false := later (j := 6) hc rfl (i := 5) (da rfl) b5
        have b7 : b 7 = false := later (j := 7) hc rfl (i := 6) (da rfl) b6
        have b8 : b 8 = false := later (j := 8) hc rfl (i := 6) (da rfl) b6
        have b11 : b 11 = false := later (j := 11) hc rfl (i := 0) (da rfl) hbi
        have b12 : b 12 = false := later (j := 12) hc rfl (i := 0) (da rfl) hbi
        have hm64301 : Mem w0 w (cat [sg g32425 65 (0, 0) [] [(.int .i64 s56369), (.bool s56370), v56372, v56376, (.int .i64 s56379), (.int .i64 s56380), (.int .i64 s56381), (.int .i64 s56382)] [], h56373, h56377, hF, hz63000, (bif b 9 then sg g63903 65 (0, 0) [] [(.int .i64 0), (.bool false), (.slice none 0 0), (.slice none 0 0), (.int .i64 0), (.int .i64 0), (.int .i64 0), (.int .i64 0)] [] else []), (bif b 10 then sg g64002 71 (0, 0) [] [(.int .i64 0), (.slice none 0 0)] [] else [])]) := Mem.pick [0, 1, 2, 3, 4, 8, 9] rfl (Mem.cg (B := [sg g32425 65 (0, 0) [] [(.int .i64 s56369), (.bool s56370), v56372, v56376, (.int .i64 s56379), (.int .i64 s56380), (.int .i64 s56381), (.int .i64 s56382)] [], h56373, h56377, hF, hz63000, [], [], [], (bif b 9 then sg g63903 65 (0, 0) [] [(.int .i64 0), (.bool false), (.slice none 0 0), (.slice none 0 0), (.int .i64 0), (.int .i64 0), (.int .i64 0), (.int .i64 0)] [] else []), (bif b 10 then sg g64002 71 (0, 0) [] [(.int .i64 0), (.slice none 0 0)] [] else [])]) (cat_cons rfl (cat_cons rfl (cat_cons rfl (cat_cons rfl (cat_cons rfl (cat_cons (off_ b5 rfl) (cat_cons (off_ b5 rfl) (cat_cons (off_ b5 rfl) (cat_cons (off_ b11 rfl) (cat_cons (off_ b12 rfl) rfl)))))))))) hm)
        refine e_val (i := 0) hbi rfl rfl (v := (.agg #[(.int .i64 s56369), (.bool s56370), v56372, v56376, (.int .i64 s56379), (.int .i64 s56380), (.int .i64 s56381), (.int .i64 s56382)])) (won rfl) rfl rfl (x_loadN (vs := [(.int .i64 s56369), (.bool s56370), v56372, v56376, (.int .i64 s56379), (.int .i64 s56380), (.int .i64 s56381), (.int .i64 s56382)]) rfl tyN_65 (ev (t := 9) (v := (.pointer (some ⟨g32425, 0, none⟩))) rfl ((sel_no rfl).trans q56383)) (seg_cells (o' := 0) (j := 0) hm64301 (k := 0) rfl rfl rfl)) ?_
        exact hK _ _ ⟨_, v63503, h63505, v63507, h63509, v63511, h63513, g63903, g64002, rfl, fun _ => rfl, y1, y2, y3, y4, y5, y6, y7, y8, y9, y10, H63504, H63508, H63512, Mem.gc (A := [sg g32425 65 (0, 0) [] [(.int .i64 s56369), (.bool s56370), v56372, v56376, (.int .i64 s56379), (.int .i64 s56380), (.int .i64 s56381), (.int .i64 s56382)] [], h56373, h56377, hF, hz63000, [], [], [], (bif b 9 then sg g63903 65 (0, 0) [] [(.int .i64 0), (.bool false), (.slice none 0 0), (.slice none 0 0), (.int .i64 0), (.int .i64 0), (.int .i64 0), (.int .i64 0)] [] else []), (bif b 10 then sg g64002 71 (0, 0) [] [(.int .i64 0), (.slice none 0 0)] [] else [])]) (cat_cons rfl (cat_cons rfl (cat_cons rfl (cat_cons rfl (cat_cons rfl (cat_cons (off_ b5 rfl) (cat_cons (off_ b5 rfl) (cat_cons (off_ b5 rfl) (cat_cons (off_ b11 rfl) (cat_cons (off_ b12 rfl) rfl)))))))))) (Mem.pick [0, 1, 2, 3, 4, 1005, 1006, 1007, 5, 6] rfl hm64301)⟩
       ·
        intro b a w hI hbi hn hc K hK
        obtain ⟨vs, v63503, h63505, v63507, h63509, v63511, h63513, g63903, g64002, ha, y0, y1, y2, y3, y4, y5, y6, y7, y8, y9, y10, H63504, H63508, H63512, hm⟩ := hI
        subst ha
        have b3 : b 3 = false := later (j := 3) hc rfl (i := 1) (da rfl) hbi
        have b4 : b 4 = false := later (j := 4) hc rfl (i := 3) (da rfl) b3
        have b5 : b 5 = false := later (j := 5) hc rfl (i := 4) (da rfl) b4
        have b6 : b 6 = false := later (j := 6) hc rfl (i := 5) (da rfl) b5
        have b7 : b 7 = false := later (j := 7) hc rfl (i := 6) (da rfl) b6
        have b8 : b 8 = false := later (j := 8) hc rfl (i := 6) (da rfl) b6
        have b11 : b 11 = false := later (j := 11) hc rfl (i := 1) (da rfl) hbi
        have b12 : b 12 = false := later (j := 12) hc rfl (i := 1) (da rfl) hbi
        have hm64304 : Mem w0 w (cat [sg g32425 65 (0, 0) [] [(.int .i64 s56369), (.bool s56370), v56372, v56376, (.int .i64 s56379), (.int .i64 s56380), (.int .i64 s56381), (.int .i64 s56382)] [], h56373, h56377, hF, hz63000, (bif b 9 then sg g63903 65 (0, 0) [] [(.int .i64 0), (.bool false), (.slice none 0 0), (.slice none 0 0), (.int .i64 0), (.int .i64 0), (.int .i64 0), (.int .i64 0)] [] else []), (bif b 10 then sg g64002 71 (0, 0) [] [(.int .i64 0), (.slice none 0 0)] [] else [])]) := Mem.pick [0, 1, 2, 3, 4, 8, 9] rfl (Mem.cg (B := [sg g32425 65 (0, 0) [] [(.int .i64 s56369), (.bool s56370), v56372, v56376, (.int .i64 s56379), (.int .i64 s56380), (.int .i64 s56381), (.int .i64 s56382)] [], h56373, h56377, hF, hz63000, [], [], [], (bif b 9 then sg g63903 65 (0, 0) [] [(.int .i64 0), (.bool false), (.slice none 0 0), (.slice none 0 0), (.int .i64 0), (.int .i64 0), (.int .i64 0), (.int .i64 0)] [] else []), (bif b 10 then sg g64002 71 (0, 0) [] [(.int .i64 0), (.slice none 0 0)] [] else [])]) (cat_cons rfl (cat_cons rfl (cat_cons rfl (cat_cons rfl (cat_cons rfl (cat_cons (off_ b5 rfl) (cat_cons (off_ b5 rfl) (cat_cons (off_ b5 rfl) (cat_cons (off_ b11 rfl) (cat_cons (off_ b12 rfl) rfl)))))))))) hm)
        refine e_val (i := 1) hbi rfl rfl (v := v2x0) (won rfl) rfl rfl (x_move rfl (ev (t := 2) (v := v2x0) rfl ((sel_no rfl).trans q56367))) ?_
        exact hK _ _ ⟨_, v63503, h63505, v63507, h63509, v63511, h63513, g63903, g64002, rfl, y0, fun _ => rfl, y2, y3, y4, y5, y6, y7, y8, y9, y10, H63504, H63508, H63512, Mem.gc (A := [sg g32425 65 (0, 0) [] [(.int .i64 s56369), (.bool s56370), v56372, v56376, (.int .i64 s56379), (.int .i64 s56380), (.int .i64 s56381), (.int .i64 s56382)] [], h56373, h56377, hF, hz63000, [], [], [], (bif b 9 then sg g63903 65 (0, 0) [] [(.int .i64 0), (.bool false), (.slice none 0 0), (.slice none 0 0), (.int .i64 0), (.int .i64 0), (.int .i64 0), (.int .i64 0)] [] else []), (bif b 10 then sg g64002 71 (0, 0) [] [(.int .i64 0), (.slice none 0 0)] [] else [])]) (cat_cons rfl (cat_cons rfl (cat_cons rfl (cat_cons rfl (cat_cons rfl (cat_cons (off_ b5 rfl) (cat_cons (off_ b5 rfl) (cat_cons (off_ b5 rfl) (cat_cons (off_ b11 rfl) (cat_cons (off_ b12 rfl) rfl)))))))))) (Mem.pick [0, 1, 2, 3, 4, 1005, 1006, 1007, 5, 6] rfl hm64304)⟩
       ·
        intro b a w hI hbi hn hc K hK
        obtain ⟨vs, v63503, h63505, v63507, h63509, v63511, h63513, g63903, g64002, ha, y0, y1, y2, y3, y4, y5, y6, y7, y8, y9, y10, H63504, H63508, H63512, hm⟩ := hI
        subst ha
        have b3 : b 3 = false := later (j := 3) hc rfl (i := 2) (da rfl) hbi
        have b4 : b 4 = false := later (j := 4) hc rfl (i := 3) (da rfl) b3
        have b5 : b 5 = false := later (j := 5) hc rfl (i := 4) (da rfl) b4
        have b6 : b 6 = false := later (j := 6) hc rfl (i := 5) (da rfl) b5
        have b7 : b 7 = false := later (j := 7) hc rfl (i := 6) (da rfl) b6
        have b8 : b 8 = false := later (j := 8) hc rfl (i := 6) (da rfl) b6
        have b11 : b 11 = false := later (j := 11) hc rfl (i := 2) (da rfl) hbi
        have b12 : b 12 = false := later (j := 12) hc rfl (i := 2) (da rfl) hbi
        have hm64307 : Mem w0 w (cat [sg g32425 65 (0, 0) [] [(.int .i64 s56369), (.bool s56370), v56372, v56376, (.int .i64 s56379), (.int .i64 s56380), (.int .i64 s56381), (.int .i64 s56382)] [], h56373, h56377, hF, hz63000, (bif b 9 then sg g63903 65 (0, 0) [] [(.int .i64 0), (.bool false), (.slice none 0 0), (.slice none 0 0), (.int .i64 0), (.int .i64 0), (.int .i64 0), (.int .i64 0)] [] else []), (bif b 10 then sg g64002 71 (0, 0) [] [(.int .i64 0), (.slice none 0 0)] [] else [])]) := Mem.pick [0, 1, 2, 3, 4, 8, 9] rfl (Mem.cg (B := [sg g32425 65 (0, 0) [] [(.int .i64 s56369), (.bool s56370), v56372, v56376, (.int .i64 s56379), (.int .i64 s56380), (.int .i64 s56381), (.int .i64 s56382)] [], h56373, h56377, hF, hz63000, [], [], [], (bif b 9 then sg g63903 65 (0, 0) [] [(.int .i64 0), (.bool false), (.slice none 0 0), (.slice none 0 0), (.int .i64 0), (.int .i64 0), (.int .i64 0), (.int .i64 0)] [] else []), (bif b 10 then sg g64002 71 (0, 0) [] [(.int .i64 0), (.slice none 0 0)] [] else [])]) (cat_cons rfl (cat_cons rfl (cat_cons rfl (cat_cons rfl (cat_cons rfl (cat_cons (off_ b5 rfl) (cat_cons (off_ b5 rfl) (cat_cons (off_ b5 rfl) (cat_cons (off_ b11 rfl) (cat_cons (off_ b12 rfl) rfl)))))))))) hm)
        refine e_val (i := 2) hbi rfl rfl (v := (.int .i64 s56389)) (won rfl) rfl rfl (x_move rfl (ev (t := 12) (v := (.int .i64 s56389)) rfl ((sel_no rfl).trans q56390))) ?_
        exact hK _ _ ⟨_, v63503, h63505, v63507, h63509, v63511, h63513, g63903, g64002, rfl, y0, y1, fun _ => rfl, y3, y4, y5, y6, y7, y8, y9, y10, H63504, H63508, H63512, Mem.gc (A := [sg g32425 65 (0, 0) [] [(.int .i64 s56369), (.bool s56370), v56372, v56376, (.int .i64 s56379), (.int .i64 s56380), (.int .i64 s56381), (.int .i64 s56382)] [], h56373, h56377, hF, hz63000, [], [], [], (bif b 9 then sg g63903 65 (0, 0) [] [(.int .i64 0), (.bool false), (.slice none 0 0), (.slice none 0 0), (.int .i64 0), (.int .i64 0), (.int .i64 0), (.int .i64 0)] [] else []), (bif b 10 then sg g64002 71 (0, 0) [] [(.int .i64 0), (.slice none 0 0)] [] else [])]) (cat_cons rfl (cat_cons rfl (cat_cons rfl (cat_cons rfl (cat_cons rfl (cat_cons (off_ b5 rfl) (cat_cons (off_ b5 rfl) (cat_cons (off_ b5 rfl) (cat_cons (off_ b11 rfl) (cat_cons (off_ b12 rfl) rfl)))))))))) (Mem.pick [0, 1, 2, 3, 4, 1005, 1006, 1007, 5, 6] rfl hm64307)⟩
       ·
        intro b a w hI hbi hn hc K hK
        obtain ⟨vs, v63503, h63505, v63507, h63509, v63511, h63513, g63903, g64002, ha, y0, y1, y2, y3, y4, y5, y6, y7, y8, y9, y10, H63504, H63508, H63512, hm⟩ := hI
        subst ha
        have b1 : b 1 = true := hn 1 (da rfl)
        have b2 : b 2 = true := hn 2 (da rfl)
        have b4 : b 4 = false := later (j := 4) hc rfl (i := 3) (da rfl) hbi
        have b5 : b 5 = false := later (j := 5) hc rfl (i := 4) (da rfl) b4
        have b6 : b 6 = false := later (j := 6) hc rfl (i := 5) (da rfl) b5
        have b7 : b 7 = false := later (j := 7) hc rfl (i := 6) (da rfl) b6
        have b8 : b 8 = false := later (j := 8) hc rfl (i := 6) (da rfl) b6
        have b11 : b 11 = false := later (j := 11) hc rfl (i := 3) (da rfl) hbi
        have b12 : b 12 = false := later (j := 12) hc rfl (i := 3) (da rfl) hbi
        have hm64310 : Mem w0 w (cat [sg g32425 65 (0, 0) [] [(.int .i64 s56369), (.bool s56370), v56372, v56376, (.int .i64 s56379), (.int .i64 s56380), (.int .i64 s56381), (.int .i64 s56382)] [], h56373, h56377, hF, hz63000, (bif b 9 then sg g63903 65 (0, 0) [] [(.int .i64 0), (.bool false), (.slice none 0 0), (.slice none 0 0), (.int .i64 0), (.int .i64 0), (.int .i64 0), (.int .i64 0)] [] else []), (bif b 10 then sg g64002 71 (0, 0) [] [(.int .i64 0), (.slice none 0 0)] [] else [])]) := Mem.pick [0, 1, 2, 3, 4, 8, 9] rfl (Mem.cg (B := [sg g32425 65 (0, 0) [] [(.int .i64 s56369), (.bool s56370), v56372, v56376, (.int .i64 s56379), (.int .i64 s56380), (.int .i64 s56381), (.int .i64 s56382)] [], h56373, h56377, hF, hz63000, [], [], [], (bif b 9 then sg g63903 65 (0, 0) [] [(.int .i64 0), (.bool false), (.slice none 0 0), (.slice none 0 0), (.int .i64 0), (.int .i64 0), (.int .i64 0), (.int .i64 0)] [] else []), (bif b 10 then sg g64002 71 (0, 0) [] [(.int .i64 0), (.slice none 0 0)] [] else [])]) (cat_cons rfl (cat_cons rfl (cat_cons rfl (cat_cons rfl (cat_cons rfl (cat_cons (off_ b5 rfl) (cat_cons (off_ b5 rfl) (cat_cons (off_ b5 rfl) (cat_cons (off_ b11 rfl) (cat_cons (off_ b12 rfl) rfl)))))))))) hm)
        refine e_val (i := 3) hbi rfl rfl (v := (.pointer (some ((slA v2x0).add (Int.toNat s56389 * 2))))) (won rfl) rfl rfl (x_index (d := impl_RingAct.K) rfl slt_62 (ev (t := 45) (v := v2x0) rfl ((sel_on (p := (1, 45)) rfl b1).trans (y1 b1))) (ev (t := 46) (v := (.int .i64 s56389)) rfl ((sel_on (p := (2, 46)) rfl b2).trans (y2 b2))) H2x0 hg63301.1 hg63301.2) ?_
        exact hK _ _ ⟨_, v63503, h63505, v63507, h63509, v63511, h63513, g63903, g64002, rfl, y0, y1, y2, fun _ => rfl, y4, y5, y6, y7, y8, y9, y10, H63504, H63508, H63512, Mem.gc (A := [sg g32425 65 (0, 0) [] [(.int .i64 s56369), (.bool s56370), v56372, v56376, (.int .i64 s56379), (.int .i64 s56380), (.int .i64 s56381), (.int .i64 s56382)] [], h56373, h56377, hF, hz63000, [], [], [], (bif b 9 then sg g63903 65 (0, 0) [] [(.int .i64 0), (.bool false), (.slice none 0 0), (.slice none 0 0), (.int .i64 0), (.int .i64 0), (.int .i64 0), (.int .i64 0)] [] else []), (bif b 10 then sg g64002 71 (0, 0) [] [(.int .i64 0), (.slice none 0 0)] [] else [])]) (cat_cons rfl (cat_cons rfl (cat_cons rfl (cat_cons rfl (cat_cons rfl (cat_cons (off_ b5 rfl) (cat_cons (off_ b5 rfl) (cat_cons (off_ b5 rfl) (cat_cons (off_ b11 rfl) (cat_cons (off_ b12 rfl) rfl)))))))))) (Mem.pick [0, 1, 2, 3, 4, 1005, 1006, 1007, 5, 6] rfl hm64310)⟩
       ·
        intro b a w hI hbi hn hc K hK
        obtain ⟨vs, v63503, h63505, v63507, h63509, v63511, h63513, g63903, g64002, ha, y0, y1, y2, y3, y4, y5, y6, y7, y8, y9, y10, H63504, H63508, H63512, hm⟩ := hI
        subst ha
        have b3 : b 3 = true := hn 3 (da rfl)
        have b1 : b 1 = true := hc 3 _ rfl b3 1 (da rfl)
        have b2 : b 2 = true := hc 3 _ rfl b3 2 (da rfl)
        have b5 : b 5 = false := later (j := 5) hc rfl (i := 4) (da rfl) hbi
        have b6 : b 6 = false := later (j := 6) hc rfl (i := 5) (da rfl) b5
        have b7 : b 7 = false := later (j := 7) hc rfl (i := 6) (da rfl) b6
        have b8 : b 8 = false := later (j := 8) hc rfl (i := 6) (da rfl) b6
        have b11 : b 11 = false := later (j := 11) hc rfl (i := 4) (da rfl) hbi
        have b12 : b 12 = false := later (j := 12) hc rfl (i := 4) (da rfl) hbi
        have hm64313 : Mem w0 w (cat [sg g32425 65 (0, 0) [] [(.int .i64 s56369), (.bool s56370), v56372, v56376, (.int .i64 s56379), (.int .i64 s56380), (.int .i64 s56381), (.int .i64 s56382)] [], h56373, h56377, hF, hz63000, (bif b 9 then sg g63903 65 (0, 0) [] [(.int .i64 0), (.bool false), (.slice none 0 0), (.slice none 0 0), (.int .i64 0), (.int .i64 0), (.int .i64 0), (.int .i64 0)] [] else []), (bif b 10 then sg g64002 71 (0, 0) [] [(.int .i64 0), (.slice none 0 0)] [] else [])]) := Mem.pick [0, 1, 2, 3, 4, 8, 9] rfl (Mem.cg (B := [sg g32425 65 (0, 0) [] [(.int .i64 s56369), (.bool s56370), v56372, v56376, (.int .i64 s56379), (.int .i64 s56380), (.int .i64 s56381), (.int .i64 s56382)] [], h56373, h56377, hF, hz63000, [], [], [], (bif b 9 then sg g63903 65 (0, 0) [] [(.int .i64 0), (.bool false), (.slice none 0 0), (.slice none 0 0), (.int .i64 0), (.int .i64 0), (.int .i64 0), (.int .i64 0)] [] else []), (bif b 10 then sg g64002 71 (0, 0) [] [(.int .i64 0), (.slice none 0 0)] [] else [])]) (cat_cons rfl (cat_cons rfl (cat_cons rfl (cat_cons rfl (cat_cons rfl (cat_cons (off_ b5 rfl) (cat_cons (off_ b5 rfl) (cat_cons (off_ b5 rfl) (cat_cons (off_ b11 rfl) (cat_cons (off_ b12 rfl) rfl)))))))))) hm)
        refine e_val (i := 4) hbi rfl rfl (v := (.agg #[(.int .i64 (ix a2 s56389).Kind), (.int .i64 (ix a2 s56389).N)])) (won rfl) rfl rfl (x_loadN (vs := [(.int .i64 (ix a2 s56389).Kind), (.int .i64 (ix a2 s56389).N)]) rfl tyN_74 (ev (t := 47) (v := (.pointer (some ((slA v2x0).add (Int.toNat s56389 * 2))))) rfl ((sel_on (p := (3, 47)) rfl b3).trans (y3 b3))) (RdF.cells H2x0 hm64313 (Sub.trans hs (Sub.at_ (k := 3) rfl)) hg63301.1 hg63301.2)) ?_
        exact hK _ _ ⟨_, v63503, h63505, v63507, h63509, v63511, h63513, g63903, g64002, rfl, y0, y1, y2, y3, fun _ => rfl, y5, y6, y7, y8, y9, y10, H63504, H63508, H63512, Mem.gc (A := [sg g32425 65 (0, 0) [] [(.int .i64 s56369), (.bool s56370), v56372, v56376, (.int .i64 s56379), (.int .i64 s56380), (.int .i64 s56381), (.int .i64 s56382)] [], h56373, h56377, hF, hz63000, [], [], [], (bif b 9 then sg g63903 65 (0, 0) [] [(.int .i64 0), (.bool false), (.slice none 0 0), (.slice none 0 0), (.int .i64 0), (.int .i64 0), (.int .i64 0), (.int .i64 0)] [] else []), (bif b 10 then sg g64002 71 (0, 0) [] [(.int .i64 0), (.slice none 0 0)] [] else [])]) (cat_cons rfl (cat_cons rfl (cat_cons rfl (cat_cons rfl (cat_cons rfl (cat_cons (off_ b5 rfl) (cat_cons (off_ b5 rfl) (cat_cons (off_ b5 rfl) (cat_cons (off_ b11 rfl) (cat_cons (off_ b12 rfl) rfl)))))))))) (Mem.pick [0, 1, 2, 3, 4, 1005, 1006, 1007, 5, 6] rfl hm64313)⟩
       ·
        intro b a w hI hbi hn hc K hK
        obtain ⟨vs, v63503, h63505, v63507, h63509, v63511, h63513, g63903, g64002, ha, y0, y1, y2, y3, y4, y5, y6, y7, y8, y9, y10, H63504, H63508, H63512, hm⟩ := hI
        subst ha
        have b0 : b 0 = true := hn 0 (da rfl)
        have b4 : b 4 = true := hn 4 (da rfl)
        have b3 : b 3 = true := hc 4 _ rfl b4 3 (da rfl)
        have b1 : b 1 = true := hc 3 _ rfl b3 1 (da rfl)
        have b2 : b 2 = true := hc 3 _ rfl b3 2 (da rfl)
        have b6 : b 6 = false := later (j := 6) hc rfl (i := 5) (da rfl) hbi
        have b7 : b 7 = false := later (j := 7) hc rfl (i := 6) (da rfl) b6
        have b8 : b 8 = false := later (j := 8) hc rfl (i := 6) (da rfl) b6
        have b11 : b 11 = false := later (j := 11) hc rfl (i := 5) (da rfl) hbi
        have b12 : b 12 = false := later (j := 12) hc rfl (i := 5) (da rfl) hbi
        have hm64316 : Mem w0 w (cat [sg g32425 65 (0, 0) [] [(.int .i64 s56369), (.bool s56370), v56372, v56376, (.int .i64 s56379), (.int .i64 s56380), (.int .i64 s56381), (.int .i64 s56382)] [], h56373, h56377, hF, hz63000, (bif b 9 then sg g63903 65 (0, 0) [] [(.int .i64 0), (.bool false), (.slice none 0 0), (.slice none 0 0), (.int .i64 0), (.int .i64 0), (.int .i64 0), (.int .i64 0)] [] else []), (bif b 10 then sg g64002 71 (0, 0) [] [(.int .i64 0), (.slice none 0 0)] [] else [])]) := Mem.pick [0, 1, 2, 3, 4, 8, 9] rfl (Mem.cg (B := [sg g32425 65 (0, 0) [] [(.int .i64 s56369), (.bool s56370), v56372, v56376, (.int .i64 s56379), (.int .i64 s56380), (.int .i64 s56381), (.int .i64 s56382)] [], h56373, h56377, hF, hz63000, [], [], [], (bif b 9 then sg g63903 65 (0, 0) [] [(.int .i64 0), (.bool false), (.slice none 0 0), (.slice none 0 0), (.int .i64 0), (.int .i64 0), (.int .i64 0), (.int .i64 0)] [] else []), (bif b 10 then sg g64002 71 (0, 0) [] [(.int .i64 0), (.slice none 0 0)] [] else [])]) (cat_cons rfl (cat_cons rfl (cat_cons rfl (cat_cons rfl (cat_cons rfl (cat_cons (off_ hbi rfl) (cat_cons (off_ hbi rfl) (cat_cons (off_ hbi rfl) (cat_cons (off_ b11 rfl) (cat_cons (off_ b12 rfl) rfl)))))))))) hm)
        refine e_call (i := 5) hbi rfl rfl (won rfl) rfl rfl (x_call rfl rfl cl_77 (map_lit (map_cons (ev (t := 44) (v := (.agg #[(.int .i64 s56369), (.bool s56370), v56372, v56376, (.int .i64 s56379), (.int .i64 s56380), (.int .i64 s56381), (.int .i64 s56382)])) rfl ((sel_on (p := (0, 44)) rfl b0).trans (y0 b0))) (map_cons (ev (t := 48) (v := (.agg #[(.int .i64 (ix a2 s56389).Kind), (.int .i64 (ix a2 s56389).N)])) rfl ((sel_on (p := (4, 48)) rfl b4).trans (y4 b4))) map_nil)))) (spec_l13Step_ok F (hR := (cat [h56373, h56377])) (hF := cat [sg g32425 65 (0, 0) [] [(.int .i64 s56369), (.bool s56370), v56372, v56376, (.int .i64 s56379), (.int .i64 s56380), (.int .i64 s56381), (.int .i64 s56382)] [], h56373, h56377, hF, hz63000, (bif b 9 then sg g63903 65 (0, 0) [] [(.int .i64 0), (.bool false), (.slice none 0 0), (.slice none 0 0), (.int .i64 0), (.int .i64 0), (.int .i64 0), (.int .i64 0)] [] else []), (bif b 10 then sg g64002 71 (0, 0) [] [(.int .i64 0), (.slice none 0 0)] [] else [])]) (impl_Ring.mk s56369 s56370 s56371 s56375 s56379 s56380 s56381 s56382) (impl_RingAct.mk (ix a2 s56389).Kind (ix a2 s56389).N) ((H56374.rd w0).mono (Sub.at_ (k := 0) rfl)) ((H56378.rd w0).mono (Sub.at_ (k := 1) rfl)) (subc (Sub.at_ (k := 1) rfl) (subc (Sub.at_ (k := 2) rfl) subn)) (Mem.one hm64316) hr63501) ?_
        rintro e w63514 ⟨v63503, h63505, v63507, h63509, v63511, h63513, rfl, H63504, H63508, H63512, hm63515⟩
        refine ⟨_, rfl, ?_⟩
        replace hm63515 : Mem w0 w63514 (cat [h63505, h63509, h63513, sg g32425 65 (0, 0) [] [(.int .i64 s56369), (.bool s56370), v56372, v56376, (.int .i64 s56379), (.int .i64 s56380), (.int .i64 s56381), (.int .i64 s56382)] [], h56373, h56377, hF, hz63000, (bif b 9 then sg g63903 65 (0, 0) [] [(.int .i64 0), (.bool false), (.slice none 0 0), (.slice none 0 0), (.int .i64 0), (.int .i64 0), (.int .i64 0), (.int .i64 0)] [] else []), (bif b 10 then sg g64002 71 (0, 0) [] [(.int .i64 0), (.slice none 0 0)] [] else [])]) := Mem.ung [h63505, h63509, h63513] [sg g32425 65 (0, 0) [] [(.int .i64 s56369), (.bool s56370), v56372, v56376, (.int .i64 s56379), (.int .i64 s56380), (.int .i64 s56381), (.int .i64 s56382)] [], h56373, h56377, hF, hz63000, (bif b 9 then sg g63903 65 (0, 0) [] [(.int .i64 0), (.bool false), (.slice none 0 0), (.slice none 0 0), (.int .i64 0), (.int .i64 0), (.int .i64 0), (.int .i64 0)] [] else []), (bif b 10 then sg g64002 71 (0, 0) [] [(.int .i64 0), (.slice none 0 0)] [] else [])] hm63515
        exact hK _ _ ⟨_, v63503, h63505, v63507, h63509, v63511, h63513, g63903, g64002, rfl, y0, y1, y2, y3, y4, fun _ => rfl, fun hb => ab b6 hb, fun hb => ab b7 hb, fun hb => ab b8 hb, y9, y10, fun _ => H63504, fun _ => H63508, fun _ => H63512, Mem.gc (A := [sg g32425 65 (0, 0) [] [(.int .i64 s56369), (.bool s56370), v56372, v56376, (.int .i64 s56379), (.int .i64 s56380), (.int .i64 s56381), (.int .i64 s56382)] [], h56373, h56377, hF, hz63000, h63505, h63509, h63513, (bif b 9 then sg g63903 65 (0, 0) [] [(.int .i64 0), (.bool false), (.slice none 0 0), (.slice none 0 0), (.int .i64 0), (.int .i64 0), (.int .i64 0), (.int .i64 0)] [] else []), (bif b 10 then sg g64002 71 (0, 0) [] [(.int .i64 0), (.slice none 0 0)] [] else [])]) (cat_cons rfl (cat_cons rfl (cat_cons rfl (cat_cons rfl (cat_cons rfl (cat_cons (on_ rfl rfl) (cat_cons (on_ rfl rfl) (cat_cons (on_ rfl rfl) (cat_cons (off_ b11 rfl) (cat_cons (off_ b12 rfl) rfl)))))))))) (Mem.pick [3, 4, 5, 6, 7, 0, 1, 2, 8, 9] rfl hm63515)⟩
       ·
        intro b a w hI hbi hn hc K hK
        obtain ⟨vs, v63503, h63505, v63507, h63509, v63511, h63513, g63903, g64002, ha, y0, y1, y2, y3, y4, y5, y6, y7, y8, y9, y10, H63504, H63508, H63512, hm⟩ := hI
        subst ha
        have b5 : b 5 = true := hn 5 (da rfl)
        have b0 : b 0 = true := hc 5 _ rfl b5 0 (da rfl)
        have b4 : b 4 = true := hc 5 _ rfl b5 4 (da rfl)
        have b3 : b 3 = true := hc 4 _ rfl b4 3 (da rfl)
        have b1 : b 1 = true := hc 3 _ rfl b3 1 (da rfl)
        have b2 : b 2 = true := hc 3 _ rfl b3 2 (da rfl)
        have b7 : b 7 = false := later (j := 7) hc rfl (i := 6) (da rfl) hbi
        have b8 : b 8 = false := later (j := 8) hc rfl (i := 6) (da rfl) hbi
        have b11 : b 11 = false := later (j := 11) hc rfl (i := 6) (da rfl) hbi
        have b12 : b 12 = false := later (j := 12) hc rfl (i := 6) (da rfl) hbi
        have H63504 := H63504 b5
        have H63508 := H63508 b5
        have H63512 := H63512 b5
        have hm64319 : Mem w0 w (cat [sg g32425 65 (0, 0) [] [(.int .i64 s56369), (.bool s56370), v56372, v56376, (.int .i64 s56379), (.int .i64 s56380), (.int .i64 s56381), (.int .i64 s56382)] [], h56373, h56377, hF, hz63000, h63505, h63509, h63513, (bif b 9 then sg g63903 65 (0, 0) [] [(.int .i64 0), (.bool false), (.slice none 0 0), (.slice none 0 0), (.int .i64 0), (.int .i64 0), (.int .i64 0), (.int .i64 0)] [] else []), (bif b 10 then sg g64002 71 (0, 0) [] [(.int .i64 0), (.slice none 0 0)] [] else [])]) := Mem.pick [0, 1, 2, 3, 4, 5, 6, 7, 8, 9] rfl (Mem.cg (B := [sg g32425 65 (0, 0) [] [(.int .i64 s56369), (.bool s56370), v56372, v56376, (.int .i64 s56379), (.int .i64 s56380), (.int .i64 s56381), (.int .i64 s56382)] [], h56373, h56377, hF, hz63000, h63505, h63509, h63513, (bif b 9 then sg g63903 65 (0, 0) [] [(.int .i64 0), (.bool false), (.slice none 0 0), (.slice none 0 0), (.int .i64 0), (.int .i64 0), (.int .i64 0), (.int .i64 0)] [] else []), (bif b 10 then sg g64002 71 (0, 0) [] [(.int .i64 0), (.slice none 0 0)] [] else [])]) (cat_cons rfl (cat_cons rfl (cat_cons rfl (cat_cons rfl (cat_cons rfl (cat_cons (on_ b5 rfl) (cat_cons (on_ b5 rfl) (cat_cons (on_ b5 rfl) (cat_cons (off_ b11 rfl) (cat_cons (off_ b12 rfl) rfl)))))))))) hm)
        refine e_val (i := 6) hbi rfl rfl (v := (.tuple #[(.agg #[(.int .i64 r63501.1.Size), (.bool r63501.1.Up), v63503, v63507, (.int .i64 r63501.1.Lost), (.int .i64 r63501.1.Pending), (.int .i64 r63501.1.Every), (.int .i64 r63501.1.Signals)]), (.agg #[(.int .i64 r63501.2.Code), v63511])])) (won rfl) rfl rfl (x_move rfl (ev (t := 49) (v := (.tuple #[(.agg #[(.int .i64 r63501.1.Size), (.bool r63501.1.Up), v63503, v63507, (.int .i64 r63501.1.Lost), (.int .i64 r63501.1.Pending), (.int .i64 r63501.1.Every), (.int .i64 r63501.1.Signals)]), (.agg #[(.int .i64 r63501.2.Code), v63511])])) rfl ((sel_on (p := (5, 49)) rfl b5).trans (y5 b5)))) ?_
        exact hK _ _ ⟨_, v63503, h63505, v63507, h63509, v63511, h63513, g63903, g64002, rfl, y0, y1, y2, y3, y4, y5, fun _ => rfl, y7, y8, y9, y10, fun _ => H63504, fun _ => H63508, fun _ => H63512, Mem.gc (A := [sg g32425 65 (0, 0) [] [(.int .i64 s56369), (.bool s56370), v56372, v56376, (.int .i64 s56379), (.int .i64 s56380), (.int .i64 s56381), (.int .i64 s56382)] [], h56373, h56377, hF, hz63000, h63505, h63509, h63513, (bif b 9 then sg g63903 65 (0, 0) [] [(.int .i64 0), (.bool false), (.slice none 0 0), (.slice none 0 0), (.int .i64 0), (.int .i64 0), (.int .i64 0), (.int .i64 0)] [] else []), (bif b 10 then sg g64002 71 (0, 0) [] [(.int .i64 0), (.slice none 0 0)] [] else [])]) (cat_cons rfl (cat_cons rfl (cat_cons rfl (cat_cons rfl (cat_cons rfl (cat_cons (on_ b5 rfl) (cat_cons (on_ b5 rfl) (cat_cons (on_ b5 rfl) (cat_cons (off_ b11 rfl) (cat_cons (off_ b12 rfl) rfl)))))))))) (Mem.pick [0, 1, 2, 3, 4, 5, 6, 7, 8, 9] rfl hm64319)⟩
       ·
        intro b a w hI hbi hn hc K hK
        obtain ⟨vs, v63503, h63505, v63507, h63509, v63511, h63513, g63903, g64002, ha, y0, y1, y2, y3, y4, y5, y6, y7, y8, y9, y10, H63504, H63508, H63512, hm⟩ := hI
        subst ha
        have b6 : b 6 = true := hn 6 (da rfl)
        have b5 : b 5 = true := hc 6 _ rfl b6 5 (da rfl)
        have b0 : b 0 = true := hc 5 _ rfl b5 0 (da rfl)
        have b4 : b 4 = true := hc 5 _ rfl b5 4 (da rfl)
        have b3 : b 3 = true := hc 4 _ rfl b4 3 (da rfl)
        have b1 : b 1 = true := hc 3 _ rfl b3 1 (da rfl)
        have b2 : b 2 = true := hc 3 _ rfl b3 2 (da rfl)
        have b11 : b 11 = false := later (j := 11) hc rfl (i := 7) (da rfl) hbi
        have b12 : b 12 = false := later (j := 12) hc rfl (i := 7) (da rfl) hbi
        have H63504 := H63504 b5
        have H63508 := H63508 b5
        have H63512 := H63512 b5
        have hm64322 : Mem w0 w (cat [sg g32425 65 (0, 0) [] [(.int .i64 s56369), (.bool s56370), v56372, v56376, (.int .i64 s56379), (.int .i64 s56380), (.int .i64 s56381), (.int .i64 s56382)] [], h56373, h56377, hF, hz63000, h63505, h63509, h63513, (bif b 9 then sg g63903 65 (0, 0) [] [(.int .i64 0), (.bool false), (.slice none 0 0), (.slice none 0 0), (.int .i64 0), (.int .i64 0), (.int .i64 0), (.int .i64 0)] [] else []), (bif b 10 then sg g64002 71 (0, 0) [] [(.int .i64 0), (.slice none 0 0)] [] else [])]) := Mem.pick [0, 1, 2, 3, 4, 5, 6, 7, 8, 9] rfl (Mem.cg (B := [sg g32425 65 (0, 0) [] [(.int .i64 s56369), (.bool s56370), v56372, v56376, (.int .i64 s56379), (.int .i64 s56380), (.int .i64 s56381), (.int .i64 s56382)] [], h56373, h56377, hF, hz63000, h63505, h63509, h63513, (bif b 9 then sg g63903 65 (0, 0) [] [(.int .i64 0), (.bool false), (.slice none 0 0), (.slice none 0 0), (.int .i64 0), (.int .i64 0), (.int .i64 0), (.int .i64 0)] [] else []), (bif b 10 then sg g64002 71 (0, 0) [] [(.int .i64 0), (.slice none 0 0)] [] else [])]) (cat_cons rfl (cat_cons rfl (cat_cons rfl (cat_cons rfl (cat_cons rfl (cat_cons (on_ b5 rfl) (cat_cons (on_ b5 rfl) (cat_cons (on_ b5 rfl) (cat_cons (off_ b11 rfl) (cat_cons (off_ b12 rfl) rfl)))))))))) hm)
        refine e_val (i := 7) hbi rfl rfl (v := (.agg #[(.int .i64 r63501.1.Size), (.bool r63501.1.Up), v63503, v63507, (.int .i64 r63501.1.Lost), (.int .i64 r63501.1.Pending), (.int .i64 r63501.1.Every), (.int .i64 r63501.1.Signals)])) (won rfl) rfl rfl (x_extract rfl (ev (t := 43) (v := (.tuple #[(.agg #[(.int .i64 r63501.1.Size), (.bool r63501.1.Up), v63503, v63507, (.int .i64 r63501.1.Lost), (.int .i64 r63501.1.Pending), (.int .i64 r63501.1.Every), (.int .i64 r63501.1.Signals)]), (.agg #[(.int .i64 r63501.2.Code), v63511])])) rfl ((sel_on (p := (6, 43)) rfl b6).trans (y6 b6))) rfl) ?_
        exact hK _ _ ⟨_, v63503, h63505, v63507, h63509, v63511, h63513, g63903, g64002, rfl, y0, y1, y2, y3, y4, y5, y6, fun _ => rfl, y8, y9, y10, fun _ => H63504, fun _ => H63508, fun _ => H63512, Mem.gc (A := [sg g32425 65 (0, 0) [] [(.int .i64 s56369), (.bool s56370), v56372, v56376, (.int .i64 s56379), (.int .i64 s56380), (.int .i64 s56381), (.int .i64 s56382)] [], h56373, h56377, hF, hz63000, h63505, h63509, h63513, (bif b 9 then sg g63903 65 (0, 0) [] [(.int .i64 0), (.bool false), (.slice none 0 0), (.slice none 0 0), (.int .i64 0), (.int .i64 0), (.int .i64 0), (.int .i64 0)] [] else []), (bif b 10 then sg g64002 71 (0, 0) [] [(.int .i64 0), (.slice none 0 0)] [] else [])]) (cat_cons rfl (cat_cons rfl (cat_cons rfl (cat_cons rfl (cat_cons rfl (cat_cons (on_ b5 rfl) (cat_cons (on_ b5 rfl) (cat_cons (on_ b5 rfl) (cat_cons (off_ b11 rfl) (cat_cons (off_ b12 rfl) rfl)))))))))) (Mem.pick [0, 1, 2, 3, 4, 5, 6, 7, 8, 9] rfl hm64322)⟩
       ·
        intro b a w hI hbi hn hc K hK
        obtain ⟨vs, v63503, h63505, v63507, h63509, v63511, h63513, g63903, g64002, ha, y0, y1, y2, y3, y4, y5, y6, y7, y8, y9, y10, H63504, H63508, H63512, hm⟩ := hI
        subst ha
        have b6 : b 6 = true := hn 6 (da rfl)
        have b5 : b 5 = true := hc 6 _ rfl b6 5 (da rfl)
        have b0 : b 0 = true := hc 5 _ rfl b5 0 (da rfl)
        have b4 : b 4 = true := hc 5 _ rfl b5 4 (da rfl)
        have b3 : b 3 = true := hc 4 _ rfl b4 3 (da rfl)
        have b1 : b 1 = true := hc 3 _ rfl b3 1 (da rfl)
        have b2 : b 2 = true := hc 3 _ rfl b3 2 (da rfl)
        have b12 : b 12 = false := later (j := 12) hc rfl (i := 8) (da rfl) hbi
        have H63504 := H63504 b5
        have H63508 := H63508 b5
        have H63512 := H63512 b5
        have hm64325 : Mem w0 w (cat [sg g32425 65 (0, 0) [] [(.int .i64 s56369), (.bool s56370), v56372, v56376, (.int .i64 s56379), (.int .i64 s56380), (.int .i64 s56381), (.int .i64 s56382)] [], h56373, h56377, hF, hz63000, h63505, h63509, h63513, (bif b 11 then sg g63903 65 (0, 0) [] [(.int .i64 r63501.1.Size), (.bool r63501.1.Up), v63503, v63507, (.int .i64 r63501.1.Lost), (.int .i64 r63501.1.Pending), (.int .i64 r63501.1.Every), (.int .i64 r63501.1.Signals)] [] else (bif b 9 then sg g63903 65 (0, 0) [] [(.int .i64 0), (.bool false), (.slice none 0 0), (.slice none 0 0), (.int .i64 0), (.int .i64 0), (.int .i64 0), (.int .i64 0)] [] else [])), (bif b 10 then sg g64002 71 (0, 0) [] [(.int .i64 0), (.slice none 0 0)] [] else [])]) := Mem.pick [0, 1, 2, 3, 4, 5, 6, 7, 8, 9] rfl (Mem.cg (B := [sg g32425 65 (0, 0) [] [(.int .i64 s56369), (.bool s56370), v56372, v56376, (.int .i64 s56379), (.int .i64 s56380), (.int .i64 s56381), (.int .i64 s56382)] [], h56373, h56377, hF, hz63000, h63505, h63509, h63513, (bif b 11 then sg g63903 65 (0, 0) [] [(.int .i64 r63501.1.Size), (.bool r63501.1.Up), v63503, v63507, (.int .i64 r63501.1.Lost), (.int .i64 r63501.1.Pending), (.int .i64 r63501.1.Every), (.int .i64 r63501.1.Signals)] [] else (bif b 9 then sg g63903 65 (0, 0) [] [(.int .i64 0), (.bool false), (.slice none 0 0), (.slice none 0 0), (.int .i64 0), (.int .i64 0), (.int .i64 0), (.int .i64 0)] [] else [])), (bif b 10 then sg g64002 71 (0, 0) [] [(.int .i64 0), (.slice none 0 0)] [] else [])]) (cat_cons rfl (cat_cons rfl (cat_cons rfl (cat_cons rfl (cat_cons rfl (cat_cons (on_ b5 rfl) (cat_cons (on_ b5 rfl) (cat_cons (on_ b5 rfl) (cat_cons rfl (cat_cons (off_ b12 rfl) rfl)))))))))) hm)
        refine e_val (i := 8) hbi rfl rfl (v := (.agg #[(.int .i64 r63501.2.Code), v63511])) (won rfl) rfl rfl (x_extract rfl (ev (t := 43) (v := (.tuple #[(.agg #[(.int .i64 r63501.1.Size), (.bool r63501.1.Up), v63503, v63507, (.int .i64 r63501.1.Lost), (.int .i64 r63501.1.Pending), (.int .i64 r63501.1.Every), (.int .i64 r63501.1.Signals)]), (.agg #[(.int .i64 r63501.2.Code), v63511])])) rfl ((sel_on (p := (6, 43)) rfl b6).trans (y6 b6))) rfl) ?_
        exact hK _ _ ⟨_, v63503, h63505, v63507, h63509, v63511, h63513, g63903, g64002, rfl, y0, y1, y2, y3, y4, y5, y6, y7, fun _ => rfl, y9, y10, fun _ => H63504, fun _ => H63508, fun _ => H63512, Mem.gc (A := [sg g32425 65 (0, 0) [] [(.int .i64 s56369), (.bool s56370), v56372, v56376, (.int .i64 s56379), (.int .i64 s56380), (.int .i64 s56381), (.int .i64 s56382)] [], h56373, h56377, hF, hz63000, h63505, h63509, h63513, (bif b 11 then sg g63903 65 (0, 0) [] [(.int .i64 r63501.1.Size), (.bool r63501.1.Up), v63503, v63507, (.int .i64 r63501.1.Lost), (.int .i64 r63501.1.Pending), (.int .i64 r63501.1.Every), (.int .i64 r63501.1.Signals)] [] else (bif b 9 then sg g63903 65 (0, 0) [] [(.int .i64 0), (.bool false), (.slice none 0 0), (.slice none 0 0), (.int .i64 0), (.int .i64 0), (.int .i64 0), (.int .i64 0)] [] else [])), (bif b 10 then sg g64002 71 (0, 0) [] [(.int .i64 0), (.slice none 0 0)] [] else [])]) (cat_cons rfl (cat_cons rfl (cat_cons rfl (cat_cons rfl (cat_cons rfl (cat_cons (on_ b5 rfl) (cat_cons (on_ b5 rfl) (cat_cons (on_ b5 rfl) (cat_cons rfl (cat_cons (off_ b12 rfl) rfl)))))))))) (Mem.pick [0, 1, 2, 3, 4, 5, 6, 7, 8, 9] rfl hm64325)⟩
       ·
        intro b a w hI hbi hn hc K hK
        obtain ⟨vs, v63503, h63505, v63507, h63509, v63511, h63513, g63903, g64002, ha, y0, y1, y2, y3, y4, y5, y6, y7, y8, y9, y10, H63504, H63508, H63512, hm⟩ := hI
        subst ha
        have b11 : b 11 = false := later (j := 11) hc rfl (i := 9) (da rfl) hbi
        have b12 : b 12 = false := later (j := 12) hc rfl (i := 9) (da rfl) hbi
        have hm64328 : Mem w0 w (cat [sg g32425 65 (0, 0) [] [(.int .i64 s56369), (.bool s56370), v56372, v56376, (.int .i64 s56379), (.int .i64 s56380), (.int .i64 s56381), (.int .i64 s56382)] [], h56373, h56377, hF, hz63000, (bif b 5 then h63505 else []), (bif b 5 then h63509 else []), (bif b 5 then h63513 else []), (bif b 10 then sg g64002 71 (0, 0) [] [(.int .i64 0), (.slice none 0 0)] [] else [])]) := Mem.pick [0, 1, 2, 3, 4, 5, 6, 7, 9] rfl (Mem.cg (B := [sg g32425 65 (0, 0) [] [(.int .i64 s56369), (.bool s56370), v56372, v56376, (.int .i64 s56379), (.int .i64 s56380), (.int .i64 s56381), (.int .i64 s56382)] [], h56373, h56377, hF, hz63000, (bif b 5 then h63505 else []), (bif b 5 then h63509 else []), (bif b 5 then h63513 else []), [], (bif b 10 then sg g64002 71 (0, 0) [] [(.int .i64 0), (.slice none 0 0)] [] else [])]) (cat_cons rfl (cat_cons rfl (cat_cons rfl (cat_cons rfl (cat_cons rfl (cat_cons rfl (cat_cons rfl (cat_cons rfl (cat_cons (off_ b11 (off_ hbi rfl)) (cat_cons (off_ b12 rfl) rfl)))))))))) hm)
        refine e_exv (i := 9) hbi rfl rfl (won rfl) rfl rfl (e_alloc (vs := [(.int .i64 0), (.bool false), (.slice none 0 0), (.slice none 0 0), (.int .i64 0), (.int .i64 0), (.int .i64 0), (.int .i64 0)]) rfl zt_65 rfl hm64328) ?_
        rintro g63903 w63904 hm63905
        exact hK _ _ ⟨_, v63503, h63505, v63507, h63509, v63511, h63513, g63903, g64002, rfl, y0, y1, y2, y3, y4, y5, y6, y7, y8, fun _ => rfl, y10, H63504, H63508, H63512, Mem.gc (A := [sg g32425 65 (0, 0) [] [(.int .i64 s56369), (.bool s56370), v56372, v56376, (.int .i64 s56379), (.int .i64 s56380), (.int .i64 s56381), (.int .i64 s56382)] [], h56373, h56377, hF, hz63000, (bif b 5 then h63505 else []), (bif b 5 then h63509 else []), (bif b 5 then h63513 else []), sg g63903 65 (0, 0) [] [(.int .i64 0), (.bool false), (.slice none 0 0), (.slice none 0 0), (.int .i64 0), (.int .i64 0), (.int .i64 0), (.int .i64 0)] [], (bif b 10 then sg g64002 71 (0, 0) [] [(.int .i64 0), (.slice none 0 0)] [] else [])]) (cat_cons rfl (cat_cons rfl (cat_cons rfl (cat_cons rfl (cat_cons rfl (cat_cons rfl (cat_cons rfl (cat_cons rfl (cat_cons (off_ b11 (on_ rfl rfl)) (cat_cons (off_ b12 rfl) rfl)))))))))) (Mem.pick [1, 2, 3, 4, 5, 6, 7, 8, 0, 9] rfl hm63905)⟩
       ·
        intro b a w hI hbi hn hc K hK
        obtain ⟨vs, v63503, h63505, v63507, h63509, v63511, h63513, g63903, g64002, ha, y0, y1, y2, y3, y4, y5, y6, y7, y8, y9, y10, H63504, H63508, H63512, hm⟩ := hI
        subst ha
        have b11 : b 11 = false := later (j := 11) hc rfl (i := 10) (da rfl) hbi
        have b12 : b 12 = false := later (j := 12) hc rfl (i := 10) (da rfl) hbi
        have hm64331 : Mem w0 w (cat [sg g32425 65 (0, 0) [] [(.int .i64 s56369), (.bool s56370), v56372, v56376, (.int .i64 s56379), (.int .i64 s56380), (.int .i64 s56381), (.int .i64 s56382)] [], h56373, h56377, hF, hz63000, (bif b 5 then h63505 else []), (bif b 5 then h63509 else []), (bif b 5 then h63513 else []), (bif b 9 then sg g63903 65 (0, 0) [] [(.int .i64 0), (.bool false), (.slice none 0 0), (.slice none 0 0), (.int .i64 0), (.int .i64 0), (.int .i64 0), (.int .i64 0)] [] else [])]) := Mem.pick [0, 1, 2, 3, 4, 5, 6, 7, 8] rfl (Mem.cg (B := [sg g32425 65 (0, 0) [] [(.int .i64 s56369), (.bool s56370), v56372, v56376, (.int .i64 s56379), (.int .i64 s56380), (.int .i64 s56381), (.int .i64 s56382)] [], h56373, h56377, hF, hz63000, (bif b 5 then h63505 else []), (bif b 5 then h63509 else []), (bif b 5 then h63513 else []), (bif b 9 then sg g63903 65 (0, 0) [] [(.int .i64 0), (.bool false), (.slice none 0 0), (.slice none 0 0), (.int .i64 0), (.int .i64 0), (.int .i64 0), (.int .i64 0)] [] else []), []]) (cat_cons rfl (cat_cons rfl (cat_cons rfl (cat_cons rfl (cat_cons rfl (cat_cons rfl (cat_cons rfl (cat_cons rfl (cat_cons (off_ b11 rfl) (cat_cons (off_ b12 (off_ hbi rfl)) rfl)))))))))) hm)
        refine e_exv (i := 10) hbi rfl rfl (won rfl) rfl rfl (e_alloc (vs := [(.int .i64 0), (.slice none 0 0)]) rfl zt_71 rfl hm64331) ?_
        rintro g64002 w64003 hm64004
        exact hK _ _ ⟨_, v63503, h63505, v63507, h63509, v63511, h63513, g63903, g64002, rfl, y0, y1, y2, y3, y4, y5, y6, y7, y8, y9, fun _ => rfl, H63504, H63508, H63512, Mem.gc (A := [sg g32425 65 (0, 0) [] [(.int .i64 s56369), (.bool s56370), v56372, v56376, (.int .i64 s56379), (.int .i64 s56380), (.int .i64 s56381), (.int .i64 s56382)] [], h56373, h56377, hF, hz63000, (bif b 5 then h63505 else []), (bif b 5 then h63509 else []), (bif b 5 then h63513 else []), (bif b 9 then sg g63903 65 (0, 0) [] [(.int .i64 0), (.bool false), (.slice none 0 0), (.slice none 0 0), (.int .i64 0), (.int .i64 0), (.int .i64 0), (.int .i64 0)] [] else []), sg g64002 71 (0, 0) [] [(.int .i64 0), (.slice none 0 0)] []]) (cat_cons rfl (cat_cons rfl (cat_cons rfl (cat_cons rfl (cat_cons rfl (cat_cons rfl (cat_cons rfl (cat_cons rfl (cat_cons (off_ b11 rfl) (cat_cons (off_ b12 (on_ rfl rfl)) rfl)))))))))) (Mem.pick [1, 2, 3, 4, 5, 6, 7, 8, 9, 0] rfl hm64004)⟩
       ·
        intro b a w hI hbi hn hc K hK
        obtain ⟨vs, v63503, h63505, v63507, h63509, v63511, h63513, g63903, g64002, ha, y0, y1, y2, y3, y4, y5, y6, y7, y8, y9, y10, H63504, H63508, H63512, hm⟩ := hI
        subst ha
        have b0 : b 0 = true := hn 0 (da rfl)
        have b1 : b 1 = true := hn 1 (da rfl)
        have b2 : b 2 = true := hn 2 (da rfl)
        have b3 : b 3 = true := hn 3 (da rfl)
        have b4 : b 4 = true := hn 4 (da rfl)
        have b5 : b 5 = true := hn 5 (da rfl)
        have b6 : b 6 = true := hn 6 (da rfl)
        have b7 : b 7 = true := hn 7 (da rfl)
        have b9 : b 9 = true := hn 9 (da rfl)
        have b10 : b 10 = true := hn 10 (da rfl)
        have b12 : b 12 = false := later (j := 12) hc rfl (i := 11) (da rfl) hbi
        have H63504 := H63504 b5
        have H63508 := H63508 b5
        have H63512 := H63512 b5
        have hm64334 : Mem w0 w (cat [sg g32425 65 (0, 0) [] [(.int .i64 s56369), (.bool s56370), v56372, v56376, (.int .i64 s56379), (.int .i64 s56380), (.int .i64 s56381), (.int .i64 s56382)] [], h56373, h56377, hF, hz63000, h63505, h63509, h63513, sg g63903 65 (0, 0) [] [(.int .i64 0), (.bool false), (.slice none 0 0), (.slice none 0 0), (.int .i64 0), (.int .i64 0), (.int .i64 0), (.int .i64 0)] [], sg g64002 71 (0, 0) [] [(.int .i64 0), (.slice none 0 0)] []]) := Mem.pick [0, 1, 2, 3, 4, 5, 6, 7, 8, 9] rfl (Mem.cg (B := [sg g32425 65 (0, 0) [] [(.int .i64 s56369), (.bool s56370), v56372, v56376, (.int .i64 s56379), (.int .i64 s56380), (.int .i64 s56381), (.int .i64 s56382)] [], h56373, h56377, hF, hz63000, h63505, h63509, h63513, sg g63903 65 (0, 0) [] [(.int .i64 0), (.bool false), (.slice none 0 0), (.slice none 0 0), (.int .i64 0), (.int .i64 0), (.int .i64 0), (.int .i64 0)] [], sg g64002 71 (0, 0) [] [(.int .i64 0), (.slice none 0 0)] []]) (cat_cons rfl (cat_cons rfl (cat_cons rfl (cat_cons rfl (cat_cons rfl (cat_cons (on_ b5 rfl) (cat_cons (on_ b5 rfl) (cat_cons (on_ b5 rfl) (cat_cons (off_ hbi (on_ b9 rfl)) (cat_cons (off_ b12 (on_ b10 rfl)) rfl)))))))))) hm)
        refine e_exs (i := 11) hbi rfl (won rfl) rfl (e_store (vs := [(.int .i64 r63501.1.Size), (.bool r63501.1.Up), v63503, v63507, (.int .i64 r63501.1.Lost), (.int .i64 r63501.1.Pending), (.int .i64 r63501.1.Every), (.int .i64 r63501.1.Signals)]) (o' := 0) (j := 0) rfl sz_65 (ev (t := 13) (v := (.pointer (some ⟨g63903, 0, none⟩))) rfl ((sel_on (p := (9, 13)) rfl b9).trans (y9 b9))) (ev (t := 50) (v := (.agg #[(.int .i64 r63501.1.Size), (.bool r63501.1.Up), v63503, v63507, (.int .i64 r63501.1.Lost), (.int .i64 r63501.1.Pending), (.int .i64 r63501.1.Every), (.int .i64 r63501.1.Signals)])) rfl ((sel_on (p := (7, 50)) rfl b7).trans (y7 b7))) rfl (one_cons rfl (one_cons rfl (one_cons (IsSl.one (H63504).sl) (one_cons (IsSl.one (H63508).sl) (one_cons rfl (one_cons rfl (one_cons rfl (one_cons rfl one_nil)))))))) hm64334 (k := 8) rfl rfl rfl) ?_
        intro w64101 hm64102
        replace hm64102 : Mem w0 w64101 (cat [sg g32425 65 (0, 0) [] [(.int .i64 s56369), (.bool s56370), v56372, v56376, (.int .i64 s56379), (.int .i64 s56380), (.int .i64 s56381), (.int .i64 s56382)] [], h56373, h56377, hF, hz63000, h63505, h63509, h63513, sg g63903 65 (0, 0) [] [(.int .i64 r63501.1.Size), (.bool r63501.1.Up), v63503, v63507, (.int .i64 r63501.1.Lost), (.int .i64 r63501.1.Pending), (.int .i64 r63501.1.Every), (.int .i64 r63501.1.Signals)] [], sg g64002 71 (0, 0) [] [(.int .i64 0), (.slice none 0 0)] []]) := hm64102
        exact hK _ _ ⟨_, v63503, h63505, v63507, h63509, v63511, h63513, g63903, g64002, rfl, y0, y1, y2, y3, y4, y5, y6, y7, y8, y9, y10, fun _ => H63504, fun _ => H63508, fun _ => H63512, Mem.gc (A := [sg g32425 65 (0, 0) [] [(.int .i64 s56369), (.bool s56370), v56372, v56376, (.int .i64 s56379), (.int .i64 s56380), (.int .i64 s56381), (.int .i64 s56382)] [], h56373, h56377, hF, hz63000, h63505, h63509, h63513, sg g63903 65 (0, 0) [] [(.int .i64 r63501.1.Size), (.bool r63501.1.Up), v63503, v63507, (.int .i64 r63501.1.Lost), (.int .i64 r63501.1.Pending), (.int .i64 r63501.1.Every), (.int .i64 r63501.1.Signals)] [], sg g64002 71 (0, 0) [] [(.int .i64 0), (.slice none 0 0)] []]) (cat_cons rfl (cat_cons rfl (cat_cons rfl (cat_cons rfl (cat_cons rfl (cat_cons (on_ b5 rfl) (cat_cons (on_ b5 rfl) (cat_cons (on_ b5 rfl) (cat_cons (on_ rfl rfl) (cat_cons (off_ b12 (on_ b10 rfl)) rfl)))))))))) (Mem.pick [0, 1, 2, 3, 4, 5, 6, 7, 8, 9] rfl hm64102)⟩
       ·
        intro b a w hI hbi hn hc K hK
        obtain ⟨vs, v63503, h63505, v63507, h63509, v63511, h63513, g63903, g64002, ha, y0, y1, y2, y3, y4, y5, y6, y7, y8, y9, y10, H63504, H63508, H63512, hm⟩ := hI
        subst ha
        have b0 : b 0 = true := hn 0 (da rfl)
        have b1 : b 1 = true := hn 1 (da rfl)
        have b2 : b 2 = true := hn 2 (da rfl)
        have b3 : b 3 = true := hn 3 (da rfl)
        have b4 : b 4 = true := hn 4 (da rfl)
        have b5 : b 5 = true := hn 5 (da rfl)
        have b6 : b 6 = true := hn 6 (da rfl)
        have b7 : b 7 = true := hn 7 (da rfl)
        have b8 : b 8 = true := hn 8 (da rfl)
        have b9 : b 9 = true := hn 9 (da rfl)
        have b10 : b 10 = true := hn 10 (da rfl)
        have b11 : b 11 = true := hn 11 (da rfl)
        have H63504 := H63504 b5
        have H63508 := H63508 b5
        have H63512 := H63512 b5
        have hm64337 : Mem w0 w (cat [sg g32425 65 (0, 0) [] [(.int .i64 s56369), (.bool s56370), v56372, v56376, (.int .i64 s56379), (.int .i64 s56380), (.int .i64 s56381), (.int .i64 s56382)] [], h56373, h56377, hF, hz63000, h63505, h63509, h63513, sg g63903 65 (0, 0) [] [(.int .i64 r63501.1.Size), (.bool r63501.1.Up), v63503, v63507, (.int .i64 r63501.1.Lost), (.int .i64 r63501.1.Pending), (.int .i64 r63501.1.Every), (.int .i64 r63501.1.Signals)] [], sg g64002 71 (0, 0) [] [(.int .i64 0), (.slice none 0 0)] []]) := Mem.pick [0, 1, 2, 3, 4, 5, 6, 7, 8, 9] rfl (Mem.cg (B := [sg g32425 65 (0, 0) [] [(.int .i64 s56369), (.bool s56370), v56372, v56376, (.int .i64 s56379), (.int .i64 s56380), (.int .i64 s56381), (.int .i64 s56382)] [], h56373, h56377, hF, hz63000, h63505, h63509, h63513, sg g63903 65 (0, 0) [] [(.int .i64 r63501.1.Size), (.bool r63501.1.Up), v63503, v63507, (.int .i64 r63501.1.Lost), (.int .i64 r63501.1.Pending), (.int .i64 r63501.1.Every), (.int .i64 r63501.1.Signals)] [], sg g64002 71 (0, 0) [] [(.int .i64 0), (.slice none 0 0)] []]) (cat_cons rfl (cat_cons rfl (cat_cons rfl (cat_cons rfl (cat_cons rfl (cat_cons (on_ b5 rfl) (cat_cons (on_ b5 rfl) (cat_cons (on_ b5 rfl) (cat_cons (on_ b11 rfl) (cat_cons (off_ hbi (on_ b10 rfl)) rfl)))))))))) hm)
        refine e_exs (i := 12) hbi rfl (won rfl) rfl (e_store (vs := [(.int .i64 r63501.2.Code), v63511]) (o' := 0) (j := 0) rfl sz_71 (ev (t := 14) (v := (.pointer (some ⟨g64002, 0, none⟩))) rfl ((sel_on (p := (10, 14)) rfl b10).trans (y10 b10))) (ev (t := 51) (v := (.agg #[(.int .i64 r63501.2.Code), v63511])) rfl ((sel_on (p := (8, 51)) rfl b8).trans (y8 b8))) rfl (one_cons rfl (one_cons (IsSl.one (H63512).sl) one_nil)) hm64337 (k := 9) rfl rfl rfl) ?_
        intro w64201 hm64202
        replace hm64202 : Mem w0 w64201 (cat [sg g32425 65 (0, 0) [] [(.int .i64 s56369), (.bool s56370), v56372, v56376, (.int .i64 s56379), (.int .i64 s56380), (.int .i64 s56381), (.int .i64 s56382)] [], h56373, h56377, hF, hz63000, h63505, h63509, h63513, sg g63903 65 (0, 0) [] [(.int .i64 r63501.1.Size), (.bool r63501.1.Up), v63503, v63507, (.int .i64 r63501.1.Lost), (.int .i64 r63501.1.Pending), (.int .i64 r63501.1.Every), (.int .i64 r63501.1.Signals)] [], sg g64002 71 (0, 0) [] [(.int .i64 r63501.2.Code), v63511] []]) := hm64202
        exact hK _ _ ⟨_, v63503, h63505, v63507, h63509, v63511, h63513, g63903, g64002, rfl, y0, y1, y2, y3, y4, y5, y6, y7, y8, y9, y10, fun _ => H63504, fun _ => H63508, fun _ => H63512, Mem.gc (A := [sg g32425 65 (0, 0) [] [(.int .i64 s56369), (.bool s56370), v56372, v56376, (.int .i64 s56379), (.int .i64 s56380), (.int .i64 s56381), (.int .i64 s56382)] [], h56373, h56377, hF, hz63000, h63505, h63509, h63513, sg g63903 65 (0, 0) [] [(.int .i64 r63501.1.Size), (.bool r63501.1.Up), v63503, v63507, (.int .i64 r63501.1.Lost), (.int .i64 r63501.1.Pending), (.int .i64 r63501.1.Every), (.int .i64 r63501.1.Signals)] [], sg g64002 71 (0, 0) [] [(.int .i64 r63501.2.Code), v63511] []]) (cat_cons rfl (cat_cons rfl (cat_cons rfl (cat_cons rfl (cat_cons rfl (cat_cons (on_ b5 rfl) (cat_cons (on_ b5 rfl) (cat_cons (on_ b5 rfl) (cat_cons (on_ b11 rfl) (cat_cons (on_ rfl rfl) rfl)))))))))) (Mem.pick [0, 1, 2, 3, 4, 5, 6, 7, 8, 9] rfl hm64202)⟩
       intro b a w hall hI
       obtain ⟨vs, v63503, h63505, v63507, h63509, v63511, h63513, g63903, g64002, ha, y0, y1, y2, y3, y4, y5, y6, y7, y8, y9, y10, H63504, H63508, H63512, hm⟩ := hI
       have b0 : b 0 = true := hall 0 rfl
       have b1 : b 1 = true := hall 1 rfl
       have b2 : b 2 = true := hall 2 rfl
       have b3 : b 3 = true := hall 3 rfl
       have b4 : b 4 = true := hall 4 rfl
       have b5 : b 5 = true := hall 5 rfl
       have b6 : b 6 = true := hall 6 rfl
       have b7 : b 7 = true := hall 7 rfl
       have b8 : b 8 = true := hall 8 rfl
       have b9 : b 9 = true := hall 9 rfl
       have b10 : b 10 = true := hall 10 rfl
       have b11 : b 11 = true := hall 11 rfl
       have b12 : b 12 = true := hall 12 rfl
       replace H63504 := H63504 b5
       replace H63508 := H63508 b5
       replace H63512 := H63512 b5
       have hm64340 : Mem w0 w (cat [sg g32425 65 (0, 0) [] [(.int .i64 s56369), (.bool s56370), v56372, v56376, (.int .i64 s56379), (.int .i64 s56380), (.int .i64 s56381), (.int .i64 s56382)] [], h56373, h56377, hF, h63505, h63509, h63513, sg g63903 65 (0, 0) [] [(.int .i64 r63501.1.Size), (.bool r63501.1.Up), v63503, v63507, (.int .i64 r63501.1.Lost), (.int .i64 r63501.1.Pending), (.int .i64 r63501.1.Every), (.int .i64 r63501.1.Signals)] [], sg g64002 71 (0, 0) [] [(.int .i64 r63501.2.Code), v63511] [], hz63000]) := Mem.pick [0, 1, 2, 3, 5, 6, 7, 8, 9, 4] rfl (Mem.cg (B := [sg g32425 65 (0, 0) [] [(.int .i64 s56369), (.bool s56370), v56372, v56376, (.int .i64 s56379), (.int .i64 s56380), (.int .i64 s56381), (.int .i64 s56382)] [], h56373, h56377, hF, hz63000, h63505, h63509, h63513, sg g63903 65 (0, 0) [] [(.int .i64 r63501.1.Size), (.bool r63501.1.Up), v63503, v63507, (.int .i64 r63501.1.Lost), (.int .i64 r63501.1.Pending), (.int .i64 r63501.1.Every), (.int .i64 r63501.1.Signals)] [], sg g64002 71 (0, 0) [] [(.int .i64 r63501.2.Code), v63511] []]) (cat_cons rfl (cat_cons rfl (cat_cons rfl (cat_cons rfl (cat_cons rfl (cat_cons (on_ b5 rfl) (cat_cons (on_ b5 rfl) (cat_cons (on_ b5 rfl) (cat_cons (on_ b11 rfl) (cat_cons (on_ b12 rfl) rfl)))))))))) hm)
       obtain ⟨f63000, ha', z63000x2, z63000x6, z63000x9, z63000x11, z63000x12, z63000x13, z63000x14⟩ : ∃ f' : Nat → Value, a = fr 60 f' ∧ f' 2 = v2x0 ∧ f' 6 = (.pointer (some ⟨g32385, 0, none⟩)) ∧ f' 9 = (.pointer (some ⟨g32425, 0, none⟩)) ∧ f' 11 = v56385 ∧ f' 12 = (.int .i64 s56389) ∧ f' 13 = (.pointer (some ⟨g63903, 0, none⟩)) ∧ f' 14 = (.pointer (some ⟨g64002, 0, none⟩)) := ⟨_, ha, (sel_no rfl).trans q56367, (sel_no rfl).trans q56368, (sel_no rfl).trans q56383, (sel_no rfl).trans q56388, (sel_no rfl).trans q56390, (sel_on (p := (9, 13)) rfl b9).trans (y9 b9), (sel_on (p := (10, 14)) rfl b10).trans (y10 b10)⟩
       subst ha'
       subst hze63000
       replace hm64340 : Mem w0 w (cat [sg g32425 65 (0, 0) [] [(.int .i64 s56369), (.bool s56370), v56372, v56376, (.int .i64 s56379), (.int .i64 s56380), (.int .i64 s56381), (.int .i64 s56382)] [], h56373, h56377, hF, h63505, h63509, h63513, sg g63903 65 (0, 0) [] [(.int .i64 r63501.1.Size), (.bool r63501.1.Up), v63503, v63507, (.int .i64 r63501.1.Lost), (.int .i64 r63501.1.Pending), (.int .i64 r63501.1.Every), (.int .i64 r63501.1.Signals)] [], sg g64002 71 (0, 0) [] [(.int .i64 r63501.2.Code), v63511] [], sg g32385 65 (0, 0) [] [(.int .i64 0), (.bool false), (.slice none 0 0), (.slice none 0 0), (.int .i64 0), (.int .i64 0), (.int .i64 0), (.int .i64 0)] [], h56386]) := Mem.ung [sg g32425 65 (0, 0) [] [(.int .i64 s56369), (.bool s56370), v56372, v56376, (.int .i64 s56379), (.int .i64 s56380), (.int .i64 s56381), (.int .i64 s56382)] [], h56373, h56377, hF, h63505, h63509, h63513, sg g63903 65 (0, 0) [] [(.int .i64 r63501.1.Size), (.bool r63501.1.Up), v63503, v63507, (.int .i64 r63501.1.Lost), (.int .i64 r63501.1.Pending), (.int .i64 r63501.1.Every), (.int .i64 r63501.1.Signals)] [], sg g64002 71 (0, 0) [] [(.int .i64 r63501.2.Code), v63511] []] [sg g32385 65 (0, 0) [] [(.int .i64 0), (.bool false), (.slice none 0 0), (.slice none 0 0), (.int .i64 0), (.int .i64 0), (.int .i64 0), (.int .i64 0)] [], h56386] hm64340
       refine nx ?_
       refine wp_seq ?_
       refine wp_region_lit ?_
       refine s_val (v := (.agg #[(.int .i64 r63501.1.Size), (.bool r63501.1.Up), v63503, v63507, (.int .i64 r63501.1.Lost), (.int .i64 r63501.1.Pending), (.int .i64 r63501.1.Every), (.int .i64 r63501.1.Signals)])) (won rfl) rfl rfl (x_loadN (vs := [(.int .i64 r63501.1.Size), (.bool r63501.1.Up), v63503, v63507, (.int .i64 r63501.1.Lost), (.int .i64 r63501.1.Pending), (.int .i64 r63501.1.Every), (.int .i64 r63501.1.Signals)]) rfl tyN_65 (ev (t := 13) (v := (.pointer (some ⟨g63903, 0, none⟩))) rfl z63000x13) (seg_cells (o' := 0) (j := 0) hm64340 (k := 7) rfl rfl rfl)) ?_
       refine s_exs (won rfl) rfl (e_store (vs := [(.int .i64 r63501.1.Size), (.bool r63501.1.Up), v63503, v63507, (.int .i64 r63501.1.Lost), (.int .i64 r63501.1.Pending), (.int .i64 r63501.1.Every), (.int .i64 r63501.1.Signals)]) (o' := 0) (j := 0) rfl sz_65 (ev (t := 9) (v := (.pointer (some ⟨g32425, 0, none⟩))) rfl z63000x9) (ev (t := 52) rfl rfl) rfl (one_cons rfl (one_cons rfl (one_cons (IsSl.one (H63504).sl) (one_cons (IsSl.one (H63508).sl) (one_cons rfl (one_cons rfl (one_cons rfl (one_cons rfl one_nil)))))))) hm64340 (k := 0) rfl rfl rfl) ?_
       intro w64350 hm64351
       replace hm64351 : Mem w0 w64350 (cat [sg g32425 65 (0, 0) [] [(.int .i64 r63501.1.Size), (.bool r63501.1.Up), v63503, v63507, (.int .i64 r63501.1.Lost), (.int .i64 r63501.1.Pending), (.int .i64 r63501.1.Every), (.int .i64 r63501.1.Signals)] [], h56373, h56377, hF, h63505, h63509, h63513, sg g63903 65 (0, 0) [] [(.int .i64 r63501.1.Size), (.bool r63501.1.Up), v63503, v63507, (.int .i64 r63501.1.Lost), (.int .i64 r63501.1.Pending), (.int .i64 r63501.1.Every), (.int .i64 r63501.1.Signals)] [], sg g64002 71 (0, 0) [] [(.int .i64 r63501.2.Code), v63511] [], sg g32385 65 (0, 0) [] [(.int .i64 0), (.bool false), (.slice none 0 0), (.slice none 0 0), (.int .i64 0), (.int .i64 0), (.int .i64 0), (.int .i64 0)] [], h56386]) := hm64351
       refine wpList_nil ?_
       have hm64352 : Mem w0 w64350 (cat [sg g32425 65 (0, 0) [] [(.int .i64 r63501.1.Size), (.bool r63501.1.Up), v63503, v63507, (.int .i64 r63501.1.Lost), (.int .i64 r63501.1.Pending), (.int .i64 r63501.1.Every), (.int .i64 r63501.1.Signals)] [], hF, h63505, h63509, h63513, sg g64002 71 (0, 0) [] [(.int .i64 r63501.2.Code), v63511] [], sg g32385 65 (0, 0) [] [(.int .i64 0), (.bool false), (.slice none 0 0), (.slice none 0 0), (.int .i64 0), (.int .i64 0), (.int .i64 0), (.int .i64 0)] [], h56386]) := Mem.pick [0, 3, 4, 5, 6, 8, 9, 10] rfl hm64351
       refine nx ?_
       obtain ⟨hg64359, he⟩ := gdE he
       refine wp_region_lit ?_
       refine s_val (v := v56385) (won rfl) rfl rfl (x_move rfl (ev (t := 11) (v := v56385) rfl z63000x11)) ?_
       refine s_val (v := (.agg #[(.int .i64 r63501.2.Code), v63511])) (won rfl) rfl rfl (x_loadN (vs := [(.int .i64 r63501.2.Code), v63511]) rfl tyN_71 (ev (t := 14) (v := (.pointer (some ⟨g64002, 0, none⟩))) rfl z63000x14) (seg_cells (o' := 0) (j := 0) hm64352 (k := 5) rfl rfl rfl)) ?_
       refine s_exv (won rfl) rfl rfl (e_litp (cells := [(.int .i64 r63501.2.Code), v63511]) (ps := [(0, (.agg #[(.int .i64 r63501.2.Code), v63511]))]) rfl slt_66 (pmap_lit (pmap_cons (ev (t := 54) rfl rfl) pmap_nil)) (fun w1 => run_bslicez (cells := [(.int .i64 r63501.2.Code), v63511]) (zs := [.int .i64 0, .slice none 0 0]) (zc := [.int .i64 0, .slice none 0 0]) slt_66 rfl rfl (by kernel_rfl) (fill_cons (cs := [(.int .i64 r63501.2.Code), v63511]) rfl rfl rfl fill_nil) (by decide)) hm64352) ?_
       rintro g64355 w64353 hm64354
       have H64356 : OwD 71 impl_RingReply_D (.slice (some ⟨g64355, 0, none⟩) 1 1) ([r63501.2] : List impl_RingReply) (cat [sg g64355 71 (0, 0) [] [(.int .i64 r63501.2.Code), v63511] [], (cat [h63513] ++ [])]) := OwD.lit (xs := ([r63501.2] : List impl_RingReply)) (cells := [(.int .i64 r63501.2.Code), v63511]) g64355 (reps_c (d := impl_RingReply_D) (x := r63501.2) (cs := [(.int .i64 r63501.2.Code), v63511]) (h := cat [h63513]) w0 (impl_RingReply_Kmk ⟨v63511, h63513, rfl, H63512, rfl⟩) reps_n) 1 rfl (by decide)
       have hm64358 : Mem w0 w64353 (cat [(sg g64355 71 (0, 0) [] [(.int .i64 r63501.2.Code), v63511] []), h63513, sg g32425 65 (0, 0) [] [(.int .i64 r63501.1.Size), (.bool r63501.1.Up), v63503, v63507, (.int .i64 r63501.1.Lost), (.int .i64 r63501.1.Pending), (.int .i64 r63501.1.Every), (.int .i64 r63501.1.Signals)] [], hF, h63505, h63509, sg g64002 71 (0, 0) [] [(.int .i64 r63501.2.Code), v63511] [], sg g32385 65 (0, 0) [] [(.int .i64 0), (.bool false), (.slice none 0 0), (.slice none 0 0), (.int .i64 0), (.int .i64 0), (.int .i64 0), (.int .i64 0)] [], h56386]) := Mem.pick [0, 5, 1, 2, 3, 4, 6, 7, 8] rfl hm64354
       replace hm64354 : Mem w0 w64353 (cat [(cat [sg g64355 71 (0, 0) [] [(.int .i64 r63501.2.Code), v63511] [], (cat [h63513] ++ [])]), sg g32425 65 (0, 0) [] [(.int .i64 r63501.1.Size), (.bool r63501.1.Up), v63503, v63507, (.int .i64 r63501.1.Lost), (.int .i64 r63501.1.Pending), (.int .i64 r63501.1.Every), (.int .i64 r63501.1.Signals)] [], hF, h63505, h63509, sg g64002 71 (0, 0) [] [(.int .i64 r63501.2.Code), v63511] [], sg g32385 65 (0, 0) [] [(.int .i64 0), (.bool false), (.slice none 0 0), (.slice none 0 0), (.int .i64 0), (.int .i64 0), (.int .i64 0), (.int .i64 0)] [], h56386]) := Mem.eqv (by simp only [cat, List.append_assoc, List.append_nil, List.nil_append]) hm64358
       refine s_exv (won rfl) rfl rfl (e_appendD (bytes := 32) rfl slt_66 rfl (ev (t := 53) rfl rfl) (ev (t := 55) rfl rfl) H56387 (k := 7) rfl H64356 (k2 := 0) rfl rfl hm64354 hg64359 (len63 hg64359 rfl)) ?_
       rintro p64361 w64363 ⟨H64362, hm64364⟩
       replace hm64364 : Mem w0 w64363 (cat [[], sg g32425 65 (0, 0) [] [(.int .i64 r63501.1.Size), (.bool r63501.1.Up), v63503, v63507, (.int .i64 r63501.1.Lost), (.int .i64 r63501.1.Pending), (.int .i64 r63501.1.Every), (.int .i64 r63501.1.Signals)] [], hF, h63505, h63509, sg g64002 71 (0, 0) [] [(.int .i64 r63501.2.Code), v63511] [], sg g32385 65 (0, 0) [] [(.int .i64 0), (.bool false), (.slice none 0 0), (.slice none 0 0), (.int .i64 0), (.int .i64 0), (.int .i64 0), (.int .i64 0)] [], p64361.2]) := hm64364
       have hm64365 : Mem w0 w64363 (cat [sg g32425 65 (0, 0) [] [(.int .i64 r63501.1.Size), (.bool r63501.1.Up), v63503, v63507, (.int .i64 r63501.1.Lost), (.int .i64 r63501.1.Pending), (.int .i64 r63501.1.Every), (.int .i64 r63501.1.Signals)] [], hF, h63505, h63509, sg g64002 71 (0, 0) [] [(.int .i64 r63501.2.Code), v63511] [], sg g32385 65 (0, 0) [] [(.int .i64 0), (.bool false), (.slice none 0 0), (.slice none 0 0), (.int .i64 0), (.int .i64 0), (.int .i64 0), (.int .i64 0)] [], p64361.2]) := Mem.eqv (by simp only [cat, List.set_cons_zero, List.set_cons_succ, List.append_assoc, List.append_nil, List.nil_append]) hm64364
       refine s_val (v := p64361.1) (won rfl) rfl rfl (x_assign rfl (ev (t := 56) rfl rfl)) ?_
       refine wpList_nil ?_
       have hm64366 : Mem w0 w64363 (cat [sg g32425 65 (0, 0) [] [(.int .i64 r63501.1.Size), (.bool r63501.1.Up), v63503, v63507, (.int .i64 r63501.1.Lost), (.int .i64 r63501.1.Pending), (.int .i64 r63501.1.Every), (.int .i64 r63501.1.Signals)] [], hF, h63505, h63509, sg g32385 65 (0, 0) [] [(.int .i64 0), (.bool false), (.slice none 0 0), (.slice none 0 0), (.int .i64 0), (.int .i64 0), (.int .i64 0), (.int .i64 0)] [], p64361.2]) := Mem.pick [0, 1, 2, 3, 5, 6] rfl hm64365
       refine nb ?_
       refine nx ?_
       refine wp_region_lit ?_
       refine s_val (v := (.int .i64 s56389)) (won rfl) rfl rfl (x_move rfl (ev (t := 12) (v := (.int .i64 s56389)) rfl z63000x12)) ?_
       refine s_val (v := (.int .i64 (IntKind.wrap .i64 (s56389 + 1)))) (won rfl) rfl rfl (x_add rfl (ev (t := 41) rfl rfl) rfl) ?_
       refine s_val (v := (.int .i64 (IntKind.wrap .i64 (s56389 + 1)))) (won rfl) rfl rfl (x_assign rfl (ev (t := 42) rfl rfl)) ?_
       refine wpList_nil ?_
       refine nx ?_
       exact ⟨r63501.1.Size, r63501.1.Up, r63501.1.Posted, r63501.1.Done, r63501.1.Lost, r63501.1.Pending, r63501.1.Every, r63501.1.Signals, (s56384 ++ ([r63501.2] : List impl_RingReply)), (IntKind.wrap .i64 (s56389 + 1)), v63503, h63505, v63507, h63509, p64361.1, p64361.2, _, he, rfl, z63000x2, z63000x6, z63000x9, rfl, rfl, H63504, H63508, H64362, Mem.pick [4, 0, 2, 3, 5, 1] rfl hm64366⟩
      ·
       replace he := bifF he hb60372
       refine c_false rfl (p := (decide (s56389 < (a2.length : Int)))) rfl rfl hb60372 ?_
       refine wp_exit ?_
       refine xs ?_
       refine xs ?_
       refine xb ?_
       refine nx ?_
       obtain rfl := Option.some.inj he
       exact ⟨v56372, h56373, v56376, h56377, v56385, h56386, _, rfl, q56368, q56383, q56388, H56374, H56378, H56387, Mem.pick [0, 1, 2, 3, 4, 5] rfl hm60370⟩
    ·
     rintro a w ⟨v48371, h48372, v48375, h48376, v48384, h48385, f, rfl, q48367, q48382, q48387, H48373, H48377, H48386, hm64368⟩
     replace he := hk48389
     refine wp_seq ?_
     obtain ⟨r64369, hr64369, he⟩ := bindE he
     refine wp_region_lit ?_
     refine s_val (v := (.agg #[(.int .i64 s48388.1), (.bool s48388.2.1), v48371, v48375, (.int .i64 s48388.2.2.2.2.1), (.int .i64 s48388.2.2.2.2.2.1), (.int .i64 s48388.2.2.2.2.2.2.1), (.int .i64 s48388.2.2.2.2.2.2.2.1)])) (won rfl) rfl rfl (x_loadN (vs := [(.int .i64 s48388.1), (.bool s48388.2.1), v48371, v48375, (.int .i64 s48388.2.2.2.2.1), (.int .i64 s48388.2.2.2.2.2.1), (.int .i64 s48388.2.2.2.2.2.2.1), (.int .i64 s48388.2.2.2.2.2.2.2.1)]) rfl tyN_65 (ev (t := 9) (v := (.pointer (some ⟨g32425, 0, none⟩))) rfl q48382) (seg_cells (o' := 0) (j := 0) hm64368 (k := 1) rfl rfl rfl)) ?_
     refine s_call (won rfl) rfl rfl (x_call rfl rfl cl_78 (map_lit (map_cons (ev (t := 57) rfl rfl) map_nil))) (spec_l13Own_ok (hR := (cat [h48372, h48376])) (hF := cat [sg g32385 65 (0, 0) [] [(.int .i64 0), (.bool false), (.slice none 0 0), (.slice none 0 0), (.int .i64 0), (.int .i64 0), (.int .i64 0), (.int .i64 0)] [], sg g32425 65 (0, 0) [] [(.int .i64 s48388.1), (.bool s48388.2.1), v48371, v48375, (.int .i64 s48388.2.2.2.2.1), (.int .i64 s48388.2.2.2.2.2.1), (.int .i64 s48388.2.2.2.2.2.2.1), (.int .i64 s48388.2.2.2.2.2.2.2.1)] [], h48372, h48376, h48385, hF]) (impl_Ring.mk s48388.1 s48388.2.1 s48388.2.2.1 s48388.2.2.2.1 s48388.2.2.2.2.1 s48388.2.2.2.2.2.1 s48388.2.2.2.2.2.2.1 s48388.2.2.2.2.2.2.2.1) ((H48373.rd w0).mono (Sub.at_ (k := 0) rfl)) ((H48377.rd w0).mono (Sub.at_ (k := 1) rfl)) (subc (Sub.at_ (k := 2) rfl) (subc (Sub.at_ (k := 3) rfl) subn)) (Mem.one hm64368) hr64369) ?_
     rintro e w64378 ⟨v64371, h64373, v64375, h64377, rfl, H64372, H64376, hm64379⟩
     refine ⟨_, rfl, ?_⟩
     replace hm64379 : Mem w0 w64378 (cat [h64373, h64377, sg g32385 65 (0, 0) [] [(.int .i64 0), (.bool false), (.slice none 0 0), (.slice none 0 0), (.int .i64 0), (.int .i64 0), (.int .i64 0), (.int .i64 0)] [], sg g32425 65 (0, 0) [] [(.int .i64 s48388.1), (.bool s48388.2.1), v48371, v48375, (.int .i64 s48388.2.2.2.2.1), (.int .i64 s48388.2.2.2.2.2.1), (.int .i64 s48388.2.2.2.2.2.2.1), (.int .i64 s48388.2.2.2.2.2.2.2.1)] [], h48372, h48376, h48385, hF]) := Mem.ung [h64373, h64377] [sg g32385 65 (0, 0) [] [(.int .i64 0), (.bool false), (.slice none 0 0), (.slice none 0 0), (.int .i64 0), (.int .i64 0), (.int .i64 0), (.int .i64 0)] [], sg g32425 65 (0, 0) [] [(.int .i64 s48388.1), (.bool s48388.2.1), v48371, v48375, (.int .i64 s48388.2.2.2.2.1), (.int .i64 s48388.2.2.2.2.2.1), (.int .i64 s48388.2.2.2.2.2.2.1), (.int .i64 s48388.2.2.2.2.2.2.2.1)] [], h48372, h48376, h48385, hF] hm64379
     refine s_val (v := v48384) (won rfl) rfl rfl (x_move rfl (ev (t := 11) (v := v48384) rfl q48387)) ?_
     refine s_exs (won rfl) rfl (e_store (vs := [(.int .i64 r64369.Size), (.bool r64369.Up), v64371, v64375, (.int .i64 r64369.Lost), (.int .i64 r64369.Pending), (.int .i64 r64369.Every), (.int .i64 r64369.Signals)]) (o' := 0) (j := 0) rfl sz_65 (ev (t := 6) (v := (.pointer (some ⟨g32385, 0, none⟩))) rfl q48367) (ev (t := 58) rfl rfl) rfl (one_cons rfl (one_cons rfl (one_cons (IsSl.one (H64372).sl) (one_cons (IsSl.one (H64376).sl) (one_cons rfl (one_cons rfl (one_cons rfl (one_cons rfl one_nil)))))))) hm64379 (k := 2) rfl rfl rfl) ?_
     intro w64380 hm64381
     replace hm64381 : Mem w0 w64380 (cat [h64373, h64377, sg g32385 65 (0, 0) [] [(.int .i64 r64369.Size), (.bool r64369.Up), v64371, v64375, (.int .i64 r64369.Lost), (.int .i64 r64369.Pending), (.int .i64 r64369.Every), (.int .i64 r64369.Signals)] [], sg g32425 65 (0, 0) [] [(.int .i64 s48388.1), (.bool s48388.2.1), v48371, v48375, (.int .i64 s48388.2.2.2.2.1), (.int .i64 s48388.2.2.2.2.2.1), (.int .i64 s48388.2.2.2.2.2.2.1), (.int .i64 s48388.2.2.2.2.2.2.2.1)] [], h48372, h48376, h48385, hF]) := hm64381
     refine s_val (v := v48384) (won rfl) rfl rfl (x_assign rfl (ev (t := 59) rfl rfl)) ?_
     refine s_val (v := (.int .i64 0)) (won rfl) rfl rfl (x_assign rfl rfl) ?_
     refine wpList_nil ?_
     have hm64382 : Mem w0 w64380 (cat [h64373, h64377, sg g32385 65 (0, 0) [] [(.int .i64 r64369.Size), (.bool r64369.Up), v64371, v64375, (.int .i64 r64369.Lost), (.int .i64 r64369.Pending), (.int .i64 r64369.Every), (.int .i64 r64369.Signals)] [], h48385, hF]) := Mem.pick [0, 1, 2, 6, 7] rfl hm64381
     refine nx ?_
     refine wp_ret ?_
     obtain rfl := Option.some.inj he
     refine r_ret (v := (.tuple #[(.agg #[(.int .i64 r64369.Size), (.bool r64369.Up), v64371, v64375, (.int .i64 r64369.Lost), (.int .i64 r64369.Pending), (.int .i64 r64369.Every), (.int .i64 r64369.Signals)]), v48384, (.int .i64 0)])) (rv_list rfl rfl (RVs.cell (cs := [(.int .i64 r64369.Size), (.bool r64369.Up), v64371, v64375, (.int .i64 r64369.Lost), (.int .i64 r64369.Pending), (.int .i64 r64369.Every), (.int .i64 r64369.Signals)]) rfl q48367 tyN_65 (seg_cells (o' := 0) (j := 0) hm64382 (k := 2) rfl rfl rfl) (RVs.tmp (v := v48384) rfl rfl (RVs.tmp (v := (.int .i64 0)) rfl rfl RVs.nil)))) rfl ?_
     exact ⟨v64371, h64373, v64375, h64377, v48384, h48385, rfl, H64372, H64376, H48386, Mem.pick [0, 1, 3, 4] rfl hm64382⟩
def impl_RingOK_l1 (F : Nat) (a0 : impl_Ring) : Nat → Int → Option (Fl (Bool) (Unit))
  | 0, _ => none
  | k + 1, s403 => (bif (decide (s403 < (((([] : List Int) ++ a0.Done) ++ a0.Posted).length : Int))) then gd ((0 : Int) ≤ s403 ∧ s403 < (((([] : List Int) ++ a0.Done) ++ a0.Posted).length : Int)) ((impl_inRange (ix ((([] : List Int) ++ a0.Done) ++ a0.Posted) s403) 0 999).bind fun r447 => gd ((!(!r447)) = true → (0 : Int) ≤ s403 ∧ s403 ≤ (((([] : List Int) ++ a0.Done) ++ a0.Posted).length : Int)) ((bif (!(!r447)) then slices_Contains___int_int_ F (slc ((([] : List Int) ++ a0.Done) ++ a0.Posted) 0 (Int.toNat s403)) (ix ((([] : List Int) ++ a0.Done) ++ a0.Posted) s403) else some false).bind fun r452 => (bif ((!r447) || r452) then (some (Fl.out false)) else impl_RingOK_l1 F a0 k (IntKind.wrap .i64 (s403 + 1))))) else (some (Fl.go ())))
def impl_RingOK (F : Nat) (a0 : impl_Ring) : Option (Bool) := (impl_inRange a0.Size 1 16).bind fun r252 => (bif (!(!r252)) then impl_inRange a0.Every 1 16 else some false).bind fun r255 => (bif (((!r252) || (!r255)) || (decide (a0.Size < (IntKind.wrap .i64 ((a0.Posted.length : Int) + (a0.Done.length : Int)))))) then (some false) else gd ((([] : List Int).length + a0.Done.length) * 8 ≤ 140737488355328) (gd (((([] : List Int) ++ a0.Done).length + a0.Posted.length) * 8 ≤ 140737488355328) ((impl_RingOK_l1 F a0 F 0 : Option (Fl (Bool) (Unit))).bind fun l367 => l367.on fun (s366 : (Unit)) => (impl_inRange a0.Lost 0 1000000000).bind fun r467 => (bif (!(!r467)) then impl_inRange a0.Signals 0 1000000000 else some false).bind fun r470 => (bif ((!r467) || (!r470)) then (some false) else (impl_inRange a0.Pending 0 (iMin (a0.Done.length : Int) (IntKind.wrap .i64 (a0.Every - 1)))).bind fun r475 => (some r475)))))
set_option maxHeartbeats 400000 in
set_option maxRecDepth 100000 in
theorem impl_RingOK_ok (F : Nat) {w0 w : World} {hR hF : Hp} {v0x2 : Value} {v0x3 : Value} (a0 : impl_Ring) {r : (Bool)} (H0x2 : RdF w0 (FK.int .i64) v0x2 a0.Posted hR) (H0x3 : RdF w0 (FK.int .i64) v0x3 a0.Done hR) (hs : Sub hR hF) (hm : Mem w0 w (cat [hF])) (he : impl_RingOK F a0 = some r) :
    Calls Try.prog 36 #[(.agg #[(.int .i64 a0.Size), (.bool a0.Up), v0x2, v0x3, (.int .i64 a0.Lost), (.int .i64 a0.Pending), (.int .i64 a0.Every), (.int .i64 a0.Signals)])] w (fun e w' => e = .returned (.bool r) ∧ Mem w0 w' (cat [hF])) := by
 refine calls_fr (n := 73) Try.func36 rfl rfl rfl ?_
 unfold impl_RingOK at he
 refine wp_seq ?_
 refine wp_region_lit ?_
 refine s_exv (won rfl) rfl rfl (e_box (vs := [(.int .i64 a0.Size), (.bool a0.Up), v0x2, v0x3, (.int .i64 a0.Lost), (.int .i64 a0.Pending), (.int .i64 a0.Every), (.int .i64 a0.Signals)]) rfl (ev (t := 0) rfl rfl) rfl hm) ?_
 rintro g240 w241 hm242
 refine s_val (v := (.bool false)) (won rfl) rfl rfl (x_assign rfl rfl) ?_
 refine wpList_nil ?_
 refine nx ?_
 refine wp_seq ?_
 refine wp_seq ?_
 obtain ⟨r252, hr252, he⟩ := bindE he
 obtain ⟨r255, hr255, he⟩ := bindE he
 refine wp_region_lit ?_
 refine s_val (v := (.pointer (some ⟨g240, 0, none⟩))) (won rfl) rfl rfl (x_field rfl fa_65x0 (ev (t := 1) rfl rfl)) ?_
 refine s_val (v := (.int .i64 a0.Size)) (won rfl) rfl rfl (x_load rfl ty1x3 (ev (t := 6) rfl rfl) (seg_cell (o' := 0) (j := 0) hm242 (k := 0) rfl rfl rfl)) ?_
 refine s_call (won rfl) rfl rfl (x_call rfl rfl cl_58 (map_lit (map_cons (ev (t := 7) rfl rfl) (map_cons rfl (map_cons rfl map_nil))))) (impl_inRange_ok (hR := (cat [])) (hF := cat [sg g240 65 (0, 0) [] [(.int .i64 a0.Size), (.bool a0.Up), v0x2, v0x3, (.int .i64 a0.Lost), (.int .i64 a0.Pending), (.int .i64 a0.Every), (.int .i64 a0.Signals)] [], hF]) a0.Size 1 16  (Mem.one hm242) hr252) ?_
 rintro e w253 ⟨rfl, hm254⟩
 refine ⟨_, rfl, ?_⟩
 replace hm254 : Mem w0 w253 (cat [sg g240 65 (0, 0) [] [(.int .i64 a0.Size), (.bool a0.Up), v0x2, v0x3, (.int .i64 a0.Lost), (.int .i64 a0.Pending), (.int .i64 a0.Every), (.int .i64 a0.Signals)] [], hF]) := Mem.un hm254
 refine s_val (v := (.bool (!r252))) (won rfl) rfl rfl (x_not rfl (ev (t := 8) rfl rfl)) ?_
 refine s_val (v := (.bool (!r252))) (won rfl) rfl rfl (x_move rfl (ev (t := 9) rfl rfl)) ?_
 refine s_cval (p := (!(!r252))) (v := (.pointer (some ⟨g240, 6, none⟩))) (won_f (j := 4) (t := 10) (q := (!r252)) rfl rfl rfl rfl rfl) rfl rfl (fun hp => (x_field rfl fa_65x6 (ev (t := 1) rfl rfl))) ?_
 refine s_cval (p := (!(!r252))) (v := (.int .i64 a0.Every)) (won_f (j := 4) (t := 10) (q := (!r252)) rfl rfl rfl rfl rfl) rfl rfl (fun hp => (x_load rfl ty1x3 (ev (t := 11) rfl (Eq.trans (b := cv (!(!r252)) (.pointer (some ⟨g240, 6, none⟩))) rfl (on_c hp))) (seg_cell (o' := 0) (j := 6) hm254 (k := 0) rfl rfl rfl))) ?_
 refine s_ccall (p := (!(!r252))) (v := (.bool r255)) (J := fun w' => Mem w0 w' (cat [sg g240 65 (0, 0) [] [(.int .i64 a0.Size), (.bool a0.Up), v0x2, v0x3, (.int .i64 a0.Lost), (.int .i64 a0.Pending), (.int .i64 a0.Every), (.int .i64 a0.Signals)] [], hF])) (won_f (j := 4) (t := 10) (q := (!r252)) rfl rfl rfl rfl rfl) rfl rfl (fun hp => (x_call rfl rfl cl_58 (map_lit (map_cons (ev (t := 12) rfl (Eq.trans (b := cv (!(!r252)) (.int .i64 a0.Every)) rfl (on_c hp))) (map_cons rfl (map_cons rfl map_nil)))))) (fun hp => ((impl_inRange_ok (hR := (cat [])) (hF := cat [sg g240 65 (0, 0) [] [(.int .i64 a0.Size), (.bool a0.Up), v0x2, v0x3, (.int .i64 a0.Lost), (.int .i64 a0.Pending), (.int .i64 a0.Every), (.int .i64 a0.Signals)] [], hF]) a0.Every 1 16  (Mem.one hm254) (bifT hr255 hp))).mono fun e w2 h => ⟨h.1, Mem.un h.2⟩) hm254 ?_
 intro w256 hm257
 refine s_cval (p := (!(!r252))) (v := (.bool (!r255))) (won_f (j := 4) (t := 10) (q := (!r252)) rfl rfl rfl rfl rfl) rfl rfl (fun hp => (x_not rfl (ev (t := 13) rfl (Eq.trans (b := cv (!(!r252)) (.bool r255)) rfl (on_c hp))))) ?_
 refine s_val (v := (.bool ((!r252) || (!r255)))) (won rfl) rfl rfl (x_pick_or rfl (ev (t := 10) rfl rfl) rfl (fun hq => ev rfl (Eq.trans (b := cv (!(!r252)) (.bool (!r255))) rfl (on_c (not_i hq))))) ?_
 refine s_val (v := (.bool ((!r252) || (!r255)))) (won rfl) rfl rfl (x_move rfl (ev (t := 15) rfl rfl)) ?_
 refine s_cval (p := (!((!r252) || (!r255)))) (v := (.pointer (some ⟨g240, 2, none⟩))) (won_f (j := 10) (t := 16) (q := ((!r252) || (!r255))) rfl rfl rfl rfl rfl) rfl rfl (fun hp => (x_field rfl fa_65x2 (ev (t := 1) rfl rfl))) ?_
 refine s_cval (p := (!((!r252) || (!r255)))) (v := v0x2) (won_f (j := 10) (t := 16) (q := ((!r252) || (!r255))) rfl rfl rfl rfl rfl) rfl rfl (fun hp => (x_load rfl ty1x26 (ev (t := 17) rfl (Eq.trans (b := cv (!((!r252) || (!r255))) (.pointer (some ⟨g240, 2, none⟩))) rfl (on_c hp))) (seg_cell (o' := 0) (j := 2) hm257 (k := 0) rfl rfl rfl))) ?_
 refine s_cval (p := (!((!r252) || (!r255)))) (v := (.int .i64 (a0.Posted.length : Int))) (won_f (j := 10) (t := 16) (q := ((!r252) || (!r255))) rfl rfl rfl rfl rfl) rfl rfl (fun hp => (x_len rfl slt_26 (ev (t := 18) rfl (Eq.trans (b := cv (!((!r252) || (!r255))) v0x2) rfl (on_c hp))) (H0x2).sl)) ?_
 refine s_cval (p := (!((!r252) || (!r255)))) (v := (.pointer (some ⟨g240, 3, none⟩))) (won_f (j := 10) (t := 16) (q := ((!r252) || (!r255))) rfl rfl rfl rfl rfl) rfl rfl (fun hp => (x_field rfl fa_65x3 (ev (t := 1) rfl rfl))) ?_
 refine s_cval (p := (!((!r252) || (!r255)))) (v := v0x3) (won_f (j := 10) (t := 16) (q := ((!r252) || (!r255))) rfl rfl rfl rfl rfl) rfl rfl (fun hp => (x_load rfl ty1x26 (ev (t := 20) rfl (Eq.trans (b := cv (!((!r252) || (!r255))) (.pointer (some ⟨g240, 3, none⟩))) rfl (on_c hp))) (seg_cell (o' := 0) (j := 3) hm257 (k := 0) rfl rfl rfl))) ?_
 refine s_cval (p := (!((!r252) || (!r255)))) (v := (.int .i64 (a0.Done.length : Int))) (won_f (j := 10) (t := 16) (q := ((!r252) || (!r255))) rfl rfl rfl rfl rfl) rfl rfl (fun hp => (x_len rfl slt_26 (ev (t := 21) rfl (Eq.trans (b := cv (!((!r252) || (!r255))) v0x3) rfl (on_c hp))) (H0x3).sl)) ?_
 refine s_cval (p := (!((!r252) || (!r255)))) (v := (.int .i64 (IntKind.wrap .i64 ((a0.Posted.length : Int) + (a0.Done.length : Int))))) (won_f (j := 10) (t := 16) (q := ((!r252) || (!r255))) rfl rfl rfl rfl rfl) rfl rfl (fun hp => (x_add rfl (ev (t := 19) rfl (Eq.trans (b := cv (!((!r252) || (!r255))) (.int .i64 (a0.Posted.length : Int))) rfl (on_c hp))) (ev (t := 22) rfl (Eq.trans (b := cv (!((!r252) || (!r255))) (.int .i64 (a0.Done.length : Int))) rfl (on_c hp))))) ?_
 refine s_cval (p := (!((!r252) || (!r255)))) (v := (.pointer (some ⟨g240, 0, none⟩))) (won_f (j := 10) (t := 16) (q := ((!r252) || (!r255))) rfl rfl rfl rfl rfl) rfl rfl (fun hp => (x_field rfl fa_65x0 (ev (t := 1) rfl rfl))) ?_
 refine s_cval (p := (!((!r252) || (!r255)))) (v := (.int .i64 a0.Size)) (won_f (j := 10) (t := 16) (q := ((!r252) || (!r255))) rfl rfl rfl rfl rfl) rfl rfl (fun hp => (x_load rfl ty1x3 (ev (t := 24) rfl (Eq.trans (b := cv (!((!r252) || (!r255))) (.pointer (some ⟨g240, 0, none⟩))) rfl (on_c hp))) (seg_cell (o' := 0) (j := 0) hm257 (k := 0) rfl rfl rfl))) ?_
 refine s_cval (p := (!((!r252) || (!r255)))) (v := (.bool (decide (a0.Size < (IntKind.wrap .i64 ((a0.Posted.length : Int) + (a0.Done.length : Int))))))) (won_f (j := 10) (t := 16) (q := ((!r252) || (!r255))) rfl rfl rfl rfl rfl) rfl rfl (fun hp => (x_gtr rfl (ev (t := 23) rfl (Eq.trans (b := cv (!((!r252) || (!r255))) (.int .i64 (IntKind.wrap .i64 ((a0.Posted.length : Int) + (a0.Done.length : Int))))) rfl (on_c hp))) (ev (t := 25) rfl (Eq.trans (b := cv (!((!r252) || (!r255))) (.int .i64 a0.Size)) rfl (on_c hp))))) ?_
 refine s_val (v := (.bool (((!r252) || (!r255)) || (decide (a0.Size < (IntKind.wrap .i64 ((a0.Posted.length : Int) + (a0.Done.length : Int)))))))) (won rfl) rfl rfl (x_pick_or rfl (ev (t := 16) rfl rfl) rfl (fun hq => ev rfl (Eq.trans (b := cv (!((!r252) || (!r255))) (.bool (decide (a0.Size < (IntKind.wrap .i64 ((a0.Posted.length : Int) + (a0.Done.length : Int))))))) rfl (on_c (not_i hq))))) ?_
 refine wpList_nil ?_
 refine nx ?_
 rcases Bool.eq_false_or_eq_true ((((!r252) || (!r255)) || (decide (a0.Size < (IntKind.wrap .i64 ((a0.Posted.length : Int) + (a0.Done.length : Int))))))) with hb258 | hb258
 ·
  replace he := bifT he hb258
  refine c_true rfl (p := (((!r252) || (!r255)) || (decide (a0.Size < (IntKind.wrap .i64 ((a0.Posted.length : Int) + (a0.Done.length : Int))))))) rfl rfl hb258 ?_
  refine wp_seq ?_
  refine wp_region_lit ?_
  refine s_val (v := (.bool false)) (won rfl) rfl rfl (x_assign rfl rfl) ?_
  refine wpList_nil ?_
  have hm259 : Mem w0 w256 (cat [hF]) := Mem.pick [1] rfl hm257
  refine nx ?_
  refine wp_ret ?_
  refine xr ?_
  obtain rfl := Option.some.inj he
  refine r_ret (v := (.bool false)) (rv_one rfl (RVs.tmp (v := (.bool false)) rfl rfl RVs.nil)) rfl ?_
  exact ⟨rfl, Mem.pick [0] rfl hm259⟩
 ·
  replace he := bifF he hb258
  refine c_false rfl (p := (((!r252) || (!r255)) || (decide (a0.Size < (IntKind.wrap .i64 ((a0.Posted.length : Int) + (a0.Done.length : Int))))))) rfl rfl hb258 ?_
  refine wp_skip ?_
  refine nx ?_
  refine wp_seq ?_
  obtain ⟨hg266, he⟩ := gdE he
  obtain ⟨hg272, he⟩ := gdE he
  refine wp_fit [(1, 0), (2, 0), (4, 0), (5, 0), (0, 2), (3, 2), (6, 2), (7, 1)] (fun w' => Mem w0 w' (cat [sg g240 65 (0, 0) [] [(.int .i64 a0.Size), (.bool a0.Up), v0x2, v0x3, (.int .i64 a0.Lost), (.int .i64 a0.Pending), (.int .i64 a0.Every), (.int .i64 a0.Signals)] [], hF])) mixed (by kernel_rfl) (Mem.drew (Mem.pick [0, 1] rfl hm257)) ?_
  have hm260 := Mem.drew hm257
  refine z_q (v := (.pointer (some ⟨g240, 3, none⟩))) rfl (won rfl) rfl rfl (fun wq hq => (x_field rfl fa_65x3 (ev (t := 1) rfl rfl))) ?_
  refine z_q (v := v0x3) rfl (won rfl) rfl rfl (fun wq hq => (x_load rfl ty1x26 (ev (t := 29) rfl rfl) (seg_cell (o' := 0) (j := 3) hq (k := 0) rfl rfl rfl))) ?_
  refine z_q (v := (.pointer (some ⟨g240, 2, none⟩))) rfl (won rfl) rfl rfl (fun wq hq => (x_field rfl fa_65x2 (ev (t := 1) rfl rfl))) ?_
  refine z_q (v := v0x2) rfl (won rfl) rfl rfl (fun wq hq => (x_load rfl ty1x26 (ev (t := 32) rfl rfl) (seg_cell (o' := 0) (j := 2) hq (k := 0) rfl rfl rfl))) ?_
  refine z_exv rfl (won rfl) rfl rfl (e_litp (cells := []) (ps := []) rfl slt_26 (pmap_lit pmap_nil) (fun w1 => run_bslice0 slt_26) hm260) ?_
  rintro g263 w261 hm262
  have H264 : OwF 3 (FK.int .i64) (.slice (some ⟨g263, 0, none⟩) 0 0) ([] : List Int) (sg g263 3 (0, 0) [] (encs (FK.int .i64) ([] : List Int)) []) := OwF.lit g263 ([] : List Int) 0 rfl (by decide)
  replace hm262 : Mem w0 w261 (cat [(sg g263 3 (0, 0) [] (encs (FK.int .i64) ([] : List Int)) []), sg g240 65 (0, 0) [] [(.int .i64 a0.Size), (.bool a0.Up), v0x2, v0x3, (.int .i64 a0.Lost), (.int .i64 a0.Pending), (.int .i64 a0.Every), (.int .i64 a0.Signals)] [], hF]) := hm262
  refine ⟨Mem.pick [1, 2] rfl hm262, ?_⟩
  refine z_exv rfl (won rfl) rfl rfl (e_append (bytes := 8) rfl slt_26 rfl (ev (t := 28) rfl rfl) (ev (t := 30) rfl rfl) H264 (k := 0) rfl H0x3 (Sub.trans hs (Sub.at_ (k := 2) rfl)) hm262 hg266 (len63 hg266 rfl)) ?_
  rintro p268 w270 ⟨H269, hm271⟩
  replace hm271 : Mem w0 w270 (cat [p268.2, sg g240 65 (0, 0) [] [(.int .i64 a0.Size), (.bool a0.Up), v0x2, v0x3, (.int .i64 a0.Lost), (.int .i64 a0.Pending), (.int .i64 a0.Every), (.int .i64 a0.Signals)] [], hF]) := hm271
  refine ⟨Mem.pick [1, 2] rfl hm271, ?_⟩
  refine z_exv rfl (won rfl) rfl rfl (e_append (bytes := 8) rfl slt_26 rfl (ev (t := 31) rfl rfl) (ev (t := 33) rfl rfl) H269 (k := 0) rfl H0x2 (Sub.trans hs (Sub.at_ (k := 2) rfl)) hm271 hg272 (len63 hg272 rfl)) ?_
  rintro p274 w276 ⟨H275, hm277⟩
  replace hm277 : Mem w0 w276 (cat [p274.2, sg g240 65 (0, 0) [] [(.int .i64 a0.Size), (.bool a0.Up), v0x2, v0x3, (.int .i64 a0.Lost), (.int .i64 a0.Pending), (.int .i64 a0.Every), (.int .i64 a0.Signals)] [], hF]) := hm277
  refine ⟨Mem.pick [1, 2] rfl hm277, ?_⟩
  refine z_r (v := p274.1) rfl (won rfl) rfl rfl ((x_assign rfl (ev (t := 34) rfl rfl))) ?_
  refine z_nil ?_
  refine nx ?_
  obtain ⟨l367, hT369, hk368⟩ := bindE he
  replace he := hT369
  refine wp_seqJ (fun a w => ∃ (s366 : (Unit)) (f : Nat → Value), l367 = Fl.go s366 ∧ a = fr 73 f ∧ f 1 = (.pointer (some ⟨g240, 0, none⟩)) ∧ Mem w0 w (cat [sg g240 65 (0, 0) [] [(.int .i64 a0.Size), (.bool a0.Up), v0x2, v0x3, (.int .i64 a0.Lost), (.int .i64 a0.Pending), (.int .i64 a0.Every), (.int .i64 a0.Signals)] [], hF])) ?_ ?_
  ·
   refine wp_seq ?_
   refine wp_region_lit ?_
   refine s_val (v := p274.1) (won rfl) rfl rfl (x_move rfl (ev (t := 3) rfl rfl)) ?_
   refine s_val (v := (.int .i64 (((([] : List Int) ++ a0.Done) ++ a0.Posted).length : Int))) (won rfl) rfl rfl (x_len rfl slt_26 (ev (t := 35) rfl rfl) (H275).sl) ?_
   refine s_val (v := (.int .i64 0)) (won rfl) rfl rfl (x_move rfl rfl) ?_
   refine wpList_nil ?_
   refine nx ?_
   refine wp_block ?_
   refine wp_fuel (I := fun k => fun a w => ∃ (s403 : Int) (f : Nat → Value), impl_RingOK_l1 F a0 k s403 = some l367 ∧ a = fr 73 f ∧ f 1 = (.pointer (some ⟨g240, 0, none⟩)) ∧ f 3 = p274.1 ∧ f 35 = p274.1 ∧ f 36 = (.int .i64 (((([] : List Int) ++ a0.Done) ++ a0.Posted).length : Int)) ∧ f 37 = (.int .i64 s403) ∧ Mem w0 w (cat [sg g240 65 (0, 0) [] [(.int .i64 a0.Size), (.bool a0.Up), v0x2, v0x3, (.int .i64 a0.Lost), (.int .i64 a0.Pending), (.int .i64 a0.Every), (.int .i64 a0.Signals)] [], p274.2, hF])) F _ _ ⟨0, _, he, rfl, rfl, rfl, rfl, rfl, rfl, Mem.pick [1, 0, 2] rfl hm277⟩ ?_ ?_
   ·
    rintro a w ⟨s403, f, he, rfl, q399, q400, q401, q402, q404, hm430⟩
    rw [impl_RingOK_l1] at he; exact none_no he
   ·
    rintro k a w ⟨s403, f, he, rfl, q399, q400, q401, q402, q404, hm432⟩
    rw [impl_RingOK_l1] at he
    refine wp_seq ?_
    refine wp_region_lit ?_
    refine s_val (v := (.bool (decide (s403 < (((([] : List Int) ++ a0.Done) ++ a0.Posted).length : Int))))) (won rfl) rfl rfl (x_lss rfl (ev (t := 37) (v := (.int .i64 s403)) rfl q404) (ev (t := 36) (v := (.int .i64 (((([] : List Int) ++ a0.Done) ++ a0.Posted).length : Int))) rfl q402)) ?_
    refine wpList_nil ?_
    refine nx ?_
    refine wp_seq ?_
    rcases Bool.eq_false_or_eq_true ((decide (s403 < (((([] : List Int) ++ a0.Done) ++ a0.Posted).length : Int)))) with hb434 | hb434
    ·
     replace he := bifT he hb434
     refine c_true rfl (p := (decide (s403 < (((([] : List Int) ++ a0.Done) ++ a0.Posted).length : Int)))) rfl rfl hb434 ?_
     refine wp_skip ?_
     refine nx ?_
     refine wp_seq ?_
     refine wp_block ?_
     refine wp_seq ?_
     obtain ⟨hg446, he⟩ := gdE he
     refine wp_region_lit ?_
     refine s_val (v := (.int .i64 s403)) (won rfl) rfl rfl (x_move rfl (ev (t := 37) (v := (.int .i64 s403)) rfl q404)) ?_
     refine s_val (v := (.pointer (some ((slA p274.1).add (Int.toNat s403 * 1))))) (won rfl) rfl rfl (x_index (d := (FK.int .i64)) rfl slt_26 (ev (t := 35) (v := p274.1) rfl q401) (ev (t := 37) (v := (.int .i64 s403)) rfl q404) (H275.rd w0) hg446.1 hg446.2) ?_
     refine s_val (v := (.int .i64 (ix ((([] : List Int) ++ a0.Done) ++ a0.Posted) s403))) (won rfl) rfl rfl (x_load rfl ty1x3 (ev (t := 40) rfl rfl) (RdF.cell0 (H275.rd w0) hm432 (Sub.at_ (k := 1) rfl) hg446.1 hg446.2 rfl)) ?_
     refine s_val (v := (.int .i64 s403)) (won rfl) rfl rfl (x_assign rfl (ev (t := 39) rfl rfl)) ?_
     refine s_val (v := (.int .i64 (ix ((([] : List Int) ++ a0.Done) ++ a0.Posted) s403))) (won rfl) rfl rfl (x_assign rfl (ev (t := 41) rfl rfl)) ?_
     refine wpList_nil ?_
     refine nx ?_
     refine wp_seq ?_
     obtain ⟨r447, hr447, he⟩ := bindE he
     obtain ⟨hg450, he⟩ := gdE he
     obtain ⟨r452, hr452, he⟩ := bindE he
     refine wp_region_lit ?_
     refine s_val (v := (.int .i64 (ix ((([] : List Int) ++ a0.Done) ++ a0.Posted) s403))) (won rfl) rfl rfl (x_move rfl (ev (t := 5) rfl rfl)) ?_
     refine s_call (won rfl) rfl rfl (x_call rfl rfl cl_58 (map_lit (map_cons (ev (t := 42) rfl rfl) (map_cons rfl (map_cons rfl map_nil))))) (impl_inRange_ok (hR := (cat [])) (hF := cat [sg g240 65 (0, 0) [] [(.int .i64 a0.Size), (.bool a0.Up), v0x2, v0x3, (.int .i64 a0.Lost), (.int .i64 a0.Pending), (.int .i64 a0.Every), (.int .i64 a0.Signals)] [], p274.2, hF]) (ix ((([] : List Int) ++ a0.Done) ++ a0.Posted) s403) 0 999  (Mem.one hm432) hr447) ?_
     rintro e w448 ⟨rfl, hm449⟩
     refine ⟨_, rfl, ?_⟩
     replace hm449 : Mem w0 w448 (cat [sg g240 65 (0, 0) [] [(.int .i64 a0.Size), (.bool a0.Up), v0x2, v0x3, (.int .i64 a0.Lost), (.int .i64 a0.Pending), (.int .i64 a0.Every), (.int .i64 a0.Signals)] [], p274.2, hF]) := Mem.un hm449
     refine s_val (v := (.bool (!r447))) (won rfl) rfl rfl (x_not rfl (ev (t := 43) rfl rfl)) ?_
     refine s_val (v := (.bool (!r447))) (won rfl) rfl rfl (x_move rfl (ev (t := 44) rfl rfl)) ?_
     refine s_cval (p := (!(!r447))) (v := p274.1) (won_f (j := 3) (t := 45) (q := (!r447)) rfl rfl rfl rfl rfl) rfl rfl (fun hp => (x_move rfl (ev (t := 3) (v := p274.1) rfl q400))) ?_
     refine s_cval (p := (!(!r447))) (v := (.int .i64 s403)) (won_f (j := 3) (t := 45) (q := (!r447)) rfl rfl rfl rfl rfl) rfl rfl (fun hp => (x_move rfl (ev (t := 4) rfl rfl))) ?_
     refine s_cval (p := (!(!r447))) (v := (cutV p274.1 0 (Int.toNat s403) 1)) (won_f (j := 3) (t := 45) (q := (!r447)) rfl rfl rfl rfl rfl) rfl rfl (fun hp => (y_slice_h rfl slt_26 (ev (t := 46) rfl (Eq.trans (b := cv (!(!r447)) p274.1) rfl (on_c hp))) (ev (t := 47) rfl (Eq.trans (b := cv (!(!r447)) (.int .i64 s403)) rfl (on_c hp))) (H275).sl (hg450 hp).1 (hg450 hp).2)) ?_
     refine s_cval (p := (!(!r447))) (v := (.int .i64 (ix ((([] : List Int) ++ a0.Done) ++ a0.Posted) s403))) (won_f (j := 3) (t := 45) (q := (!r447)) rfl rfl rfl rfl rfl) rfl rfl (fun hp => (x_move rfl (ev (t := 5) rfl rfl))) ?_
     refine s_ccall (p := (!(!r447))) (v := (.bool r452)) (J := fun w' => Mem w0 w' (cat [sg g240 65 (0, 0) [] [(.int .i64 a0.Size), (.bool a0.Up), v0x2, v0x3, (.int .i64 a0.Lost), (.int .i64 a0.Pending), (.int .i64 a0.Every), (.int .i64 a0.Signals)] [], p274.2, hF])) (won_f (j := 3) (t := 45) (q := (!r447)) rfl rfl rfl rfl rfl) rfl rfl (fun hp => (x_call rfl rfl cl_79 (map_lit (map_cons (ev (t := 48) rfl (Eq.trans (b := cv (!(!r447)) (cutV p274.1 0 (Int.toNat s403) 1)) rfl (on_c hp))) (map_cons (ev (t := 49) rfl (Eq.trans (b := cv (!(!r447)) (.int .i64 (ix ((([] : List Int) ++ a0.Done) ++ a0.Posted) s403))) rfl (on_c hp))) map_nil))))) (fun hp => ((slices_Contains___int_int__ok F (hR := (cat [p274.2])) (hF := cat [sg g240 65 (0, 0) [] [(.int .i64 a0.Size), (.bool a0.Up), v0x2, v0x3, (.int .i64 a0.Lost), (.int .i64 a0.Pending), (.int .i64 a0.Every), (.int .i64 a0.Signals)] [], p274.2, hF]) (slc ((([] : List Int) ++ a0.Done) ++ a0.Posted) 0 (Int.toNat s403)) (ix ((([] : List Int) ++ a0.Done) ++ a0.Posted) s403) ((cutV_rd (a := 0) (b := (Int.toNat s403)) (H275.rd w0) (Nat.zero_le _) (by have := (hg450 hp); omega)).mono (Sub.at_ (k := 0) rfl)) (subc (Sub.at_ (k := 1) rfl) subn) (Mem.one hm449) (bifT hr452 hp))).mono fun e w2 h => ⟨h.1, Mem.un h.2⟩) hm449 ?_
     intro w453 hm454
     refine s_val (v := (.bool ((!r447) || r452))) (won rfl) rfl rfl (x_pick_or rfl (ev (t := 45) rfl rfl) rfl (fun hq => ev rfl (Eq.trans (b := cv (!(!r447)) (.bool r452)) rfl (on_c (not_i hq))))) ?_
     refine wpList_nil ?_
     refine nx ?_
     rcases Bool.eq_false_or_eq_true (((!r447) || r452)) with hb455 | hb455
     ·
      replace he := bifT he hb455
      refine c_true rfl (p := ((!r447) || r452)) rfl rfl hb455 ?_
      refine wp_seq ?_
      refine wp_region_lit ?_
      refine s_val (v := (.bool false)) (won rfl) rfl rfl (x_assign rfl rfl) ?_
      refine wpList_nil ?_
      have hm456 : Mem w0 w453 (cat [hF]) := Mem.pick [2] rfl hm454
      refine nx ?_
      refine wp_ret ?_
      refine rb ?_
      refine xr ?_
      refine xr ?_
      refine rb ?_
      refine xr ?_
      obtain rfl := Option.some.inj he
      replace he := outE hk368
      obtain rfl := Option.some.inj he
      refine r_ret (v := (.bool false)) (rv_one rfl (RVs.tmp (v := (.bool false)) rfl rfl RVs.nil)) rfl ?_
      exact ⟨rfl, Mem.pick [0] rfl hm456⟩
     ·
      replace he := bifF he hb455
      refine c_false rfl (p := ((!r447) || r452)) rfl rfl hb455 ?_
      refine wp_skip ?_
      refine nb ?_
      refine nx ?_
      refine wp_region_lit ?_
      refine s_val (v := (.int .i64 (IntKind.wrap .i64 (s403 + 1)))) (won rfl) rfl rfl (x_add rfl (ev (t := 37) (v := (.int .i64 s403)) rfl q404) rfl) ?_
      refine s_val (v := (.int .i64 (IntKind.wrap .i64 (s403 + 1)))) (won rfl) rfl rfl (x_move rfl (ev (t := 52) rfl rfl)) ?_
      refine wpList_nil ?_
      refine nx ?_
      exact ⟨(IntKind.wrap .i64 (s403 + 1)), _, he, rfl, q399, q400, q401, q402, rfl, Mem.pick [0, 1, 2] rfl hm454⟩
    ·
     replace he := bifF he hb434
     refine c_false rfl (p := (decide (s403 < (((([] : List Int) ++ a0.Done) ++ a0.Posted).length : Int)))) rfl rfl hb434 ?_
     refine wp_exit ?_
     refine xs ?_
     refine xs ?_
     refine xb ?_
     refine nx ?_
     obtain rfl := Option.some.inj he
     exact ⟨(), _, rfl, rfl, q399, Mem.pick [0, 2] rfl hm432⟩
  ·
   rintro a w ⟨s366, f, rfl, rfl, q365, hm458⟩
   replace he := goE hk368
   refine wp_seq ?_
   refine wp_seq ?_
   obtain ⟨r467, hr467, he⟩ := bindE he
   obtain ⟨r470, hr470, he⟩ := bindE he
   refine wp_region_lit ?_
   refine s_val (v := (.pointer (some ⟨g240, 4, none⟩))) (won rfl) rfl rfl (x_field rfl fa_65x4 (ev (t := 1) (v := (.pointer (some ⟨g240, 0, none⟩))) rfl q365)) ?_
   refine s_val (v := (.int .i64 a0.Lost)) (won rfl) rfl rfl (x_load rfl ty1x3 (ev (t := 53) rfl rfl) (seg_cell (o' := 0) (j := 4) hm458 (k := 0) rfl rfl rfl)) ?_
   refine s_call (won rfl) rfl rfl (x_call rfl rfl cl_58 (map_lit (map_cons (ev (t := 54) rfl rfl) (map_cons rfl (map_cons rfl map_nil))))) (impl_inRange_ok (hR := (cat [])) (hF := cat [sg g240 65 (0, 0) [] [(.int .i64 a0.Size), (.bool a0.Up), v0x2, v0x3, (.int .i64 a0.Lost), (.int .i64 a0.Pending), (.int .i64 a0.Every), (.int .i64 a0.Signals)] [], hF]) a0.Lost 0 1000000000  (Mem.one hm458) hr467) ?_
   rintro e w468 ⟨rfl, hm469⟩
   refine ⟨_, rfl, ?_⟩
   replace hm469 : Mem w0 w468 (cat [sg g240 65 (0, 0) [] [(.int .i64 a0.Size), (.bool a0.Up), v0x2, v0x3, (.int .i64 a0.Lost), (.int .i64 a0.Pending), (.int .i64 a0.Every), (.int .i64 a0.Signals)] [], hF]) := Mem.un hm469
   refine s_val (v := (.bool (!r467))) (won rfl) rfl rfl (x_not rfl (ev (t := 55) rfl rfl)) ?_
   refine s_val (v := (.bool (!r467))) (won rfl) rfl rfl (x_move rfl (ev (t := 56) rfl rfl)) ?_
   refine s_cval (p := (!(!r467))) (v := (.pointer (some ⟨g240, 7, none⟩))) (won_f (j := 4) (t := 57) (q := (!r467)) rfl rfl rfl rfl rfl) rfl rfl (fun hp => (x_field rfl fa_65x7 (ev (t := 1) (v := (.pointer (some ⟨g240, 0, none⟩))) rfl q365))) ?_
   refine s_cval (p := (!(!r467))) (v := (.int .i64 a0.Signals)) (won_f (j := 4) (t := 57) (q := (!r467)) rfl rfl rfl rfl rfl) rfl rfl (fun hp => (x_load rfl ty1x3 (ev (t := 58) rfl (Eq.trans (b := cv (!(!r467)) (.pointer (some ⟨g240, 7, none⟩))) rfl (on_c hp))) (seg_cell (o' := 0) (j := 7) hm469 (k := 0) rfl rfl rfl))) ?_
   refine s_ccall (p := (!(!r467))) (v := (.bool r470)) (J := fun w' => Mem w0 w' (cat [sg g240 65 (0, 0) [] [(.int .i64 a0.Size), (.bool a0.Up), v0x2, v0x3, (.int .i64 a0.Lost), (.int .i64 a0.Pending), (.int .i64 a0.Every), (.int .i64 a0.Signals)] [], hF])) (won_f (j := 4) (t := 57) (q := (!r467)) rfl rfl rfl rfl rfl) rfl rfl (fun hp => (x_call rfl rfl cl_58 (map_lit (map_cons (ev (t := 59) rfl (Eq.trans (b := cv (!(!r467)) (.int .i64 a0.Signals)) rfl (on_c hp))) (map_cons rfl (map_cons rfl map_nil)))))) (fun hp => ((impl_inRange_ok (hR := (cat [])) (hF := cat [sg g240 65 (0, 0) [] [(.int .i64 a0.Size), (.bool a0.Up), v0x2, v0x3, (.int .i64 a0.Lost), (.int .i64 a0.Pending), (.int .i64 a0.Every), (.int .i64 a0.Signals)] [], hF]) a0.Signals 0 1000000000  (Mem.one hm469) (bifT hr470 hp))).mono fun e w2 h => ⟨h.1, Mem.un h.2⟩) hm469 ?_
   intro w471 hm472
   refine s_cval (p := (!(!r467))) (v := (.bool (!r470))) (won_f (j := 4) (t := 57) (q := (!r467)) rfl rfl rfl rfl rfl) rfl rfl (fun hp => (x_not rfl (ev (t := 60) rfl (Eq.trans (b := cv (!(!r467)) (.bool r470)) rfl (on_c hp))))) ?_
   refine s_val (v := (.bool ((!r467) || (!r470)))) (won rfl) rfl rfl (x_pick_or rfl (ev (t := 57) rfl rfl) rfl (fun hq => ev rfl (Eq.trans (b := cv (!(!r467)) (.bool (!r470))) rfl (on_c (not_i hq))))) ?_
   refine wpList_nil ?_
   refine nx ?_
   rcases Bool.eq_false_or_eq_true (((!r467) || (!r470))) with hb473 | hb473
   ·
    replace he := bifT he hb473
    refine c_true rfl (p := ((!r467) || (!r470))) rfl rfl hb473 ?_
    refine wp_seq ?_
    refine wp_region_lit ?_
    refine s_val (v := (.bool false)) (won rfl) rfl rfl (x_assign rfl rfl) ?_
    refine wpList_nil ?_
    have hm474 : Mem w0 w471 (cat [hF]) := Mem.pick [1] rfl hm472
    refine nx ?_
    refine wp_ret ?_
    refine xr ?_
    obtain rfl := Option.some.inj he
    refine r_ret (v := (.bool false)) (rv_one rfl (RVs.tmp (v := (.bool false)) rfl rfl RVs.nil)) rfl ?_
    exact ⟨rfl, Mem.pick [0] rfl hm474⟩
   ·
    replace he := bifF he hb473
    refine c_false rfl (p := ((!r467) || (!r470))) rfl rfl hb473 ?_
    refine wp_skip ?_
    refine nx ?_
    refine wp_seq ?_
    obtain ⟨r475, hr475, he⟩ := bindE he
    refine wp_region_lit ?_
    refine s_val (v := (.pointer (some ⟨g240, 5, none⟩))) (won rfl) rfl rfl (x_field rfl fa_65x5 (ev (t := 1) (v := (.pointer (some ⟨g240, 0, none⟩))) rfl q365)) ?_
    refine s_val (v := (.int .i64 a0.Pending)) (won rfl) rfl rfl (x_load rfl ty1x3 (ev (t := 63) rfl rfl) (seg_cell (o' := 0) (j := 5) hm472 (k := 0) rfl rfl rfl)) ?_
    refine s_val (v := (.pointer (some ⟨g240, 3, none⟩))) (won rfl) rfl rfl (x_field rfl fa_65x3 (ev (t := 1) (v := (.pointer (some ⟨g240, 0, none⟩))) rfl q365)) ?_
    refine s_val (v := v0x3) (won rfl) rfl rfl (x_load rfl ty1x26 (ev (t := 65) rfl rfl) (seg_cell (o' := 0) (j := 3) hm472 (k := 0) rfl rfl rfl)) ?_
    refine s_val (v := (.int .i64 (a0.Done.length : Int))) (won rfl) rfl rfl (x_len rfl slt_26 (ev (t := 66) rfl rfl) (H0x3).sl) ?_
    refine s_val (v := (.pointer (some ⟨g240, 6, none⟩))) (won rfl) rfl rfl (x_field rfl fa_65x6 (ev (t := 1) (v := (.pointer (some ⟨g240, 0, none⟩))) rfl q365)) ?_
    refine s_val (v := (.int .i64 a0.Every)) (won rfl) rfl rfl (x_load rfl ty1x3 (ev (t := 68) rfl rfl) (seg_cell (o' := 0) (j := 6) hm472 (k := 0) rfl rfl rfl)) ?_
    refine s_val (v := (.int .i64 (IntKind.wrap .i64 (a0.Every - 1)))) (won rfl) rfl rfl (x_sub rfl (ev (t := 69) rfl rfl) rfl) ?_
    refine s_val (v := (.int .i64 (iMin (a0.Done.length : Int) (IntKind.wrap .i64 (a0.Every - 1))))) (won rfl) rfl rfl (x_min rfl (ev (t := 67) rfl rfl) (ev (t := 70) rfl rfl)) ?_
    refine s_call (won rfl) rfl rfl (x_call rfl rfl cl_58 (map_lit (map_cons (ev (t := 64) rfl rfl) (map_cons rfl (map_cons (ev (t := 71) rfl rfl) map_nil))))) (impl_inRange_ok (hR := (cat [])) (hF := cat [sg g240 65 (0, 0) [] [(.int .i64 a0.Size), (.bool a0.Up), v0x2, v0x3, (.int .i64 a0.Lost), (.int .i64 a0.Pending), (.int .i64 a0.Every), (.int .i64 a0.Signals)] [], hF]) a0.Pending 0 (iMin (a0.Done.length : Int) (IntKind.wrap .i64 (a0.Every - 1)))  (Mem.one hm472) hr475) ?_
    rintro e w476 ⟨rfl, hm477⟩
    refine ⟨_, rfl, ?_⟩
    replace hm477 : Mem w0 w476 (cat [sg g240 65 (0, 0) [] [(.int .i64 a0.Size), (.bool a0.Up), v0x2, v0x3, (.int .i64 a0.Lost), (.int .i64 a0.Pending), (.int .i64 a0.Every), (.int .i64 a0.Signals)] [], hF]) := Mem.un hm477
    refine s_val (v := (.bool r475)) (won rfl) rfl rfl (x_assign rfl (ev (t := 72) rfl rfl)) ?_
    refine wpList_nil ?_
    have hm478 : Mem w0 w476 (cat [hF]) := Mem.pick [1] rfl hm477
    refine nx ?_
    refine wp_ret ?_
    obtain rfl := Option.some.inj he
    refine r_ret (v := (.bool r475)) (rv_one rfl (RVs.tmp (v := (.bool r475)) rfl rfl RVs.nil)) rfl ?_
    exact ⟨rfl, Mem.pick [0] rfl hm478⟩
def laws_sameInts_l1 (F : Nat) (a0 : (List Int)) (a1 : (List Int)) : Nat → Int → Option (Fl (Bool) (Unit))
  | 0, _ => none
  | k + 1, s173 => (bif (decide (s173 < (a0.length : Int))) then gd ((0 : Int) ≤ s173 ∧ s173 < (a0.length : Int)) (gd ((0 : Int) ≤ s173 ∧ s173 < (a1.length : Int)) ((bif (!decide ((ix a0 s173) = (ix a1 s173))) then (some (Fl.out false)) else laws_sameInts_l1 F a0 a1 k (IntKind.wrap .i64 (s173 + 1))))) else (some (Fl.go ())))
def laws_sameInts (F : Nat) (a0 : (List Int)) (a1 : (List Int)) : Option (Bool) := (bif (!decide ((a0.length : Int) = (a1.length : Int))) then (some false) else (laws_sameInts_l1 F a0 a1 F 0 : Option (Fl (Bool) (Unit))).bind fun l153 => l153.on fun (s152 : (Unit)) => (some true))
set_option maxHeartbeats 400000 in
set_option maxRecDepth 100000 in
theorem laws_sameInts_ok (F : Nat) {w0 w : World} {hR hF : Hp} {v0x0 : Value} {v1x0 : Value} (a0 : (List Int)) (a1 : (List Int)) {r : (Bool)} (H0x0 : RdF w0 (FK.int .i64) v0x0 a0 hR) (H1x0 : RdF w0 (FK.int .i64) v1x0 a1 hR) (hs : Sub hR hF) (hm : Mem w0 w (cat [hF])) (he : laws_sameInts F a0 a1 = some r) :
    Calls Try.prog 37 #[v0x0, v1x0] w (fun e w' => e = .returned (.bool r) ∧ Mem w0 w' (cat [hF])) := by
 refine calls_fr (n := 26) Try.func37 rfl rfl rfl ?_
 unfold laws_sameInts at he
 refine wp_seq ?_
 refine wp_region_lit ?_
 refine s_val (v := (.bool false)) (won rfl) rfl rfl (x_assign rfl rfl) ?_
 refine wpList_nil ?_
 refine nx ?_
 refine wp_seq ?_
 refine wp_seq ?_
 refine wp_region_lit ?_
 refine s_val (v := v0x0) (won rfl) rfl rfl (x_move rfl (ev (t := 0) rfl rfl)) ?_
 refine s_val (v := (.int .i64 (a0.length : Int))) (won rfl) rfl rfl (x_len rfl slt_26 (ev (t := 6) rfl rfl) (H0x0).sl) ?_
 refine s_val (v := v1x0) (won rfl) rfl rfl (x_move rfl (ev (t := 1) rfl rfl)) ?_
 refine s_val (v := (.int .i64 (a1.length : Int))) (won rfl) rfl rfl (x_len rfl slt_26 (ev (t := 8) rfl rfl) (H1x0).sl) ?_
 refine s_val (v := (.bool (!decide ((a0.length : Int) = (a1.length : Int))))) (won rfl) rfl rfl (x_neq rfl (ev (t := 7) rfl rfl) (ev (t := 9) rfl rfl)) ?_
 refine wpList_nil ?_
 refine nx ?_
 rcases Bool.eq_false_or_eq_true ((!decide ((a0.length : Int) = (a1.length : Int)))) with hb104 | hb104
 ·
  replace he := bifT he hb104
  refine c_true rfl (p := (!decide ((a0.length : Int) = (a1.length : Int)))) rfl rfl hb104 ?_
  refine wp_seq ?_
  refine wp_region_lit ?_
  refine s_val (v := (.bool false)) (won rfl) rfl rfl (x_assign rfl rfl) ?_
  refine wpList_nil ?_
  refine nx ?_
  refine wp_ret ?_
  refine xr ?_
  obtain rfl := Option.some.inj he
  refine r_ret (v := (.bool false)) (rv_one rfl (RVs.tmp (v := (.bool false)) rfl rfl RVs.nil)) rfl ?_
  exact ⟨rfl, Mem.pick [0] rfl hm⟩
 ·
  replace he := bifF he hb104
  refine c_false rfl (p := (!decide ((a0.length : Int) = (a1.length : Int)))) rfl rfl hb104 ?_
  refine wp_skip ?_
  refine nx ?_
  obtain ⟨l153, hT155, hk154⟩ := bindE he
  replace he := hT155
  refine wp_seqJ (fun a w => ∃ (s152 : (Unit)) (f : Nat → Value), l153 = Fl.go s152 ∧ a = fr 26 f ∧ Mem w0 w (cat [hF])) ?_ ?_
  ·
   refine wp_seq ?_
   refine wp_region_lit ?_
   refine s_val (v := (.int .i64 0)) (won rfl) rfl rfl (x_assign rfl rfl) ?_
   refine wpList_nil ?_
   refine nx ?_
   refine wp_block ?_
   refine wp_fuel (I := fun k => fun a w => ∃ (s173 : Int) (f : Nat → Value), laws_sameInts_l1 F a0 a1 k s173 = some l153 ∧ a = fr 26 f ∧ f 0 = v0x0 ∧ f 1 = v1x0 ∧ f 5 = (.int .i64 s173) ∧ Mem w0 w (cat [hF])) F _ _ ⟨0, _, he, rfl, rfl, rfl, rfl, Mem.pick [0] rfl hm⟩ ?_ ?_
   ·
    rintro a w ⟨s173, f, he, rfl, q171, q172, q174, hm188⟩
    rw [laws_sameInts_l1] at he; exact none_no he
   ·
    rintro k a w ⟨s173, f, he, rfl, q171, q172, q174, hm190⟩
    rw [laws_sameInts_l1] at he
    refine wp_seq ?_
    refine wp_seq ?_
    refine wp_region_lit ?_
    refine s_val (v := (.int .i64 s173)) (won rfl) rfl rfl (x_move rfl (ev (t := 5) (v := (.int .i64 s173)) rfl q174)) ?_
    refine s_val (v := v0x0) (won rfl) rfl rfl (x_move rfl (ev (t := 0) (v := v0x0) rfl q171)) ?_
    refine s_val (v := (.int .i64 (a0.length : Int))) (won rfl) rfl rfl (x_len rfl slt_26 (ev (t := 12) rfl rfl) (H0x0).sl) ?_
    refine s_val (v := (.bool (decide (s173 < (a0.length : Int))))) (won rfl) rfl rfl (x_lss rfl (ev (t := 11) rfl rfl) (ev (t := 13) rfl rfl)) ?_
    refine wpList_nil ?_
    refine nx ?_
    rcases Bool.eq_false_or_eq_true ((decide (s173 < (a0.length : Int)))) with hb192 | hb192
    ·
     replace he := bifT he hb192
     refine c_true rfl (p := (decide (s173 < (a0.length : Int)))) rfl rfl hb192 ?_
     refine wp_skip ?_
     refine nx ?_
     refine wp_seq ?_
     refine wp_block ?_
     refine wp_seq ?_
     obtain ⟨hg198, he⟩ := gdE he
     obtain ⟨hg199, he⟩ := gdE he
     refine wp_qregion (cat [hF]) mixed (by kernel_rfl) hm190 ?_
     refine q_val (v := v0x0) (won rfl) rfl rfl (fun wq hq => (x_move rfl (ev (t := 0) (v := v0x0) rfl q171))) ?_
     refine q_val (v := (.int .i64 s173)) (won rfl) rfl rfl (fun wq hq => (x_move rfl (ev (t := 5) (v := (.int .i64 s173)) rfl q174))) ?_
     refine q_val (v := (.pointer (some ((slA v0x0).add (Int.toNat s173 * 1))))) (won rfl) rfl rfl (fun wq hq => (x_index (d := (FK.int .i64)) rfl slt_26 (ev (t := 17) rfl rfl) (ev (t := 18) rfl rfl) H0x0 hg198.1 hg198.2)) ?_
     refine q_val (v := (.int .i64 (ix a0 s173))) (won rfl) rfl rfl (fun wq hq => (x_load rfl ty1x3 (ev (t := 19) rfl rfl) (RdF.cell0 H0x0 hq (Sub.trans hs (Sub.at_ (k := 0) rfl)) hg198.1 hg198.2 rfl))) ?_
     refine q_val (v := v1x0) (won rfl) rfl rfl (fun wq hq => (x_move rfl (ev (t := 1) (v := v1x0) rfl q172))) ?_
     refine q_val (v := (.int .i64 s173)) (won rfl) rfl rfl (fun wq hq => (x_move rfl (ev (t := 5) (v := (.int .i64 s173)) rfl q174))) ?_
     refine q_val (v := (.pointer (some ((slA v1x0).add (Int.toNat s173 * 1))))) (won rfl) rfl rfl (fun wq hq => (x_index (d := (FK.int .i64)) rfl slt_26 (ev (t := 21) rfl rfl) (ev (t := 22) rfl rfl) H1x0 hg199.1 hg199.2)) ?_
     refine q_val (v := (.int .i64 (ix a1 s173))) (won rfl) rfl rfl (fun wq hq => (x_load rfl ty1x3 (ev (t := 23) rfl rfl) (RdF.cell0 H1x0 hq (Sub.trans hs (Sub.at_ (k := 0) rfl)) hg199.1 hg199.2 rfl))) ?_
     refine q_val (v := (.bool (!decide ((ix a0 s173) = (ix a1 s173))))) (won rfl) rfl rfl (fun wq hq => (x_neq rfl (ev (t := 20) rfl rfl) (ev (t := 24) rfl rfl))) ?_
     refine wpQuiet_nil ?_
     intro w200 hm201
     refine nx ?_
     rcases Bool.eq_false_or_eq_true ((!decide ((ix a0 s173) = (ix a1 s173)))) with hb202 | hb202
     ·
      replace he := bifT he hb202
      refine c_true rfl (p := (!decide ((ix a0 s173) = (ix a1 s173)))) rfl rfl hb202 ?_
      refine wp_seq ?_
      refine wp_region_lit ?_
      refine s_val (v := (.bool false)) (won rfl) rfl rfl (x_assign rfl rfl) ?_
      refine wpList_nil ?_
      refine nx ?_
      refine wp_ret ?_
      refine rb ?_
      refine xr ?_
      refine xr ?_
      refine rb ?_
      refine xr ?_
      obtain rfl := Option.some.inj he
      replace he := outE hk154
      obtain rfl := Option.some.inj he
      refine r_ret (v := (.bool false)) (rv_one rfl (RVs.tmp (v := (.bool false)) rfl rfl RVs.nil)) rfl ?_
      exact ⟨rfl, Mem.pick [0] rfl hm201⟩
     ·
      replace he := bifF he hb202
      refine c_false rfl (p := (!decide ((ix a0 s173) = (ix a1 s173)))) rfl rfl hb202 ?_
      refine wp_skip ?_
      refine nb ?_
      refine nx ?_
      refine wp_region_lit ?_
      refine s_val (v := (.int .i64 s173)) (won rfl) rfl rfl (x_move rfl (ev (t := 5) (v := (.int .i64 s173)) rfl q174)) ?_
      refine s_val (v := (.int .i64 (IntKind.wrap .i64 (s173 + 1)))) (won rfl) rfl rfl (x_add rfl (ev (t := 15) rfl rfl) rfl) ?_
      refine s_val (v := (.int .i64 (IntKind.wrap .i64 (s173 + 1)))) (won rfl) rfl rfl (x_assign rfl (ev (t := 16) rfl rfl)) ?_
      refine wpList_nil ?_
      refine nx ?_
      exact ⟨(IntKind.wrap .i64 (s173 + 1)), _, he, rfl, q171, q172, rfl, Mem.pick [0] rfl hm201⟩
    ·
     replace he := bifF he hb192
     refine c_false rfl (p := (decide (s173 < (a0.length : Int)))) rfl rfl hb192 ?_
     refine wp_exit ?_
     refine xs ?_
     refine xs ?_
     refine xb ?_
     refine nx ?_
     obtain rfl := Option.some.inj he
     exact ⟨(), _, rfl, rfl, Mem.pick [0] rfl hm190⟩
  ·
   rintro a w ⟨s152, f, rfl, rfl, hm204⟩
   replace he := goE hk154
   refine wp_seq ?_
   refine wp_region_lit ?_
   refine s_val (v := (.bool true)) (won rfl) rfl rfl (x_assign rfl rfl) ?_
   refine wpList_nil ?_
   refine nx ?_
   refine wp_ret ?_
   obtain rfl := Option.some.inj he
   refine r_ret (v := (.bool true)) (rv_one rfl (RVs.tmp (v := (.bool true)) rfl rfl RVs.nil)) rfl ?_
   exact ⟨rfl, Mem.pick [0] rfl hm204⟩
def laws_FnRing_l1 (F : Nat) (r1787 : ((List impl_RingAct))) (r1794 : (impl_Ring × (List impl_RingReply) × Int)) (r1817 : (impl_Ring × (List impl_RingReply) × Int)) : Nat → (List Int) → (List Int) → Int → Int → Int → Option (Fl (Bool) ((List Int) × (List Int) × Int × Int))
  | 0, _, _, _, _, _ => none
  | k + 1, s3130, s3135, s3140, s3142, s3144 => (bif (decide (s3144 < (r1787.length : Int))) then (gd ((0 : Int) ≤ s3144 ∧ s3144 < (r1794.2.1.length : Int)) (gd ((0 : Int) ≤ s3144 ∧ s3144 < (r1817.2.1.length : Int)) (gd ((!(!decide ((ix r1794.2.1 s3144).Code = (ix r1817.2.1 s3144).Code))) = true → (0 : Int) ≤ s3144 ∧ s3144 < (r1817.2.1.length : Int)) ((bif (!(!decide ((ix r1794.2.1 s3144).Code = (ix r1817.2.1 s3144).Code))) then laws_sameInts F (ix r1794.2.1 s3144).List (ix r1817.2.1 s3144).List else some false).bind fun r3483 => (bif ((!decide ((ix r1794.2.1 s3144).Code = (ix r1817.2.1 s3144).Code)) || (!r3483)) then (some (Fl.out (Fl.out false))) else (bif (!decide ((ix r1794.2.1 s3144).Code = 0)) then (some (Fl.go (s3130, s3135, s3140, s3142))) else gd ((0 : Int) ≤ s3144 ∧ s3144 < (r1787.length : Int)) ((bif (decide ((ix r1787 s3144).Kind = 1)) then gd ((0 : Int) ≤ s3144 ∧ s3144 < (r1787.length : Int)) (gd ((s3130.length + ([(ix r1787 s3144).N] : List Int).length) * 8 ≤ 140737488355328) ((some (Fl.go ((s3130 ++ ([(ix r1787 s3144).N] : List Int)), s3135, s3140, s3142))))) else (bif (decide ((ix r1787 s3144).Kind = 2)) then gd ((0 : Int) ≤ s3144 ∧ s3144 < (r1787.length : Int)) ((some (Fl.go (s3130, s3135, (IntKind.wrap .i64 (s3140 + ((ix r1794.2.1 s3144).List.length : Int))), (IntKind.wrap .i64 (s3142 + (ix r1787 s3144).N)))))) else ((bif (decide ((ix r1787 s3144).Kind = 3)) then (some (decide ((ix r1787 s3144).Kind = 3))) else (some (decide ((ix r1787 s3144).Kind = 4)))) : Option (Bool)).bind fun (s3522 : (Bool)) => (bif s3522 then gd ((s3135.length + (ix r1794.2.1 s3144).List.length) * 8 ≤ 140737488355328) ((some (Fl.go (s3130, (s3135 ++ (ix r1794.2.1 s3144).List), s3140, s3142)))) else (some (Fl.go (s3130, s3135, s3140, s3142)))))))))))) : Option (Fl (Fl (Bool) ((List Int) × (List Int) × Int × Int)) ((List Int) × (List Int) × Int × Int))).bind fun l3451 => l3451.on fun (s3450 : ((List Int) × (List Int) × Int × Int)) => laws_FnRing_l1 F r1787 r1794 r1817 k s3450.1 s3450.2.1 s3450.2.2.1 s3450.2.2.2 (IntKind.wrap .i64 (s3144 + 1)) else (some (Fl.go (s3130, s3135, s3140, s3142))))
def laws_FnRing (F : Nat) (a0 : (List Int)) (a1 : (List Int)) : Option (Bool) := (bif ((decide ((1048576 : Int) < (a0.length : Int))) || (decide ((1048576 : Int) < (a1.length : Int)))) then (some true) else (laws_at a1 0 16).bind fun r1781 => (laws_at a1 1 4).bind fun r1784 => (spec_RingActsOf F a0).bind fun r1787 => (impl_RingRun F (IntKind.wrap .i64 (1 + r1781)) (IntKind.wrap .i64 (1 + r1784)) r1787).bind fun r1794 => (spec_RingRun F (IntKind.wrap .i64 (1 + r1781)) (IntKind.wrap .i64 (1 + r1784)) r1787).bind fun r1817 => (bif (!(((((!decide (r1794.2.2 = 0)) || (!decide ((r1794.2.1.length : Int) = (r1787.length : Int)))) || (!decide ((r1817.2.1.length : Int) = (r1787.length : Int)))) || (!decide (r1794.1.Lost = r1817.1.Lost))) || (!decide (r1794.1.Signals = r1817.1.Signals)))) then impl_RingOK F r1794.1 else some false).bind fun r1846 => (bif ((((((!decide (r1794.2.2 = 0)) || (!decide ((r1794.2.1.length : Int) = (r1787.length : Int)))) || (!decide ((r1817.2.1.length : Int) = (r1787.length : Int)))) || (!decide (r1794.1.Lost = r1817.1.Lost))) || (!decide (r1794.1.Signals = r1817.1.Signals))) || (!r1846)) then (some false) else (laws_FnRing_l1 F r1787 r1794 r1817 F ([] : List Int) ([] : List Int) 0 0 0 : Option (Fl (Bool) ((List Int) × (List Int) × Int × Int))).bind fun l2707 => l2707.on fun (s2706 : ((List Int) × (List Int) × Int × Int)) => gd ((s2706.2.1.length + r1794.1.Done.length) * 8 ≤ 140737488355328) (gd (((s2706.2.1 ++ r1794.1.Done).length + r1794.1.Posted.length) * 8 ≤ 140737488355328) ((laws_sameInts F s2706.1 ((s2706.2.1 ++ r1794.1.Done) ++ r1794.1.Posted)).bind fun r3553 => (some ((r3553 && (decide (s2706.2.2.2 = (IntKind.wrap .i64 (s2706.2.2.1 + r1794.1.Lost))))) && (decide ((IntKind.wrap .i64 (r1794.1.Signals * (IntKind.wrap .i64 (1 + r1784)))) ≤ s2706.2.2.1))))))))
set_option maxHeartbeats 400000 in
set_option maxRecDepth 100000 in
theorem laws_FnRing_ok (F : Nat) {w0 w : World} {hR hF : Hp} {v0x0 : Value} {v1x0 : Value} (a0 : (List Int)) (a1 : (List Int)) {r : (Bool)} (H0x0 : RdF w0 (FK.int .u8) v0x0 a0 hR) (H1x0 : RdF w0 (FK.int .u8) v1x0 a1 hR) (hs : Sub hR hF) (hm : Mem w0 w (cat [hF])) (he : laws_FnRing F a0 a1 = some r) :
    Calls Try.prog 6 #[v0x0, v1x0] w (fun e w' => e = .returned (.bool r) ∧ Mem w0 w' (cat [hF])) := by
 refine calls_fr (n := 183) Try.func6 rfl rfl rfl ?_
 unfold laws_FnRing at he
 refine wp_seq ?_
 refine wp_region_lit ?_
 refine s_val (v := (.bool false)) (won rfl) rfl rfl (x_assign rfl rfl) ?_
 refine wpList_nil ?_
 refine nx ?_
 refine wp_seq ?_
 refine wp_seq ?_
 refine wp_region_lit ?_
 refine s_val (v := v0x0) (won rfl) rfl rfl (x_move rfl (ev (t := 0) rfl rfl)) ?_
 refine s_val (v := (.int .i64 (a0.length : Int))) (won rfl) rfl rfl (x_len rfl slt_22 (ev (t := 20) rfl rfl) (H0x0).sl) ?_
 refine s_val (v := (.bool (decide ((1048576 : Int) < (a0.length : Int))))) (won rfl) rfl rfl (x_gtr rfl (ev (t := 21) rfl rfl) rfl) ?_
 refine s_val (v := (.bool (decide ((1048576 : Int) < (a0.length : Int))))) (won rfl) rfl rfl (x_move rfl (ev (t := 22) rfl rfl)) ?_
 refine s_cval (p := (!(decide ((1048576 : Int) < (a0.length : Int))))) (v := v1x0) (won_f (j := 3) (t := 23) (q := (decide ((1048576 : Int) < (a0.length : Int)))) rfl rfl rfl rfl rfl) rfl rfl (fun hp => (x_move rfl (ev (t := 1) rfl rfl))) ?_
 refine s_cval (p := (!(decide ((1048576 : Int) < (a0.length : Int))))) (v := (.int .i64 (a1.length : Int))) (won_f (j := 3) (t := 23) (q := (decide ((1048576 : Int) < (a0.length : Int)))) rfl rfl rfl rfl rfl) rfl rfl (fun hp => (x_len rfl slt_22 (ev (t := 24) rfl (Eq.trans (b := cv (!(decide ((1048576 : Int) < (a0.length : Int)))) v1x0) rfl (on_c hp))) (H1x0).sl)) ?_
 refine s_cval (p := (!(decide ((1048576 : Int) < (a0.length : Int))))) (v := (.bool (decide ((1048576 : Int) < (a1.length : Int))))) (won_f (j := 3) (t := 23) (q := (decide ((1048576 : Int) < (a0.length : Int)))) rfl rfl rfl rfl rfl) rfl rfl (fun hp => (x_gtr rfl (ev (t := 25) rfl (Eq.trans (b := cv (!(decide ((1048576 : Int) < (a0.length : Int)))) (.int .i64 (a1.length : Int))) rfl (on_c hp))) rfl)) ?_
 refine s_val (v := (.bool ((decide ((1048576 : Int) < (a0.length : Int))) || (decide ((1048576 : Int) < (a1.length : Int)))))) (won rfl) rfl rfl (x_pick_or rfl (ev (t := 23) rfl rfl) rfl (fun hq => ev rfl (Eq.trans (b := cv (!(decide ((1048576 : Int) < (a0.length : Int)))) (.bool (decide ((1048576 : Int) < (a1.length : Int))))) rfl (on_c (not_i hq))))) ?_
 refine wpList_nil ?_
 refine nx ?_
 rcases Bool.eq_false_or_eq_true (((decide ((1048576 : Int) < (a0.length : Int))) || (decide ((1048576 : Int) < (a1.length : Int))))) with hb1780 | hb1780
 ·
  replace he := bifT he hb1780
  refine c_true rfl (p := ((decide ((1048576 : Int) < (a0.length : Int))) || (decide ((1048576 : Int) < (a1.length : Int))))) rfl rfl hb1780 ?_
  refine wp_seq ?_
  refine wp_region_lit ?_
  refine s_val (v := (.bool true)) (won rfl) rfl rfl (x_assign rfl rfl) ?_
  refine wpList_nil ?_
  refine nx ?_
  refine wp_ret ?_
  refine xr ?_
  obtain rfl := Option.some.inj he
  refine r_ret (v := (.bool true)) (rv_one rfl (RVs.tmp (v := (.bool true)) rfl rfl RVs.nil)) rfl ?_
  exact ⟨rfl, Mem.pick [0] rfl hm⟩
 ·
  replace he := bifF he hb1780
  refine c_false rfl (p := ((decide ((1048576 : Int) < (a0.length : Int))) || (decide ((1048576 : Int) < (a1.length : Int))))) rfl rfl hb1780 ?_
  refine wp_skip ?_
  refine nx ?_
  refine wp_seq ?_
  obtain ⟨r1781, hr1781, he⟩ := bindE he
  refine wp_region_lit ?_
  refine s_val (v := v1x0) (won rfl) rfl rfl (x_move rfl (ev (t := 1) rfl rfl)) ?_
  refine s_call (won rfl) rfl rfl (x_call rfl rfl cl_9 (map_lit (map_cons (ev (t := 28) rfl rfl) (map_cons rfl (map_cons rfl map_nil))))) (laws_at_ok (hR := (cat [hR])) (hF := cat [hF]) a1 0 16 (H1x0.mono (Sub.at_ (k := 0) rfl)) (subc (Sub.trans hs (Sub.at_ (k := 0) rfl)) subn) (Mem.one hm) hr1781) ?_
  rintro e w1782 ⟨rfl, hm1783⟩
  refine ⟨_, rfl, ?_⟩
  replace hm1783 : Mem w0 w1782 (cat [hF]) := Mem.un hm1783
  refine s_val (v := (.int .i64 (IntKind.wrap .i64 (1 + r1781)))) (won rfl) rfl rfl (x_add rfl rfl (ev (t := 29) rfl rfl)) ?_
  refine s_val (v := (.int .i64 (IntKind.wrap .i64 (1 + r1781)))) (won rfl) rfl rfl (x_assign rfl (ev (t := 30) rfl rfl)) ?_
  refine wpList_nil ?_
  refine nx ?_
  refine wp_seq ?_
  obtain ⟨r1784, hr1784, he⟩ := bindE he
  refine wp_region_lit ?_
  refine s_val (v := v1x0) (won rfl) rfl rfl (x_move rfl (ev (t := 1) rfl rfl)) ?_
  refine s_call (won rfl) rfl rfl (x_call rfl rfl cl_9 (map_lit (map_cons (ev (t := 31) rfl rfl) (map_cons rfl (map_cons rfl map_nil))))) (laws_at_ok (hR := (cat [hR])) (hF := cat [hF]) a1 1 4 (H1x0.mono (Sub.at_ (k := 0) rfl)) (subc (Sub.trans hs (Sub.at_ (k := 0) rfl)) subn) (Mem.one hm1783) hr1784) ?_
  rintro e w1785 ⟨rfl, hm1786⟩
  refine ⟨_, rfl, ?_⟩
  replace hm1786 : Mem w0 w1785 (cat [hF]) := Mem.un hm1786
  refine s_val (v := (.int .i64 (IntKind.wrap .i64 (1 + r1784)))) (won rfl) rfl rfl (x_add rfl rfl (ev (t := 32) rfl rfl)) ?_
  refine s_val (v := (.int .i64 (IntKind.wrap .i64 (1 + r1784)))) (won rfl) rfl rfl (x_assign rfl (ev (t := 33) rfl rfl)) ?_
  refine wpList_nil ?_
  refine nx ?_
  refine wp_seq ?_
  obtain ⟨r1787, hr1787, he⟩ := bindE he
  refine wp_region_lit ?_
  refine s_val (v := v0x0) (won rfl) rfl rfl (x_move rfl (ev (t := 0) rfl rfl)) ?_
  refine s_call (won rfl) rfl rfl (x_call rfl rfl cl_33 (map_lit (map_cons (ev (t := 34) rfl rfl) map_nil))) (spec_RingActsOf_ok F (hR := (cat [hR])) (hF := cat [hF]) a0 (H0x0.mono (Sub.at_ (k := 0) rfl)) (subc (Sub.trans hs (Sub.at_ (k := 0) rfl)) subn) (Mem.one hm1786) hr1787) ?_
  rintro e w1792 ⟨v1789, h1791, rfl, H1790, hm1793⟩
  refine ⟨_, rfl, ?_⟩
  replace hm1793 : Mem w0 w1792 (cat [h1791, hF]) := Mem.ung [h1791] [hF] hm1793
  refine s_val (v := v1789) (won rfl) rfl rfl (x_assign rfl (ev (t := 35) rfl rfl)) ?_
  refine wpList_nil ?_
  refine nx ?_
  refine wp_seq ?_
  obtain ⟨r1794, hr1794, he⟩ := bindE he
  refine wp_region_lit ?_
  refine s_val (v := (.int .i64 (IntKind.wrap .i64 (1 + r1781)))) (won rfl) rfl rfl (x_move rfl (ev (t := 5) rfl rfl)) ?_
  refine s_val (v := (.int .i64 (IntKind.wrap .i64 (1 + r1784)))) (won rfl) rfl rfl (x_move rfl (ev (t := 6) rfl rfl)) ?_
  refine s_val (v := v1789) (won rfl) rfl rfl (x_move rfl (ev (t := 7) rfl rfl)) ?_
  refine s_call (won rfl) rfl rfl (x_call rfl rfl cl_34 (map_lit (map_cons (ev (t := 37) rfl rfl) (map_cons (ev (t := 38) rfl rfl) (map_cons (ev (t := 39) rfl rfl) map_nil))))) (impl_RingRun_ok F (hR := (cat [h1791])) (hF := cat [h1791, hF]) (IntKind.wrap .i64 (1 + r1781)) (IntKind.wrap .i64 (1 + r1784)) r1787 ((H1790.rd w0).mono (Sub.at_ (k := 0) rfl)) (subc (Sub.at_ (k := 0) rfl) subn) (Mem.one hm1793) hr1794) ?_
  rintro e w1807 ⟨v1796, h1798, v1800, h1802, v1804, h1806, rfl, H1797, H1801, H1805, hm1808⟩
  refine ⟨_, rfl, ?_⟩
  replace hm1808 : Mem w0 w1807 (cat [h1798, h1802, h1806, h1791, hF]) := Mem.ung [h1798, h1802, h1806] [h1791, hF] hm1808
  refine s_val (v := (.tuple #[(.agg #[(.int .i64 r1794.1.Size), (.bool r1794.1.Up), v1796, v1800, (.int .i64 r1794.1.Lost), (.int .i64 r1794.1.Pending), (.int .i64 r1794.1.Every), (.int .i64 r1794.1.Signals)]), v1804, (.int .i64 r1794.2.2)])) (won rfl) rfl rfl (x_move rfl (ev (t := 40) rfl rfl)) ?_
  refine s_val (v := (.agg #[(.int .i64 r1794.1.Size), (.bool r1794.1.Up), v1796, v1800, (.int .i64 r1794.1.Lost), (.int .i64 r1794.1.Pending), (.int .i64 r1794.1.Every), (.int .i64 r1794.1.Signals)])) (won rfl) rfl rfl (x_extract rfl (ev (t := 36) rfl rfl) rfl) ?_
  refine s_val (v := v1804) (won rfl) rfl rfl (x_extract rfl (ev (t := 36) rfl rfl) rfl) ?_
  refine s_val (v := (.int .i64 r1794.2.2)) (won rfl) rfl rfl (x_extract rfl (ev (t := 36) rfl rfl) rfl) ?_
  refine s_exv (won rfl) rfl rfl (e_alloc (vs := [(.int .i64 0), (.bool false), (.slice none 0 0), (.slice none 0 0), (.int .i64 0), (.int .i64 0), (.int .i64 0), (.int .i64 0)]) rfl zt_65 rfl hm1808) ?_
  rintro g1811 w1812 hm1813
  refine s_exs (won rfl) rfl (e_store (vs := [(.int .i64 r1794.1.Size), (.bool r1794.1.Up), v1796, v1800, (.int .i64 r1794.1.Lost), (.int .i64 r1794.1.Pending), (.int .i64 r1794.1.Every), (.int .i64 r1794.1.Signals)]) (o' := 0) (j := 0) rfl sz_65 (ev (t := 8) rfl rfl) (ev (t := 41) rfl rfl) rfl (one_cons rfl (one_cons rfl (one_cons (IsSl.one (H1797).sl) (one_cons (IsSl.one (H1801).sl) (one_cons rfl (one_cons rfl (one_cons rfl (one_cons rfl one_nil)))))))) hm1813 (k := 0) rfl rfl rfl) ?_
  intro w1815 hm1816
  replace hm1816 : Mem w0 w1815 (cat [sg g1811 65 (0, 0) [] [(.int .i64 r1794.1.Size), (.bool r1794.1.Up), v1796, v1800, (.int .i64 r1794.1.Lost), (.int .i64 r1794.1.Pending), (.int .i64 r1794.1.Every), (.int .i64 r1794.1.Signals)] [], h1798, h1802, h1806, h1791, hF]) := hm1816
  refine s_val (v := v1804) (won rfl) rfl rfl (x_assign rfl (ev (t := 42) rfl rfl)) ?_
  refine s_val (v := (.int .i64 r1794.2.2)) (won rfl) rfl rfl (x_assign rfl (ev (t := 43) rfl rfl)) ?_
  refine wpList_nil ?_
  refine nx ?_
  refine wp_seq ?_
  obtain ⟨r1817, hr1817, he⟩ := bindE he
  refine wp_region_lit ?_
  refine s_val (v := (.int .i64 (IntKind.wrap .i64 (1 + r1781)))) (won rfl) rfl rfl (x_move rfl (ev (t := 5) rfl rfl)) ?_
  refine s_val (v := (.int .i64 (IntKind.wrap .i64 (1 + r1784)))) (won rfl) rfl rfl (x_move rfl (ev (t := 6) rfl rfl)) ?_
  refine s_val (v := v1789) (won rfl) rfl rfl (x_move rfl (ev (t := 7) rfl rfl)) ?_
  refine s_call (won rfl) rfl rfl (x_call rfl rfl cl_35 (map_lit (map_cons (ev (t := 45) rfl rfl) (map_cons (ev (t := 46) rfl rfl) (map_cons (ev (t := 47) rfl rfl) map_nil))))) (spec_RingRun_ok F (hR := (cat [h1791])) (hF := cat [sg g1811 65 (0, 0) [] [(.int .i64 r1794.1.Size), (.bool r1794.1.Up), v1796, v1800, (.int .i64 r1794.1.Lost), (.int .i64 r1794.1.Pending), (.int .i64 r1794.1.Every), (.int .i64 r1794.1.Signals)] [], h1798, h1802, h1806, h1791, hF]) (IntKind.wrap .i64 (1 + r1781)) (IntKind.wrap .i64 (1 + r1784)) r1787 ((H1790.rd w0).mono (Sub.at_ (k := 0) rfl)) (subc (Sub.at_ (k := 4) rfl) subn) (Mem.one hm1816) hr1817) ?_
  rintro e w1830 ⟨v1819, h1821, v1823, h1825, v1827, h1829, rfl, H1820, H1824, H1828, hm1831⟩
  refine ⟨_, rfl, ?_⟩
  replace hm1831 : Mem w0 w1830 (cat [h1821, h1825, h1829, sg g1811 65 (0, 0) [] [(.int .i64 r1794.1.Size), (.bool r1794.1.Up), v1796, v1800, (.int .i64 r1794.1.Lost), (.int .i64 r1794.1.Pending), (.int .i64 r1794.1.Every), (.int .i64 r1794.1.Signals)] [], h1798, h1802, h1806, h1791, hF]) := Mem.ung [h1821, h1825, h1829] [sg g1811 65 (0, 0) [] [(.int .i64 r1794.1.Size), (.bool r1794.1.Up), v1796, v1800, (.int .i64 r1794.1.Lost), (.int .i64 r1794.1.Pending), (.int .i64 r1794.1.Every), (.int .i64 r1794.1.Signals)] [], h1798, h1802, h1806, h1791, hF] hm1831
  refine s_val (v := (.tuple #[(.agg #[(.int .i64 r1817.1.Size), (.bool r1817.1.Up), v1819, v1823, (.int .i64 r1817.1.Lost), (.int .i64 r1817.1.Pending), (.int .i64 r1817.1.Every), (.int .i64 r1817.1.Signals)]), v1827, (.int .i64 r1817.2.2)])) (won rfl) rfl rfl (x_move rfl (ev (t := 48) rfl rfl)) ?_
  refine s_val (v := (.agg #[(.int .i64 r1817.1.Size), (.bool r1817.1.Up), v1819, v1823, (.int .i64 r1817.1.Lost), (.int .i64 r1817.1.Pending), (.int .i64 r1817.1.Every), (.int .i64 r1817.1.Signals)])) (won rfl) rfl rfl (x_extract rfl (ev (t := 44) rfl rfl) rfl) ?_
  refine s_val (v := v1827) (won rfl) rfl rfl (x_extract rfl (ev (t := 44) rfl rfl) rfl) ?_
  refine s_val (v := (.int .i64 r1817.2.2)) (won rfl) rfl rfl (x_extract rfl (ev (t := 44) rfl rfl) rfl) ?_
  refine s_exv (won rfl) rfl rfl (e_alloc (vs := [(.int .i64 0), (.bool false), (.slice none 0 0), (.slice none 0 0), (.int .i64 0), (.int .i64 0), (.int .i64 0), (.int .i64 0)]) rfl zt_65 rfl hm1831) ?_
  rintro g1834 w1835 hm1836
  refine s_exs (won rfl) rfl (e_store (vs := [(.int .i64 r1817.1.Size), (.bool r1817.1.Up), v1819, v1823, (.int .i64 r1817.1.Lost), (.int .i64 r1817.1.Pending), (.int .i64 r1817.1.Every), (.int .i64 r1817.1.Signals)]) (o' := 0) (j := 0) rfl sz_65 (ev (t := 11) rfl rfl) (ev (t := 49) rfl rfl) rfl (one_cons rfl (one_cons rfl (one_cons (IsSl.one (H1820).sl) (one_cons (IsSl.one (H1824).sl) (one_cons rfl (one_cons rfl (one_cons rfl (one_cons rfl one_nil)))))))) hm1836 (k := 0) rfl rfl rfl) ?_
  intro w1838 hm1839
  replace hm1839 : Mem w0 w1838 (cat [sg g1834 65 (0, 0) [] [(.int .i64 r1817.1.Size), (.bool r1817.1.Up), v1819, v1823, (.int .i64 r1817.1.Lost), (.int .i64 r1817.1.Pending), (.int .i64 r1817.1.Every), (.int .i64 r1817.1.Signals)] [], h1821, h1825, h1829, sg g1811 65 (0, 0) [] [(.int .i64 r1794.1.Size), (.bool r1794.1.Up), v1796, v1800, (.int .i64 r1794.1.Lost), (.int .i64 r1794.1.Pending), (.int .i64 r1794.1.Every), (.int .i64 r1794.1.Signals)] [], h1798, h1802, h1806, h1791, hF]) := hm1839
  refine s_val (v := v1827) (won rfl) rfl rfl (x_assign rfl (ev (t := 50) rfl rfl)) ?_
  refine s_val (v := (.int .i64 r1817.2.2)) (won rfl) rfl rfl (x_assign rfl (ev (t := 51) rfl rfl)) ?_
  refine wpList_nil ?_
  refine nx ?_
  refine wp_seq ?_
  refine wp_seq ?_
  obtain ⟨r1846, hr1846, he⟩ := bindE he
  refine wp_region_lit ?_
  refine s_val (v := (.int .i64 r1794.2.2)) (won rfl) rfl rfl (x_move rfl (ev (t := 10) rfl rfl)) ?_
  refine s_val (v := (.bool (!decide (r1794.2.2 = 0)))) (won rfl) rfl rfl (x_neq rfl (ev (t := 52) rfl rfl) rfl) ?_
  refine s_val (v := (.bool (!decide (r1794.2.2 = 0)))) (won rfl) rfl rfl (x_move rfl (ev (t := 53) rfl rfl)) ?_
  refine s_cval (p := (!(!decide (r1794.2.2 = 0)))) (v := v1804) (won_f (j := 2) (t := 54) (q := (!decide (r1794.2.2 = 0))) rfl rfl rfl rfl rfl) rfl rfl (fun hp => (x_move rfl (ev (t := 9) rfl rfl))) ?_
  refine s_cval (p := (!(!decide (r1794.2.2 = 0)))) (v := (.int .i64 (r1794.2.1.length : Int))) (won_f (j := 2) (t := 54) (q := (!decide (r1794.2.2 = 0))) rfl rfl rfl rfl rfl) rfl rfl (fun hp => (x_len rfl slt_66 (ev (t := 55) rfl (Eq.trans (b := cv (!(!decide (r1794.2.2 = 0))) v1804) rfl (on_c hp))) (H1805).sl)) ?_
  refine s_cval (p := (!(!decide (r1794.2.2 = 0)))) (v := v1789) (won_f (j := 2) (t := 54) (q := (!decide (r1794.2.2 = 0))) rfl rfl rfl rfl rfl) rfl rfl (fun hp => (x_move rfl (ev (t := 7) rfl rfl))) ?_
  refine s_cval (p := (!(!decide (r1794.2.2 = 0)))) (v := (.int .i64 (r1787.length : Int))) (won_f (j := 2) (t := 54) (q := (!decide (r1794.2.2 = 0))) rfl rfl rfl rfl rfl) rfl rfl (fun hp => (x_len rfl slt_62 (ev (t := 57) rfl (Eq.trans (b := cv (!(!decide (r1794.2.2 = 0))) v1789) rfl (on_c hp))) (H1790).sl)) ?_
  refine s_cval (p := (!(!decide (r1794.2.2 = 0)))) (v := (.bool (!decide ((r1794.2.1.length : Int) = (r1787.length : Int))))) (won_f (j := 2) (t := 54) (q := (!decide (r1794.2.2 = 0))) rfl rfl rfl rfl rfl) rfl rfl (fun hp => (x_neq rfl (ev (t := 56) rfl (Eq.trans (b := cv (!(!decide (r1794.2.2 = 0))) (.int .i64 (r1794.2.1.length : Int))) rfl (on_c hp))) (ev (t := 58) rfl (Eq.trans (b := cv (!(!decide (r1794.2.2 = 0))) (.int .i64 (r1787.length : Int))) rfl (on_c hp))))) ?_
  refine s_val (v := (.bool ((!decide (r1794.2.2 = 0)) || (!decide ((r1794.2.1.length : Int) = (r1787.length : Int)))))) (won rfl) rfl rfl (x_pick_or rfl (ev (t := 54) rfl rfl) rfl (fun hq => ev rfl (Eq.trans (b := cv (!(!decide (r1794.2.2 = 0))) (.bool (!decide ((r1794.2.1.length : Int) = (r1787.length : Int))))) rfl (on_c (not_i hq))))) ?_
  refine s_val (v := (.bool ((!decide (r1794.2.2 = 0)) || (!decide ((r1794.2.1.length : Int) = (r1787.length : Int)))))) (won rfl) rfl rfl (x_move rfl (ev (t := 60) rfl rfl)) ?_
  refine s_cval (p := (!((!decide (r1794.2.2 = 0)) || (!decide ((r1794.2.1.length : Int) = (r1787.length : Int)))))) (v := v1827) (won_f (j := 9) (t := 61) (q := ((!decide (r1794.2.2 = 0)) || (!decide ((r1794.2.1.length : Int) = (r1787.length : Int))))) rfl rfl rfl rfl rfl) rfl rfl (fun hp => (x_move rfl (ev (t := 12) rfl rfl))) ?_
  refine s_cval (p := (!((!decide (r1794.2.2 = 0)) || (!decide ((r1794.2.1.length : Int) = (r1787.length : Int)))))) (v := (.int .i64 (r1817.2.1.length : Int))) (won_f (j := 9) (t := 61) (q := ((!decide (r1794.2.2 = 0)) || (!decide ((r1794.2.1.length : Int) = (r1787.length : Int))))) rfl rfl rfl rfl rfl) rfl rfl (fun hp => (x_len rfl slt_66 (ev (t := 62) rfl (Eq.trans (b := cv (!((!decide (r1794.2.2 = 0)) || (!decide ((r1794.2.1.length : Int) = (r1787.length : Int))))) v1827) rfl (on_c hp))) (H1828).sl)) ?_
  refine s_cval (p := (!((!decide (r1794.2.2 = 0)) || (!decide ((r1794.2.1.length : Int) = (r1787.length : Int)))))) (v := v1789) (won_f (j := 9) (t := 61) (q := ((!decide (r1794.2.2 = 0)) || (!decide ((r1794.2.1.length : Int) = (r1787.length : Int))))) rfl rfl rfl rfl rfl) rfl rfl (fun hp => (x_move rfl (ev (t := 7) rfl rfl))) ?_
  refine s_cval (p := (!((!decide (r1794.2.2 = 0)) || (!decide ((r1794.2.1.length : Int) = (r1787.length : Int)))))) (v := (.int .i64 (r1787.length : Int))) (won_f (j := 9) (t := 61) (q := ((!decide (r1794.2.2 = 0)) || (!decide ((r1794.2.1.length : Int) = (r1787.length : Int))))) rfl rfl rfl rfl rfl) rfl rfl (fun hp => (x_len rfl slt_62 (ev (t := 64) rfl (Eq.trans (b := cv (!((!decide (r1794.2.2 = 0)) || (!decide ((r1794.2.1.length : Int) = (r1787.length : Int))))) v1789) rfl (on_c hp))) (H1790).sl)) ?_
  refine s_cval (p := (!((!decide (r1794.2.2 = 0)) || (!decide ((r1794.2.1.length : Int) = (r1787.length : Int)))))) (v := (.bool (!decide ((r1817.2.1.length : Int) = (r1787.length : Int))))) (won_f (j := 9) (t := 61) (q := ((!decide (r1794.2.2 = 0)) || (!decide ((r1794.2.1.length : Int) = (r1787.length : Int))))) rfl rfl rfl rfl rfl) rfl rfl (fun hp => (x_neq rfl (ev (t := 63) rfl (Eq.trans (b := cv (!((!decide (r1794.2.2 = 0)) || (!decide ((r1794.2.1.length : Int) = (r1787.length : Int))))) (.int .i64 (r1817.2.1.length : Int))) rfl (on_c hp))) (ev (t := 65) rfl (Eq.trans (b := cv (!((!decide (r1794.2.2 = 0)) || (!decide ((r1794.2.1.length : Int) = (r1787.length : Int))))) (.int .i64 (r1787.length : Int))) rfl (on_c hp))))) ?_
  refine s_val (v := (.bool (((!decide (r1794.2.2 = 0)) || (!decide ((r1794.2.1.length : Int) = (r1787.length : Int)))) || (!decide ((r1817.2.1.length : Int) = (r1787.length : Int)))))) (won rfl) rfl rfl (x_pick_or rfl (ev (t := 61) rfl rfl) rfl (fun hq => ev rfl (Eq.trans (b := cv (!((!decide (r1794.2.2 = 0)) || (!decide ((r1794.2.1.length : Int) = (r1787.length : Int))))) (.bool (!decide ((r1817.2.1.length : Int) = (r1787.length : Int))))) rfl (on_c (not_i hq))))) ?_
  refine s_val (v := (.bool (((!decide (r1794.2.2 = 0)) || (!decide ((r1794.2.1.length : Int) = (r1787.length : Int)))) || (!decide ((r1817.2.1.length : Int) = (r1787.length : Int)))))) (won rfl) rfl rfl (x_move rfl (ev (t := 67) rfl rfl)) ?_
  refine s_cval (p := (!(((!decide (r1794.2.2 = 0)) || (!decide ((r1794.2.1.length : Int) = (r1787.length : Int)))) || (!decide ((r1817.2.1.length : Int) = (r1787.length : Int)))))) (v := (.pointer (some ⟨g1811, 4, none⟩))) (won_f (j := 16) (t := 68) (q := (((!decide (r1794.2.2 = 0)) || (!decide ((r1794.2.1.length : Int) = (r1787.length : Int)))) || (!decide ((r1817.2.1.length : Int) = (r1787.length : Int))))) rfl rfl rfl rfl rfl) rfl rfl (fun hp => (x_field rfl fa_65x4 (ev (t := 8) rfl rfl))) ?_
  refine s_cval (p := (!(((!decide (r1794.2.2 = 0)) || (!decide ((r1794.2.1.length : Int) = (r1787.length : Int)))) || (!decide ((r1817.2.1.length : Int) = (r1787.length : Int)))))) (v := (.int .i64 r1794.1.Lost)) (won_f (j := 16) (t := 68) (q := (((!decide (r1794.2.2 = 0)) || (!decide ((r1794.2.1.length : Int) = (r1787.length : Int)))) || (!decide ((r1817.2.1.length : Int) = (r1787.length : Int))))) rfl rfl rfl rfl rfl) rfl rfl (fun hp => (x_load rfl ty1x3 (ev (t := 69) rfl (Eq.trans (b := cv (!(((!decide (r1794.2.2 = 0)) || (!decide ((r1794.2.1.length : Int) = (r1787.length : Int)))) || (!decide ((r1817.2.1.length : Int) = (r1787.length : Int))))) (.pointer (some ⟨g1811, 4, none⟩))) rfl (on_c hp))) (seg_cell (o' := 0) (j := 4) hm1839 (k := 4) rfl rfl rfl))) ?_
  refine s_cval (p := (!(((!decide (r1794.2.2 = 0)) || (!decide ((r1794.2.1.length : Int) = (r1787.length : Int)))) || (!decide ((r1817.2.1.length : Int) = (r1787.length : Int)))))) (v := (.pointer (some ⟨g1834, 4, none⟩))) (won_f (j := 16) (t := 68) (q := (((!decide (r1794.2.2 = 0)) || (!decide ((r1794.2.1.length : Int) = (r1787.length : Int)))) || (!decide ((r1817.2.1.length : Int) = (r1787.length : Int))))) rfl rfl rfl rfl rfl) rfl rfl (fun hp => (x_field rfl fa_65x4 (ev (t := 11) rfl rfl))) ?_
  refine s_cval (p := (!(((!decide (r1794.2.2 = 0)) || (!decide ((r1794.2.1.length : Int) = (r1787.length : Int)))) || (!decide ((r1817.2.1.length : Int) = (r1787.length : Int)))))) (v := (.int .i64 r1817.1.Lost)) (won_f (j := 16) (t := 68) (q := (((!decide (r1794.2.2 = 0)) || (!decide ((r1794.2.1.length : Int) = (r1787.length : Int)))) || (!decide ((r1817.2.1.length : Int) = (r1787.length : Int))))) rfl rfl rfl rfl rfl) rfl rfl (fun hp => (x_load rfl ty1x3 (ev (t := 71) rfl (Eq.trans (b := cv (!(((!decide (r1794.2.2 = 0)) || (!decide ((r1794.2.1.length : Int) = (r1787.length : Int)))) || (!decide ((r1817.2.1.length : Int) = (r1787.length : Int))))) (.pointer (some ⟨g1834, 4, none⟩))) rfl (on_c hp))) (seg_cell (o' := 0) (j := 4) hm1839 (k := 0) rfl rfl rfl))) ?_
  refine s_cval (p := (!(((!decide (r1794.2.2 = 0)) || (!decide ((r1794.2.1.length : Int) = (r1787.length : Int)))) || (!decide ((r1817.2.1.length : Int) = (r1787.length : Int)))))) (v := (.bool (!decide (r1794.1.Lost = r1817.1.Lost)))) (won_f (j := 16) (t := 68) (q := (((!decide (r1794.2.2 = 0)) || (!decide ((r1794.2.1.length : Int) = (r1787.length : Int)))) || (!decide ((r1817.2.1.length : Int) = (r1787.length : Int))))) rfl rfl rfl rfl rfl) rfl rfl (fun hp => (x_neq rfl (ev (t := 70) rfl (Eq.trans (b := cv (!(((!decide (r1794.2.2 = 0)) || (!decide ((r1794.2.1.length : Int) = (r1787.length : Int)))) || (!decide ((r1817.2.1.length : Int) = (r1787.length : Int))))) (.int .i64 r1794.1.Lost)) rfl (on_c hp))) (ev (t := 72) rfl (Eq.trans (b := cv (!(((!decide (r1794.2.2 = 0)) || (!decide ((r1794.2.1.length : Int) = (r1787.length : Int)))) || (!decide ((r1817.2.1.length : Int) = (r1787.length : Int))))) (.int .i64 r1817.1.Lost)) rfl (on_c hp))))) ?_
  refine s_val (v := (.bool ((((!decide (r1794.2.2 = 0)) || (!decide ((r1794.2.1.length : Int) = (r1787.length : Int)))) || (!decide ((r1817.2.1.length : Int) = (r1787.length : Int)))) || (!decide (r1794.1.Lost = r1817.1.Lost))))) (won rfl) rfl rfl (x_pick_or rfl (ev (t := 68) rfl rfl) rfl (fun hq => ev rfl (Eq.trans (b := cv (!(((!decide (r1794.2.2 = 0)) || (!decide ((r1794.2.1.length : Int) = (r1787.length : Int)))) || (!decide ((r1817.2.1.length : Int) = (r1787.length : Int))))) (.bool (!decide (r1794.1.Lost = r1817.1.Lost)))) rfl (on_c (not_i hq))))) ?_
  refine s_val (v := (.bool ((((!decide (r1794.2.2 = 0)) || (!decide ((r1794.2.1.length : Int) = (r1787.length : Int)))) || (!decide ((r1817.2.1.length : Int) = (r1787.length : Int)))) || (!decide (r1794.1.Lost = r1817.1.Lost))))) (won rfl) rfl rfl (x_move rfl (ev (t := 74) rfl rfl)) ?_
  refine s_cval (p := (!((((!decide (r1794.2.2 = 0)) || (!decide ((r1794.2.1.length : Int) = (r1787.length : Int)))) || (!decide ((r1817.2.1.length : Int) = (r1787.length : Int)))) || (!decide (r1794.1.Lost = r1817.1.Lost))))) (v := (.pointer (some ⟨g1811, 7, none⟩))) (won_f (j := 23) (t := 75) (q := ((((!decide (r1794.2.2 = 0)) || (!decide ((r1794.2.1.length : Int) = (r1787.length : Int)))) || (!decide ((r1817.2.1.length : Int) = (r1787.length : Int)))) || (!decide (r1794.1.Lost = r1817.1.Lost)))) rfl rfl rfl rfl rfl) rfl rfl (fun hp => (x_field rfl fa_65x7 (ev (t := 8) rfl rfl))) ?_
  refine s_cval (p := (!((((!decide (r1794.2.2 = 0)) || (!decide ((r1794.2.1.length : Int) = (r1787.length : Int)))) || (!decide ((r1817.2.1.length : Int) = (r1787.length : Int)))) || (!decide (r1794.1.Lost = r1817.1.Lost))))) (v := (.int .i64 r1794.1.Signals)) (won_f (j := 23) (t := 75) (q := ((((!decide (r1794.2.2 = 0)) || (!decide ((r1794.2.1.length : Int) = (r1787.length : Int)))) || (!decide ((r1817.2.1.length : Int) = (r1787.length : Int)))) || (!decide (r1794.1.Lost = r1817.1.Lost)))) rfl rfl rfl rfl rfl) rfl rfl (fun hp => (x_load rfl ty1x3 (ev (t := 76) rfl (Eq.trans (b := cv (!((((!decide (r1794.2.2 = 0)) || (!decide ((r1794.2.1.length : Int) = (r1787.length : Int)))) || (!decide ((r1817.2.1.length : Int) = (r1787.length : Int)))) || (!decide (r1794.1.Lost = r1817.1.Lost)))) (.pointer (some ⟨g1811, 7, none⟩))) rfl (on_c hp))) (seg_cell (o' := 0) (j := 7) hm1839 (k := 4) rfl rfl rfl))) ?_
  refine s_cval (p := (!((((!decide (r1794.2.2 = 0)) || (!decide ((r1794.2.1.length : Int) = (r1787.length : Int)))) || (!decide ((r1817.2.1.length : Int) = (r1787.length : Int)))) || (!decide (r1794.1.Lost = r1817.1.Lost))))) (v := (.pointer (some ⟨g1834, 7, none⟩))) (won_f (j := 23) (t := 75) (q := ((((!decide (r1794.2.2 = 0)) || (!decide ((r1794.2.1.length : Int) = (r1787.length : Int)))) || (!decide ((r1817.2.1.length : Int) = (r1787.length : Int)))) || (!decide (r1794.1.Lost = r1817.1.Lost)))) rfl rfl rfl rfl rfl) rfl rfl (fun hp => (x_field rfl fa_65x7 (ev (t := 11) rfl rfl))) ?_
  refine s_cval (p := (!((((!decide (r1794.2.2 = 0)) || (!decide ((r1794.2.1.length : Int) = (r1787.length : Int)))) || (!decide ((r1817.2.1.length : Int) = (r1787.length : Int)))) || (!decide (r1794.1.Lost = r1817.1.Lost))))) (v := (.int .i64 r1817.1.Signals)) (won_f (j := 23) (t := 75) (q := ((((!decide (r1794.2.2 = 0)) || (!decide ((r1794.2.1.length : Int) = (r1787.length : Int)))) || (!decide ((r1817.2.1.length : Int) = (r1787.length : Int)))) || (!decide (r1794.1.Lost = r1817.1.Lost)))) rfl rfl rfl rfl rfl) rfl rfl (fun hp => (x_load rfl ty1x3 (ev (t := 78) rfl (Eq.trans (b := cv (!((((!decide (r1794.2.2 = 0)) || (!decide ((r1794.2.1.length : Int) = (r1787.length : Int)))) || (!decide ((r1817.2.1.length : Int) = (r1787.length : Int)))) || (!decide (r1794.1.Lost = r1817.1.Lost)))) (.pointer (some ⟨g1834, 7, none⟩))) rfl (on_c hp))) (seg_cell (o' := 0) (j := 7) hm1839 (k := 0) rfl rfl rfl))) ?_
  refine s_cval (p := (!((((!decide (r1794.2.2 = 0)) || (!decide ((r1794.2.1.length : Int) = (r1787.length : Int)))) || (!decide ((r1817.2.1.length : Int) = (r1787.length : Int)))) || (!decide (r1794.1.Lost = r1817.1.Lost))))) (v := (.bool (!decide (r1794.1.Signals = r1817.1.Signals)))) (won_f (j := 23) (t := 75) (q := ((((!decide (r1794.2.2 = 0)) || (!decide ((r1794.2.1.length : Int) = (r1787.length : Int)))) || (!decide ((r1817.2.1.length : Int) = (r1787.length : Int)))) || (!decide (r1794.1.Lost = r1817.1.Lost)))) rfl rfl rfl rfl rfl) rfl rfl (fun hp => (x_neq rfl (ev (t := 77) rfl (Eq.trans (b := cv (!((((!decide (r1794.2.2 = 0)) || (!decide ((r1794.2.1.length : Int) = (r1787.length : Int)))) || (!decide ((r1817.2.1.length : Int) = (r1787.length : Int)))) || (!decide (r1794.1.Lost = r1817.1.Lost)))) (.int .i64 r1794.1.Signals)) rfl (on_c hp))) (ev (t := 79) rfl (Eq.trans (b := cv (!((((!decide (r1794.2.2 = 0)) || (!decide ((r1794.2.1.length : Int) = (r1787.length : Int)))) || (!decide ((r1817.2.1.length : Int) = (r1787.length : Int)))) || (!decide (r1794.1.Lost = r1817.1.Lost)))) (.int .i64 r1817.1.Signals)) rfl (on_c hp))))) ?_
  refine s_val (v := (.bool (((((!decide (r1794.2.2 = 0)) || (!decide ((r1794.2.1.length : Int) = (r1787.length : Int)))) || (!decide ((r1817.2.1.length : Int) = (r1787.length : Int)))) || (!decide (r1794.1.Lost = r1817.1.Lost))) || (!decide (r1794.1.Signals = r1817.1.Signals))))) (won rfl) rfl rfl (x_pick_or rfl (ev (t := 75) rfl rfl) rfl (fun hq => ev rfl (Eq.trans (b := cv (!((((!decide (r1794.2.2 = 0)) || (!decide ((r1794.2.1.length : Int) = (r1787.length : Int)))) || (!decide ((r1817.2.1.length : Int) = (r1787.length : Int)))) || (!decide (r1794.1.Lost = r1817.1.Lost)))) (.bool (!decide (r1794.1.Signals = r1817.1.Signals)))) rfl (on_c (not_i hq))))) ?_
  refine s_val (v := (.bool (((((!decide (r1794.2.2 = 0)) || (!decide ((r1794.2.1.length : Int) = (r1787.length : Int)))) || (!decide ((r1817.2.1.length : Int) = (r1787.length : Int)))) || (!decide (r1794.1.Lost = r1817.1.Lost))) || (!decide (r1794.1.Signals = r1817.1.Signals))))) (won rfl) rfl rfl (x_move rfl (ev (t := 81) rfl rfl)) ?_
  refine s_cval (p := (!(((((!decide (r1794.2.2 = 0)) || (!decide ((r1794.2.1.length : Int) = (r1787.length : Int)))) || (!decide ((r1817.2.1.length : Int) = (r1787.length : Int)))) || (!decide (r1794.1.Lost = r1817.1.Lost))) || (!decide (r1794.1.Signals = r1817.1.Signals))))) (v := (.agg #[(.int .i64 r1794.1.Size), (.bool r1794.1.Up), v1796, v1800, (.int .i64 r1794.1.Lost), (.int .i64 r1794.1.Pending), (.int .i64 r1794.1.Every), (.int .i64 r1794.1.Signals)])) (won_f (j := 30) (t := 82) (q := (((((!decide (r1794.2.2 = 0)) || (!decide ((r1794.2.1.length : Int) = (r1787.length : Int)))) || (!decide ((r1817.2.1.length : Int) = (r1787.length : Int)))) || (!decide (r1794.1.Lost = r1817.1.Lost))) || (!decide (r1794.1.Signals = r1817.1.Signals)))) rfl rfl rfl rfl rfl) rfl rfl (fun hp => (x_loadN (vs := [(.int .i64 r1794.1.Size), (.bool r1794.1.Up), v1796, v1800, (.int .i64 r1794.1.Lost), (.int .i64 r1794.1.Pending), (.int .i64 r1794.1.Every), (.int .i64 r1794.1.Signals)]) rfl tyN_65 (ev (t := 8) rfl rfl) (seg_cells (o' := 0) (j := 0) hm1839 (k := 4) rfl rfl rfl))) ?_
  refine s_ccall (p := (!(((((!decide (r1794.2.2 = 0)) || (!decide ((r1794.2.1.length : Int) = (r1787.length : Int)))) || (!decide ((r1817.2.1.length : Int) = (r1787.length : Int)))) || (!decide (r1794.1.Lost = r1817.1.Lost))) || (!decide (r1794.1.Signals = r1817.1.Signals))))) (v := (.bool r1846)) (J := fun w' => Mem w0 w' (cat [sg g1834 65 (0, 0) [] [(.int .i64 r1817.1.Size), (.bool r1817.1.Up), v1819, v1823, (.int .i64 r1817.1.Lost), (.int .i64 r1817.1.Pending), (.int .i64 r1817.1.Every), (.int .i64 r1817.1.Signals)] [], h1821, h1825, h1829, sg g1811 65 (0, 0) [] [(.int .i64 r1794.1.Size), (.bool r1794.1.Up), v1796, v1800, (.int .i64 r1794.1.Lost), (.int .i64 r1794.1.Pending), (.int .i64 r1794.1.Every), (.int .i64 r1794.1.Signals)] [], h1798, h1802, h1806, h1791, hF])) (won_f (j := 30) (t := 82) (q := (((((!decide (r1794.2.2 = 0)) || (!decide ((r1794.2.1.length : Int) = (r1787.length : Int)))) || (!decide ((r1817.2.1.length : Int) = (r1787.length : Int)))) || (!decide (r1794.1.Lost = r1817.1.Lost))) || (!decide (r1794.1.Signals = r1817.1.Signals)))) rfl rfl rfl rfl rfl) rfl rfl (fun hp => (x_call rfl rfl cl_36 (map_lit (map_cons (ev (t := 83) rfl (Eq.trans (b := cv (!(((((!decide (r1794.2.2 = 0)) || (!decide ((r1794.2.1.length : Int) = (r1787.length : Int)))) || (!decide ((r1817.2.1.length : Int) = (r1787.length : Int)))) || (!decide (r1794.1.Lost = r1817.1.Lost))) || (!decide (r1794.1.Signals = r1817.1.Signals)))) (.agg #[(.int .i64 r1794.1.Size), (.bool r1794.1.Up), v1796, v1800, (.int .i64 r1794.1.Lost), (.int .i64 r1794.1.Pending), (.int .i64 r1794.1.Every), (.int .i64 r1794.1.Signals)])) rfl (on_c hp))) map_nil)))) (fun hp => ((impl_RingOK_ok F (hR := (cat [h1798, h1802])) (hF := cat [sg g1834 65 (0, 0) [] [(.int .i64 r1817.1.Size), (.bool r1817.1.Up), v1819, v1823, (.int .i64 r1817.1.Lost), (.int .i64 r1817.1.Pending), (.int .i64 r1817.1.Every), (.int .i64 r1817.1.Signals)] [], h1821, h1825, h1829, sg g1811 65 (0, 0) [] [(.int .i64 r1794.1.Size), (.bool r1794.1.Up), v1796, v1800, (.int .i64 r1794.1.Lost), (.int .i64 r1794.1.Pending), (.int .i64 r1794.1.Every), (.int .i64 r1794.1.Signals)] [], h1798, h1802, h1806, h1791, hF]) r1794.1 ((H1797.rd w0).mono (Sub.at_ (k := 0) rfl)) ((H1801.rd w0).mono (Sub.at_ (k := 1) rfl)) (subc (Sub.at_ (k := 5) rfl) (subc (Sub.at_ (k := 6) rfl) subn)) (Mem.one hm1839) (bifT hr1846 hp))).mono fun e w2 h => ⟨h.1, Mem.un h.2⟩) hm1839 ?_
  intro w1847 hm1848
  refine s_cval (p := (!(((((!decide (r1794.2.2 = 0)) || (!decide ((r1794.2.1.length : Int) = (r1787.length : Int)))) || (!decide ((r1817.2.1.length : Int) = (r1787.length : Int)))) || (!decide (r1794.1.Lost = r1817.1.Lost))) || (!decide (r1794.1.Signals = r1817.1.Signals))))) (v := (.bool (!r1846))) (won_f (j := 30) (t := 82) (q := (((((!decide (r1794.2.2 = 0)) || (!decide ((r1794.2.1.length : Int) = (r1787.length : Int)))) || (!decide ((r1817.2.1.length : Int) = (r1787.length : Int)))) || (!decide (r1794.1.Lost = r1817.1.Lost))) || (!decide (r1794.1.Signals = r1817.1.Signals)))) rfl rfl rfl rfl rfl) rfl rfl (fun hp => (x_not rfl (ev (t := 84) rfl (Eq.trans (b := cv (!(((((!decide (r1794.2.2 = 0)) || (!decide ((r1794.2.1.length : Int) = (r1787.length : Int)))) || (!decide ((r1817.2.1.length : Int) = (r1787.length : Int)))) || (!decide (r1794.1.Lost = r1817.1.Lost))) || (!decide (r1794.1.Signals = r1817.1.Signals)))) (.bool r1846)) rfl (on_c hp))))) ?_
  refine s_val (v := (.bool ((((((!decide (r1794.2.2 = 0)) || (!decide ((r1794.2.1.length : Int) = (r1787.length : Int)))) || (!decide ((r1817.2.1.length : Int) = (r1787.length : Int)))) || (!decide (r1794.1.Lost = r1817.1.Lost))) || (!decide (r1794.1.Signals = r1817.1.Signals))) || (!r1846)))) (won rfl) rfl rfl (x_pick_or rfl (ev (t := 82) rfl rfl) rfl (fun hq => ev rfl (Eq.trans (b := cv (!(((((!decide (r1794.2.2 = 0)) || (!decide ((r1794.2.1.length : Int) = (r1787.length : Int)))) || (!decide ((r1817.2.1.length : Int) = (r1787.length : Int)))) || (!decide (r1794.1.Lost = r1817.1.Lost))) || (!decide (r1794.1.Signals = r1817.1.Signals)))) (.bool (!r1846))) rfl (on_c (not_i hq))))) ?_
  refine wpList_nil ?_
  have hm1849 : Mem w0 w1847 (cat [h1829, sg g1811 65 (0, 0) [] [(.int .i64 r1794.1.Size), (.bool r1794.1.Up), v1796, v1800, (.int .i64 r1794.1.Lost), (.int .i64 r1794.1.Pending), (.int .i64 r1794.1.Every), (.int .i64 r1794.1.Signals)] [], h1798, h1802, h1806, h1791, hF]) := Mem.pick [3, 4, 5, 6, 7, 8, 9] rfl hm1848
  refine nx ?_
  rcases Bool.eq_false_or_eq_true (((((((!decide (r1794.2.2 = 0)) || (!decide ((r1794.2.1.length : Int) = (r1787.length : Int)))) || (!decide ((r1817.2.1.length : Int) = (r1787.length : Int)))) || (!decide (r1794.1.Lost = r1817.1.Lost))) || (!decide (r1794.1.Signals = r1817.1.Signals))) || (!r1846))) with hb1850 | hb1850
  ·
   replace he := bifT he hb1850
   refine c_true rfl (p := ((((((!decide (r1794.2.2 = 0)) || (!decide ((r1794.2.1.length : Int) = (r1787.length : Int)))) || (!decide ((r1817.2.1.length : Int) = (r1787.length : Int)))) || (!decide (r1794.1.Lost = r1817.1.Lost))) || (!decide (r1794.1.Signals = r1817.1.Signals))) || (!r1846))) rfl rfl hb1850 ?_
   refine wp_seq ?_
   refine wp_region_lit ?_
   refine s_val (v := (.bool false)) (won rfl) rfl rfl (x_assign rfl rfl) ?_
   refine wpList_nil ?_
   have hm1851 : Mem w0 w1847 (cat [hF]) := Mem.pick [6] rfl hm1849
   refine nx ?_
   refine wp_ret ?_
   refine xr ?_
   obtain rfl := Option.some.inj he
   refine r_ret (v := (.bool false)) (rv_one rfl (RVs.tmp (v := (.bool false)) rfl rfl RVs.nil)) rfl ?_
   exact ⟨rfl, Mem.pick [0] rfl hm1851⟩
  ·
   replace he := bifF he hb1850
   refine c_false rfl (p := ((((((!decide (r1794.2.2 = 0)) || (!decide ((r1794.2.1.length : Int) = (r1787.length : Int)))) || (!decide ((r1817.2.1.length : Int) = (r1787.length : Int)))) || (!decide (r1794.1.Lost = r1817.1.Lost))) || (!decide (r1794.1.Signals = r1817.1.Signals))) || (!r1846))) rfl rfl hb1850 ?_
   refine wp_skip ?_
   refine nx ?_
   refine wp_seq ?_
   refine wp_region_lit ?_
   refine s_exv (won rfl) rfl rfl (e_litp (cells := []) (ps := []) rfl slt_26 (pmap_lit pmap_nil) (fun w1 => run_bslice0 slt_26) hm1849) ?_
   rintro g1854 w1852 hm1853
   have H1855 : OwF 3 (FK.int .i64) (.slice (some ⟨g1854, 0, none⟩) 0 0) ([] : List Int) (sg g1854 3 (0, 0) [] (encs (FK.int .i64) ([] : List Int)) []) := OwF.lit g1854 ([] : List Int) 0 rfl (by decide)
   replace hm1853 : Mem w0 w1852 (cat [(sg g1854 3 (0, 0) [] (encs (FK.int .i64) ([] : List Int)) []), h1829, sg g1811 65 (0, 0) [] [(.int .i64 r1794.1.Size), (.bool r1794.1.Up), v1796, v1800, (.int .i64 r1794.1.Lost), (.int .i64 r1794.1.Pending), (.int .i64 r1794.1.Every), (.int .i64 r1794.1.Signals)] [], h1798, h1802, h1806, h1791, hF]) := hm1853
   refine s_val (v := (.slice (some ⟨g1854, 0, none⟩) 0 0)) (won rfl) rfl rfl (x_assign rfl (ev (t := 87) rfl rfl)) ?_
   refine wpList_nil ?_
   refine nx ?_
   refine wp_seq ?_
   refine wp_region_lit ?_
   refine s_exv (won rfl) rfl rfl (e_litp (cells := []) (ps := []) rfl slt_26 (pmap_lit pmap_nil) (fun w1 => run_bslice0 slt_26) hm1853) ?_
   rintro g1859 w1857 hm1858
   have H1860 : OwF 3 (FK.int .i64) (.slice (some ⟨g1859, 0, none⟩) 0 0) ([] : List Int) (sg g1859 3 (0, 0) [] (encs (FK.int .i64) ([] : List Int)) []) := OwF.lit g1859 ([] : List Int) 0 rfl (by decide)
   replace hm1858 : Mem w0 w1857 (cat [(sg g1859 3 (0, 0) [] (encs (FK.int .i64) ([] : List Int)) []), (sg g1854 3 (0, 0) [] (encs (FK.int .i64) ([] : List Int)) []), h1829, sg g1811 65 (0, 0) [] [(.int .i64 r1794.1.Size), (.bool r1794.1.Up), v1796, v1800, (.int .i64 r1794.1.Lost), (.int .i64 r1794.1.Pending), (.int .i64 r1794.1.Every), (.int .i64 r1794.1.Signals)] [], h1798, h1802, h1806, h1791, hF]) := hm1858
   refine s_val (v := (.slice (some ⟨g1859, 0, none⟩) 0 0)) (won rfl) rfl rfl (x_assign rfl (ev (t := 88) rfl rfl)) ?_
   refine wpList_nil ?_
   refine nx ?_
   refine wp_seq ?_
   refine wp_region_lit ?_
   refine s_val (v := (.int .i64 0)) (won rfl) rfl rfl (x_assign rfl rfl) ?_
   refine wpList_nil ?_
   refine nx ?_
   refine wp_seq ?_
   refine wp_region_lit ?_
   refine s_val (v := (.int .i64 0)) (won rfl) rfl rfl (x_assign rfl rfl) ?_
   refine wpList_nil ?_
   refine nx ?_
   obtain ⟨l2707, hT2709, hk2708⟩ := bindE he
   replace he := hT2709
   refine wp_seqJ (fun a w => ∃ (s2706 : ((List Int) × (List Int) × Int × Int)) (v2693 : Value) (h2694 : Hp) (v2698 : Value) (h2699 : Hp) (f : Nat → Value), l2707 = Fl.go s2706 ∧ a = fr 183 f ∧ f 6 = (.int .i64 (IntKind.wrap .i64 (1 + r1784))) ∧ f 8 = (.pointer (some ⟨g1811, 0, none⟩)) ∧ f 14 = v2693 ∧ f 15 = v2698 ∧ f 16 = (.int .i64 s2706.2.2.1) ∧ f 17 = (.int .i64 s2706.2.2.2) ∧ OwF 3 (FK.int .i64) v2693 s2706.1 h2694 ∧ OwF 3 (FK.int .i64) v2698 s2706.2.1 h2699 ∧ Mem w0 w (cat [sg g1811 65 (0, 0) [] [(.int .i64 r1794.1.Size), (.bool r1794.1.Up), v1796, v1800, (.int .i64 r1794.1.Lost), (.int .i64 r1794.1.Pending), (.int .i64 r1794.1.Every), (.int .i64 r1794.1.Signals)] [], h1798, h1802, h2694, h2699, hF])) ?_ ?_
   ·
    refine wp_seq ?_
    refine wp_region_lit ?_
    refine s_val (v := (.int .i64 0)) (won rfl) rfl rfl (x_assign rfl rfl) ?_
    refine wpList_nil ?_
    refine nx ?_
    refine wp_block ?_
    refine wp_fuel (I := fun k => fun a w => ∃ (s3130 : (List Int)) (s3135 : (List Int)) (s3140 : Int) (s3142 : Int) (s3144 : Int) (v3131 : Value) (h3132 : Hp) (v3136 : Value) (h3137 : Hp) (f : Nat → Value), laws_FnRing_l1 F r1787 r1794 r1817 k s3130 s3135 s3140 s3142 s3144 = some l2707 ∧ a = fr 183 f ∧ f 6 = (.int .i64 (IntKind.wrap .i64 (1 + r1784))) ∧ f 7 = v1789 ∧ f 8 = (.pointer (some ⟨g1811, 0, none⟩)) ∧ f 9 = v1804 ∧ f 12 = v1827 ∧ f 14 = v3131 ∧ f 15 = v3136 ∧ f 16 = (.int .i64 s3140) ∧ f 17 = (.int .i64 s3142) ∧ f 18 = (.int .i64 s3144) ∧ OwF 3 (FK.int .i64) v3131 s3130 h3132 ∧ OwF 3 (FK.int .i64) v3136 s3135 h3137 ∧ Mem w0 w (cat [sg g1811 65 (0, 0) [] [(.int .i64 r1794.1.Size), (.bool r1794.1.Up), v1796, v1800, (.int .i64 r1794.1.Lost), (.int .i64 r1794.1.Pending), (.int .i64 r1794.1.Every), (.int .i64 r1794.1.Signals)] [], h1791, h1798, h1802, h1806, h1829, h3132, h3137, hF])) F _ _ ⟨([] : List Int), ([] : List Int), 0, 0, 0, (.slice (some ⟨g1854, 0, none⟩) 0 0), (sg g1854 3 (0, 0) [] (encs (FK.int .i64) ([] : List Int)) []), (.slice (some ⟨g1859, 0, none⟩) 0 0), (sg g1859 3 (0, 0) [] (encs (FK.int .i64) ([] : List Int)) []), _, he, rfl, rfl, rfl, rfl, rfl, rfl, rfl, rfl, rfl, rfl, rfl, H1855, H1860, Mem.pick [3, 7, 4, 5, 6, 2, 1, 0, 8] rfl hm1858⟩ ?_ ?_
    ·
     rintro a w ⟨s3130, s3135, s3140, s3142, s3144, v3131, h3132, v3136, h3137, f, he, rfl, q3125, q3126, q3127, q3128, q3129, q3134, q3139, q3141, q3143, q3145, H3133, H3138, hm3341⟩
     rw [laws_FnRing_l1] at he; exact none_no he
    ·
     rintro k a w ⟨s3130, s3135, s3140, s3142, s3144, v3131, h3132, v3136, h3137, f, he, rfl, q3125, q3126, q3127, q3128, q3129, q3134, q3139, q3141, q3143, q3145, H3133, H3138, hm3343⟩
     rw [laws_FnRing_l1] at he
     refine wp_seq ?_
     refine wp_seq ?_
     refine wp_region_lit ?_
     refine s_val (v := (.int .i64 s3144)) (won rfl) rfl rfl (x_move rfl (ev (t := 18) (v := (.int .i64 s3144)) rfl q3145)) ?_
     refine s_val (v := v1789) (won rfl) rfl rfl (x_move rfl (ev (t := 7) (v := v1789) rfl q3126)) ?_
     refine s_val (v := (.int .i64 (r1787.length : Int))) (won rfl) rfl rfl (x_len rfl slt_62 (ev (t := 90) rfl rfl) (H1790).sl) ?_
     refine s_val (v := (.bool (decide (s3144 < (r1787.length : Int))))) (won rfl) rfl rfl (x_lss rfl (ev (t := 89) rfl rfl) (ev (t := 91) rfl rfl)) ?_
     refine wpList_nil ?_
     refine nx ?_
     rcases Bool.eq_false_or_eq_true ((decide (s3144 < (r1787.length : Int)))) with hb3345 | hb3345
     ·
      replace he := bifT he hb3345
      refine c_true rfl (p := (decide (s3144 < (r1787.length : Int)))) rfl rfl hb3345 ?_
      refine wp_skip ?_
      refine nx ?_
      obtain ⟨l3451, hT3453, hk3452⟩ := bindE he
      replace he := hT3453
      refine wp_seqJ (fun a w => ∃ (s3450 : ((List Int) × (List Int) × Int × Int)) (v3435 : Value) (h3436 : Hp) (v3441 : Value) (h3442 : Hp) (f : Nat → Value), l3451 = Fl.go s3450 ∧ a = fr 183 f ∧ f 6 = (.int .i64 (IntKind.wrap .i64 (1 + r1784))) ∧ f 7 = v1789 ∧ f 8 = (.pointer (some ⟨g1811, 0, none⟩)) ∧ f 9 = v1804 ∧ f 12 = v1827 ∧ f 14 = v3435 ∧ f 15 = v3441 ∧ f 16 = (.int .i64 s3450.2.2.1) ∧ f 17 = (.int .i64 s3450.2.2.2) ∧ f 18 = (.int .i64 s3144) ∧ OwF 3 (FK.int .i64) v3435 s3450.1 h3436 ∧ OwF 3 (FK.int .i64) v3441 s3450.2.1 h3442 ∧ Mem w0 w (cat [sg g1811 65 (0, 0) [] [(.int .i64 r1794.1.Size), (.bool r1794.1.Up), v1796, v1800, (.int .i64 r1794.1.Lost), (.int .i64 r1794.1.Pending), (.int .i64 r1794.1.Every), (.int .i64 r1794.1.Signals)] [], h1791, h1798, h1802, h1806, h1829, h3436, h3442, hF])) ?_ ?_
      ·
       refine wp_block ?_
       refine wp_seq ?_
       obtain ⟨hg3454, he⟩ := gdE he
       obtain ⟨cs3455, hq3456, hc3457⟩ := RdD.get (H1805.rd w0) hg3454.1 hg3454.2
       replace hq3456 := impl_RingReply_Kget hq3456
       refine wp_region_lit ?_
       refine s_val (v := v1804) (won rfl) rfl rfl (x_move rfl (ev (t := 9) (v := v1804) rfl q3128)) ?_
       refine s_val (v := (.int .i64 s3144)) (won rfl) rfl rfl (x_move rfl (ev (t := 18) (v := (.int .i64 s3144)) rfl q3145)) ?_
       refine s_val (v := (.pointer (some ((slA v1804).add (Int.toNat s3144 * 2))))) (won rfl) rfl rfl (x_indexD rfl slt_66 (ev (t := 95) rfl rfl) (ev (t := 96) rfl rfl) H1805.sl H1805.some hg3454.1 hg3454.2) ?_
       refine s_val (v := (.agg #[(.int .i64 (ix r1794.2.1 s3144).Code), (cs3455.getD 1 undef)])) (won rfl) rfl rfl (x_loadN (vs := [(.int .i64 (ix r1794.2.1 s3144).Code), (cs3455.getD 1 undef)]) rfl tyN_71 (ev (t := 97) rfl rfl) (ci_cellsE hc3457 hq3456.1 hm3343 (Sub.at_ (k := 4) rfl))) ?_
       refine s_exv (won rfl) rfl rfl (e_alloc (vs := [(.int .i64 0), (.slice none 0 0)]) rfl zt_71 rfl hm3343) ?_
       rintro g3460 w3461 hm3462
       refine s_exs (won rfl) rfl (e_store (vs := [(.int .i64 (ix r1794.2.1 s3144).Code), (cs3455.getD 1 undef)]) (o' := 0) (j := 0) rfl sz_71 (ev (t := 19) rfl rfl) (ev (t := 98) rfl rfl) rfl (one_cons rfl (one_cons (IsSl.one (hq3456.2).sl) one_nil)) hm3462 (k := 0) rfl rfl rfl) ?_
       intro w3464 hm3465
       replace hm3465 : Mem w0 w3464 (cat [sg g3460 71 (0, 0) [] [(.int .i64 (ix r1794.2.1 s3144).Code), (cs3455.getD 1 undef)] [], sg g1811 65 (0, 0) [] [(.int .i64 r1794.1.Size), (.bool r1794.1.Up), v1796, v1800, (.int .i64 r1794.1.Lost), (.int .i64 r1794.1.Pending), (.int .i64 r1794.1.Every), (.int .i64 r1794.1.Signals)] [], h1791, h1798, h1802, h1806, h1829, h3132, h3137, hF]) := hm3465
       refine wpList_nil ?_
       refine nx ?_
       refine wp_seq ?_
       refine wp_seq ?_
       obtain ⟨hg3477, he⟩ := gdE he
       obtain ⟨cs3478, hq3479, hc3480⟩ := RdD.get (H1828.rd w0) hg3477.1 hg3477.2
       replace hq3479 := impl_RingReply_Kget hq3479
       obtain ⟨hg3482, he⟩ := gdE he
       obtain ⟨r3483, hr3483, he⟩ := bindE he
       refine wp_qregion (cat [sg g3460 71 (0, 0) [] [(.int .i64 (ix r1794.2.1 s3144).Code), (cs3455.getD 1 undef)] [], sg g1811 65 (0, 0) [] [(.int .i64 r1794.1.Size), (.bool r1794.1.Up), v1796, v1800, (.int .i64 r1794.1.Lost), (.int .i64 r1794.1.Pending), (.int .i64 r1794.1.Every), (.int .i64 r1794.1.Signals)] [], h1791, h1798, h1802, h1806, h1829, h3132, h3137, hF]) mixed (by kernel_rfl) hm3465 ?_
       refine q_val (v := (.pointer (some ⟨g3460, 0, none⟩))) (won rfl) rfl rfl (fun wq hq => (x_field rfl fa_71x0 (ev (t := 19) rfl rfl))) ?_
       refine q_val (v := (.int .i64 (ix r1794.2.1 s3144).Code)) (won rfl) rfl rfl (fun wq hq => (x_load rfl ty1x3 (ev (t := 99) rfl rfl) (seg_cell (o' := 0) (j := 0) hq (k := 0) rfl rfl rfl))) ?_
       refine q_val (v := v1827) (won rfl) rfl rfl (fun wq hq => (x_move rfl (ev (t := 12) (v := v1827) rfl q3129))) ?_
       refine q_val (v := (.int .i64 s3144)) (won rfl) rfl rfl (fun wq hq => (x_move rfl (ev (t := 18) (v := (.int .i64 s3144)) rfl q3145))) ?_
       refine q_val (v := (.pointer (some ((slA v1827).add (Int.toNat s3144 * 2))))) (won rfl) rfl rfl (fun wq hq => (x_indexD rfl slt_66 (ev (t := 101) rfl rfl) (ev (t := 102) rfl rfl) H1828.sl H1828.some hg3477.1 hg3477.2)) ?_
       refine q_val (v := (.pointer (some (((slA v1827).add (Int.toNat s3144 * 2)).add 0)))) (won rfl) rfl rfl (fun wq hq => (x_fielda rfl fa_71x0 (ev (t := 103) rfl rfl))) ?_
       refine q_val (v := (.int .i64 (ix r1817.2.1 s3144).Code)) (won rfl) rfl rfl (fun wq hq => (x_load rfl ty1x3 (ev (t := 104) rfl rfl) (ci_cell (o := 0) hc3480 (by rw [hq3479.1]; rfl) hq (Sub.at_ (k := 6) rfl)))) ?_
       refine q_val (v := (.bool (!decide ((ix r1794.2.1 s3144).Code = (ix r1817.2.1 s3144).Code)))) (won rfl) rfl rfl (fun wq hq => (x_neq rfl (ev (t := 100) rfl rfl) (ev (t := 105) rfl rfl))) ?_
       refine q_val (v := (.bool (!decide ((ix r1794.2.1 s3144).Code = (ix r1817.2.1 s3144).Code)))) (won rfl) rfl rfl (fun wq hq => (x_move rfl (ev (t := 106) rfl rfl))) ?_
       refine q_cval (p := (!(!decide ((ix r1794.2.1 s3144).Code = (ix r1817.2.1 s3144).Code)))) (v := (.pointer (some ⟨g3460, 1, none⟩))) (won_f (j := 8) (t := 107) (q := (!decide ((ix r1794.2.1 s3144).Code = (ix r1817.2.1 s3144).Code))) rfl rfl rfl rfl rfl) rfl rfl (fun hp wq hq => (x_field rfl fa_71x1 (ev (t := 19) rfl rfl))) ?_
       refine q_cval (p := (!(!decide ((ix r1794.2.1 s3144).Code = (ix r1817.2.1 s3144).Code)))) (v := (cs3455.getD 1 undef)) (won_f (j := 8) (t := 107) (q := (!decide ((ix r1794.2.1 s3144).Code = (ix r1817.2.1 s3144).Code))) rfl rfl rfl rfl rfl) rfl rfl (fun hp wq hq => (x_load rfl ty1x26 (ev (t := 108) rfl (Eq.trans (b := cv (!(!decide ((ix r1794.2.1 s3144).Code = (ix r1817.2.1 s3144).Code))) (.pointer (some ⟨g3460, 1, none⟩))) rfl (on_c hp))) (seg_cell (o' := 0) (j := 1) hq (k := 0) rfl rfl rfl))) ?_
       refine q_cval (p := (!(!decide ((ix r1794.2.1 s3144).Code = (ix r1817.2.1 s3144).Code)))) (v := v1827) (won_f (j := 8) (t := 107) (q := (!decide ((ix r1794.2.1 s3144).Code = (ix r1817.2.1 s3144).Code))) rfl rfl rfl rfl rfl) rfl rfl (fun hp wq hq => (x_move rfl (ev (t := 12) (v := v1827) rfl q3129))) ?_
       refine q_cval (p := (!(!decide ((ix r1794.2.1 s3144).Code = (ix r1817.2.1 s3144).Code)))) (v := (.int .i64 s3144)) (won_f (j := 8) (t := 107) (q := (!decide ((ix r1794.2.1 s3144).Code = (ix r1817.2.1 s3144).Code))) rfl rfl rfl rfl rfl) rfl rfl (fun hp wq hq => (x_move rfl (ev (t := 18) (v := (.int .i64 s3144)) rfl q3145))) ?_
       refine q_cval (p := (!(!decide ((ix r1794.2.1 s3144).Code = (ix r1817.2.1 s3144).Code)))) (v := (.pointer (some ((slA v1827).add (Int.toNat s3144 * 2))))) (won_f (j := 8) (t := 107) (q := (!decide ((ix r1794.2.1 s3144).Code = (ix r1817.2.1 s3144).Code))) rfl rfl rfl rfl rfl) rfl rfl (fun hp wq hq => (x_indexD rfl slt_66 (ev (t := 110) rfl (Eq.trans (b := cv (!(!decide ((ix r1794.2.1 s3144).Code = (ix r1817.2.1 s3144).Code))) v1827) rfl (on_c hp))) (ev (t := 111) rfl (Eq.trans (b := cv (!(!decide ((ix r1794.2.1 s3144).Code = (ix r1817.2.1 s3144).Code))) (.int .i64 s3144)) rfl (on_c hp))) H1828.sl H1828.some (hg3482 hp).1 (hg3482 hp).2)) ?_
       refine q_cval (p := (!(!decide ((ix r1794.2.1 s3144).Code = (ix r1817.2.1 s3144).Code)))) (v := (.pointer (some (((slA v1827).add (Int.toNat s3144 * 2)).add 1)))) (won_f (j := 8) (t := 107) (q := (!decide ((ix r1794.2.1 s3144).Code = (ix r1817.2.1 s3144).Code))) rfl rfl rfl rfl rfl) rfl rfl (fun hp wq hq => (x_fielda rfl fa_71x1 (ev (t := 112) rfl (Eq.trans (b := cv (!(!decide ((ix r1794.2.1 s3144).Code = (ix r1817.2.1 s3144).Code))) (.pointer (some ((slA v1827).add (Int.toNat s3144 * 2))))) rfl (on_c hp))))) ?_
       refine q_cval (p := (!(!decide ((ix r1794.2.1 s3144).Code = (ix r1817.2.1 s3144).Code)))) (v := (cs3478.getD 1 undef)) (won_f (j := 8) (t := 107) (q := (!decide ((ix r1794.2.1 s3144).Code = (ix r1817.2.1 s3144).Code))) rfl rfl rfl rfl rfl) rfl rfl (fun hp wq hq => (x_load rfl ty1x26 (ev (t := 113) rfl (Eq.trans (b := cv (!(!decide ((ix r1794.2.1 s3144).Code = (ix r1817.2.1 s3144).Code))) (.pointer (some (((slA v1827).add (Int.toNat s3144 * 2)).add 1)))) rfl (on_c hp))) (ci_cell (o := 1) hc3480 (by rw [hq3479.1]; rfl) hq (Sub.at_ (k := 6) rfl)))) ?_
       refine q_ccall (p := (!(!decide ((ix r1794.2.1 s3144).Code = (ix r1817.2.1 s3144).Code)))) (v := (.bool r3483)) (won_f (j := 8) (t := 107) (q := (!decide ((ix r1794.2.1 s3144).Code = (ix r1817.2.1 s3144).Code))) rfl rfl rfl rfl rfl) rfl rfl (fun hp wq hq => (x_call rfl rfl cl_37 (map_lit (map_cons (ev (t := 109) rfl (Eq.trans (b := cv (!(!decide ((ix r1794.2.1 s3144).Code = (ix r1817.2.1 s3144).Code))) (cs3455.getD 1 undef)) rfl (on_c hp))) (map_cons (ev (t := 114) rfl (Eq.trans (b := cv (!(!decide ((ix r1794.2.1 s3144).Code = (ix r1817.2.1 s3144).Code))) (cs3478.getD 1 undef)) rfl (on_c hp))) map_nil))))) (fun hp wq hq => ((laws_sameInts_ok F (hR := (cat [h1806, h1829])) (hF := cat [sg g3460 71 (0, 0) [] [(.int .i64 (ix r1794.2.1 s3144).Code), (cs3455.getD 1 undef)] [], sg g1811 65 (0, 0) [] [(.int .i64 r1794.1.Size), (.bool r1794.1.Up), v1796, v1800, (.int .i64 r1794.1.Lost), (.int .i64 r1794.1.Pending), (.int .i64 r1794.1.Every), (.int .i64 r1794.1.Signals)] [], h1791, h1798, h1802, h1806, h1829, h3132, h3137, hF]) (ix r1794.2.1 s3144).List (ix r1817.2.1 s3144).List (hq3456.2.mono (Sub.at_ (k := 0) rfl)) (hq3479.2.mono (Sub.at_ (k := 1) rfl)) (subc (Sub.at_ (k := 5) rfl) (subc (Sub.at_ (k := 6) rfl) subn)) (Mem.one hq) (bifT hr3483 hp))).mono fun e w2 h => ⟨h.1, Mem.un h.2⟩) ?_
       refine q_cval (p := (!(!decide ((ix r1794.2.1 s3144).Code = (ix r1817.2.1 s3144).Code)))) (v := (.bool (!r3483))) (won_f (j := 8) (t := 107) (q := (!decide ((ix r1794.2.1 s3144).Code = (ix r1817.2.1 s3144).Code))) rfl rfl rfl rfl rfl) rfl rfl (fun hp wq hq => (x_not rfl (ev (t := 115) rfl (Eq.trans (b := cv (!(!decide ((ix r1794.2.1 s3144).Code = (ix r1817.2.1 s3144).Code))) (.bool r3483)) rfl (on_c hp))))) ?_
       refine q_val (v := (.bool ((!decide ((ix r1794.2.1 s3144).Code = (ix r1817.2.1 s3144).Code)) || (!r3483)))) (won rfl) rfl rfl (fun wq hq => (x_pick_or rfl (ev (t := 107) rfl rfl) rfl (fun hq => ev rfl (Eq.trans (b := cv (!(!decide ((ix r1794.2.1 s3144).Code = (ix r1817.2.1 s3144).Code))) (.bool (!r3483))) rfl (on_c (not_i hq)))))) ?_
       refine wpQuiet_nil ?_
       intro w3484 hm3485
       refine nx ?_
       rcases Bool.eq_false_or_eq_true (((!decide ((ix r1794.2.1 s3144).Code = (ix r1817.2.1 s3144).Code)) || (!r3483))) with hb3486 | hb3486
       ·
        replace he := bifT he hb3486
        refine c_true rfl (p := ((!decide ((ix r1794.2.1 s3144).Code = (ix r1817.2.1 s3144).Code)) || (!r3483))) rfl rfl hb3486 ?_
        refine wp_seq ?_
        refine wp_region_lit ?_
        refine s_val (v := (.bool false)) (won rfl) rfl rfl (x_assign rfl rfl) ?_
        refine wpList_nil ?_
        have hm3487 : Mem w0 w3484 (cat [hF]) := Mem.pick [9] rfl hm3485
        refine nx ?_
        refine wp_ret ?_
        refine xr ?_
        refine rb ?_
        refine xr ?_
        refine xr ?_
        refine rb ?_
        refine xr ?_
        obtain rfl := Option.some.inj he
        replace he := outE hk3452
        obtain rfl := Option.some.inj he
        replace he := outE hk2708
        obtain rfl := Option.some.inj he
        refine r_ret (v := (.bool false)) (rv_one rfl (RVs.tmp (v := (.bool false)) rfl rfl RVs.nil)) rfl ?_
        exact ⟨rfl, Mem.pick [0] rfl hm3487⟩
       ·
        replace he := bifF he hb3486
        refine c_false rfl (p := ((!decide ((ix r1794.2.1 s3144).Code = (ix r1817.2.1 s3144).Code)) || (!r3483))) rfl rfl hb3486 ?_
        refine wp_skip ?_
        refine nx ?_
        refine wp_seq ?_
        refine wp_seq ?_
        refine wp_region_lit ?_
        refine s_val (v := (.pointer (some ⟨g3460, 0, none⟩))) (won rfl) rfl rfl (x_field rfl fa_71x0 (ev (t := 19) rfl rfl)) ?_
        refine s_val (v := (.int .i64 (ix r1794.2.1 s3144).Code)) (won rfl) rfl rfl (x_load rfl ty1x3 (ev (t := 118) rfl rfl) (seg_cell (o' := 0) (j := 0) hm3485 (k := 0) rfl rfl rfl)) ?_
        refine s_val (v := (.bool (!decide ((ix r1794.2.1 s3144).Code = 0)))) (won rfl) rfl rfl (x_neq rfl (ev (t := 119) rfl rfl) rfl) ?_
        refine wpList_nil ?_
        refine nx ?_
        rcases Bool.eq_false_or_eq_true ((!decide ((ix r1794.2.1 s3144).Code = 0))) with hb3489 | hb3489
        ·
         replace he := bifT he hb3489
         refine c_true rfl (p := (!decide ((ix r1794.2.1 s3144).Code = 0))) rfl rfl hb3489 ?_
         refine wp_exit ?_
         refine xs ?_
         refine xb ?_
         refine nx ?_
         obtain rfl := Option.some.inj he
         exact ⟨(s3130, s3135, s3140, s3142), v3131, h3132, v3136, h3137, _, rfl, rfl, q3125, q3126, q3127, q3128, q3129, q3134, q3139, q3141, q3143, q3145, H3133, H3138, Mem.pick [1, 2, 3, 4, 5, 6, 7, 8, 9] rfl hm3485⟩
        ·
         replace he := bifF he hb3489
         refine c_false rfl (p := (!decide ((ix r1794.2.1 s3144).Code = 0))) rfl rfl hb3489 ?_
         refine wp_skip ?_
         refine nx ?_
         refine wp_seq ?_
         obtain ⟨hg3490, he⟩ := gdE he
         refine wp_region_lit ?_
         refine s_val (v := v1789) (won rfl) rfl rfl (x_move rfl (ev (t := 7) (v := v1789) rfl q3126)) ?_
         refine s_val (v := (.int .i64 s3144)) (won rfl) rfl rfl (x_move rfl (ev (t := 18) (v := (.int .i64 s3144)) rfl q3145)) ?_
         refine s_val (v := (.pointer (some ((slA v1789).add (Int.toNat s3144 * 2))))) (won rfl) rfl rfl (x_index (d := impl_RingAct.K) rfl slt_62 (ev (t := 121) rfl rfl) (ev (t := 122) rfl rfl) (H1790.rd w0) hg3490.1 hg3490.2) ?_
         refine s_val (v := (.pointer (some (((slA v1789).add (Int.toNat s3144 * 2)).add 0)))) (won rfl) rfl rfl (x_fielda rfl fa_74x0 (ev (t := 123) rfl rfl)) ?_
         refine s_val (v := (.int .i64 (ix r1787 s3144).Kind)) (won rfl) rfl rfl (x_load rfl ty1x3 (ev (t := 124) rfl rfl) (RdF.cells (H1790.rd w0) hm3485 (Sub.at_ (k := 2) rfl) hg3490.1 hg3490.2 0 _ rfl)) ?_
         refine wpList_nil ?_
         refine nx ?_
         refine wp_block ?_
         refine wp_seq ?_
         refine wp_region_lit ?_
         refine s_val (v := (.bool (decide ((ix r1787 s3144).Kind = 1)))) (won rfl) rfl rfl (x_eql rfl (ev (t := 125) rfl rfl) rfl) ?_
         refine s_val (v := (.bool (decide ((ix r1787 s3144).Kind = 1)))) (won rfl) rfl rfl (x_assign rfl (ev (t := 127) rfl rfl)) ?_
         refine wpList_nil ?_
         refine nx ?_
         rcases Bool.eq_false_or_eq_true ((decide ((ix r1787 s3144).Kind = 1))) with hb3491 | hb3491
         ·
          replace he := bifT he hb3491
          refine c_true rfl (p := (decide ((ix r1787 s3144).Kind = 1))) rfl rfl hb3491 ?_
          obtain ⟨hg3492, he⟩ := gdE he
          obtain ⟨hg3498, he⟩ := gdE he
          refine wp_region_lit ?_
          refine s_val (v := v3131) (won rfl) rfl rfl (x_move rfl (ev (t := 14) (v := v3131) rfl q3134)) ?_
          refine s_val (v := v1789) (won rfl) rfl rfl (x_move rfl (ev (t := 7) (v := v1789) rfl q3126)) ?_
          refine s_val (v := (.int .i64 s3144)) (won rfl) rfl rfl (x_move rfl (ev (t := 18) (v := (.int .i64 s3144)) rfl q3145)) ?_
          refine s_val (v := (.pointer (some ((slA v1789).add (Int.toNat s3144 * 2))))) (won rfl) rfl rfl (x_index (d := impl_RingAct.K) rfl slt_62 (ev (t := 129) rfl rfl) (ev (t := 130) rfl rfl) (H1790.rd w0) hg3492.1 hg3492.2) ?_
          refine s_val (v := (.pointer (some (((slA v1789).add (Int.toNat s3144 * 2)).add 1)))) (won rfl) rfl rfl (x_fielda rfl fa_74x1 (ev (t := 131) rfl rfl)) ?_
          refine s_val (v := (.int .i64 (ix r1787 s3144).N)) (won rfl) rfl rfl (x_load rfl ty1x3 (ev (t := 132) rfl rfl) (RdF.cells (H1790.rd w0) hm3485 (Sub.at_ (k := 2) rfl) hg3492.1 hg3492.2 1 _ rfl)) ?_
          refine s_exv (won rfl) rfl rfl (e_litp (cells := [(.int .i64 (ix r1787 s3144).N)]) (ps := [(0, (.int .i64 (ix r1787 s3144).N))]) rfl slt_26 (pmap_lit (pmap_cons (ev (t := 133) rfl rfl) pmap_nil)) (fun w1 => run_bslicez (cells := [(.int .i64 (ix r1787 s3144).N)]) (zs := [.int .i64 0]) (zc := [.int .i64 0]) slt_26 rfl rfl (by kernel_rfl) (fill_cons (cs := [(.int .i64 (ix r1787 s3144).N)]) rfl rfl rfl fill_nil) (by decide)) hm3485) ?_
          rintro g3495 w3493 hm3494
          have H3496 : OwF 3 (FK.int .i64) (.slice (some ⟨g3495, 0, none⟩) 1 1) ([(ix r1787 s3144).N] : List Int) (sg g3495 3 (0, 0) [] (encs (FK.int .i64) ([(ix r1787 s3144).N] : List Int)) []) := OwF.lit g3495 ([(ix r1787 s3144).N] : List Int) 1 rfl (by decide)
          replace hm3494 : Mem w0 w3493 (cat [(sg g3495 3 (0, 0) [] (encs (FK.int .i64) ([(ix r1787 s3144).N] : List Int)) []), sg g3460 71 (0, 0) [] [(.int .i64 (ix r1794.2.1 s3144).Code), (cs3455.getD 1 undef)] [], sg g1811 65 (0, 0) [] [(.int .i64 r1794.1.Size), (.bool r1794.1.Up), v1796, v1800, (.int .i64 r1794.1.Lost), (.int .i64 r1794.1.Pending), (.int .i64 r1794.1.Every), (.int .i64 r1794.1.Signals)] [], h1791, h1798, h1802, h1806, h1829, h3132, h3137, hF]) := hm3494
          refine s_exv (won rfl) rfl rfl (e_append (bytes := 8) rfl slt_26 rfl (ev (t := 128) rfl rfl) (ev (t := 134) rfl rfl) H3133 (k := 8) rfl (H3496.rd w0) (Sub.at_ (k := 0) rfl) hm3494 hg3498 (len63 hg3498 rfl)) ?_
          rintro p3500 w3502 ⟨H3501, hm3503⟩
          replace hm3503 : Mem w0 w3502 (cat [(sg g3495 3 (0, 0) [] (encs (FK.int .i64) ([(ix r1787 s3144).N] : List Int)) []), sg g3460 71 (0, 0) [] [(.int .i64 (ix r1794.2.1 s3144).Code), (cs3455.getD 1 undef)] [], sg g1811 65 (0, 0) [] [(.int .i64 r1794.1.Size), (.bool r1794.1.Up), v1796, v1800, (.int .i64 r1794.1.Lost), (.int .i64 r1794.1.Pending), (.int .i64 r1794.1.Every), (.int .i64 r1794.1.Signals)] [], h1791, h1798, h1802, h1806, h1829, p3500.2, h3137, hF]) := hm3503
          refine s_val (v := p3500.1) (won rfl) rfl rfl (x_assign rfl (ev (t := 135) rfl rfl)) ?_
          refine wpList_nil ?_
          have hm3504 : Mem w0 w3502 (cat [sg g1811 65 (0, 0) [] [(.int .i64 r1794.1.Size), (.bool r1794.1.Up), v1796, v1800, (.int .i64 r1794.1.Lost), (.int .i64 r1794.1.Pending), (.int .i64 r1794.1.Every), (.int .i64 r1794.1.Signals)] [], h1791, h1798, h1802, h1806, h1829, p3500.2, h3137, hF]) := Mem.pick [2, 3, 4, 5, 6, 7, 8, 9, 10] rfl hm3503
          refine nb ?_
          refine nb ?_
          refine nx ?_
          obtain rfl := Option.some.inj he
          exact ⟨((s3130 ++ ([(ix r1787 s3144).N] : List Int)), s3135, s3140, s3142), p3500.1, p3500.2, v3136, h3137, _, rfl, rfl, q3125, q3126, q3127, q3128, q3129, rfl, q3139, q3141, q3143, q3145, H3501, H3138, Mem.pick [0, 1, 2, 3, 4, 5, 6, 7, 8] rfl hm3504⟩
         ·
          replace he := bifF he hb3491
          refine c_false rfl (p := (decide ((ix r1787 s3144).Kind = 1))) rfl rfl hb3491 ?_
          refine wp_seq ?_
          refine wp_region_lit ?_
          refine s_val (v := (.bool (decide ((ix r1787 s3144).Kind = 2)))) (won rfl) rfl rfl (x_eql rfl (ev (t := 125) rfl rfl) rfl) ?_
          refine s_val (v := (.bool (decide ((ix r1787 s3144).Kind = 2)))) (won rfl) rfl rfl (x_assign rfl (ev (t := 137) rfl rfl)) ?_
          refine wpList_nil ?_
          refine nx ?_
          rcases Bool.eq_false_or_eq_true ((decide ((ix r1787 s3144).Kind = 2))) with hb3505 | hb3505
          ·
           replace he := bifT he hb3505
           refine c_true rfl (p := (decide ((ix r1787 s3144).Kind = 2))) rfl rfl hb3505 ?_
           refine wp_seq ?_
           obtain ⟨hg3506, he⟩ := gdE he
           refine wp_region_lit ?_
           refine s_val (v := (.int .i64 s3142)) (won rfl) rfl rfl (x_move rfl (ev (t := 17) (v := (.int .i64 s3142)) rfl q3143)) ?_
           refine s_val (v := v1789) (won rfl) rfl rfl (x_move rfl (ev (t := 7) (v := v1789) rfl q3126)) ?_
           refine s_val (v := (.int .i64 s3144)) (won rfl) rfl rfl (x_move rfl (ev (t := 18) (v := (.int .i64 s3144)) rfl q3145)) ?_
           refine s_val (v := (.pointer (some ((slA v1789).add (Int.toNat s3144 * 2))))) (won rfl) rfl rfl (x_index (d := impl_RingAct.K) rfl slt_62 (ev (t := 139) rfl rfl) (ev (t := 140) rfl rfl) (H1790.rd w0) hg3506.1 hg3506.2) ?_
           refine s_val (v := (.pointer (some (((slA v1789).add (Int.toNat s3144 * 2)).add 1)))) (won rfl) rfl rfl (x_fielda rfl fa_74x1 (ev (t := 141) rfl rfl)) ?_
           refine s_val (v := (.int .i64 (ix r1787 s3144).N)) (won rfl) rfl rfl (x_load rfl ty1x3 (ev (t := 142) rfl rfl) (RdF.cells (H1790.rd w0) hm3485 (Sub.at_ (k := 2) rfl) hg3506.1 hg3506.2 1 _ rfl)) ?_
           refine s_val (v := (.int .i64 (IntKind.wrap .i64 (s3142 + (ix r1787 s3144).N)))) (won rfl) rfl rfl (x_add rfl (ev (t := 138) rfl rfl) (ev (t := 143) rfl rfl)) ?_
           refine s_val (v := (.int .i64 (IntKind.wrap .i64 (s3142 + (ix r1787 s3144).N)))) (won rfl) rfl rfl (x_assign rfl (ev (t := 144) rfl rfl)) ?_
           refine wpList_nil ?_
           refine nx ?_
           refine wp_region_lit ?_
           refine s_val (v := (.int .i64 s3140)) (won rfl) rfl rfl (x_move rfl (ev (t := 16) (v := (.int .i64 s3140)) rfl q3141)) ?_
           refine s_val (v := (.pointer (some ⟨g3460, 1, none⟩))) (won rfl) rfl rfl (x_field rfl fa_71x1 (ev (t := 19) rfl rfl)) ?_
           refine s_val (v := (cs3455.getD 1 undef)) (won rfl) rfl rfl (x_load rfl ty1x26 (ev (t := 146) rfl rfl) (seg_cell (o' := 0) (j := 1) hm3485 (k := 0) rfl rfl rfl)) ?_
           refine s_val (v := (.int .i64 ((ix r1794.2.1 s3144).List.length : Int))) (won rfl) rfl rfl (x_len rfl slt_26 (ev (t := 147) rfl rfl) (hq3456.2).sl) ?_
           refine s_val (v := (.int .i64 (IntKind.wrap .i64 (s3140 + ((ix r1794.2.1 s3144).List.length : Int))))) (won rfl) rfl rfl (x_add rfl (ev (t := 145) rfl rfl) (ev (t := 148) rfl rfl)) ?_
           refine s_val (v := (.int .i64 (IntKind.wrap .i64 (s3140 + ((ix r1794.2.1 s3144).List.length : Int))))) (won rfl) rfl rfl (x_assign rfl (ev (t := 149) rfl rfl)) ?_
           refine wpList_nil ?_
           have hm3507 : Mem w0 w3484 (cat [sg g1811 65 (0, 0) [] [(.int .i64 r1794.1.Size), (.bool r1794.1.Up), v1796, v1800, (.int .i64 r1794.1.Lost), (.int .i64 r1794.1.Pending), (.int .i64 r1794.1.Every), (.int .i64 r1794.1.Signals)] [], h1791, h1798, h1802, h1806, h1829, h3132, h3137, hF]) := Mem.pick [1, 2, 3, 4, 5, 6, 7, 8, 9] rfl hm3485
           refine nb ?_
           refine nb ?_
           refine nx ?_
           obtain rfl := Option.some.inj he
           exact ⟨(s3130, s3135, (IntKind.wrap .i64 (s3140 + ((ix r1794.2.1 s3144).List.length : Int))), (IntKind.wrap .i64 (s3142 + (ix r1787 s3144).N))), v3131, h3132, v3136, h3137, _, rfl, rfl, q3125, q3126, q3127, q3128, q3129, q3134, q3139, rfl, rfl, q3145, H3133, H3138, Mem.pick [0, 1, 2, 3, 4, 5, 6, 7, 8] rfl hm3507⟩
          ·
           replace he := bifF he hb3505
           refine c_false rfl (p := (decide ((ix r1787 s3144).Kind = 2))) rfl rfl hb3505 ?_
           obtain ⟨s3522, hT3524, hk3523⟩ := bindE he
           replace he := hT3524
           refine wp_seqJ (fun a w => ∃ (f : Nat → Value), a = fr 183 f ∧ f 6 = (.int .i64 (IntKind.wrap .i64 (1 + r1784))) ∧ f 7 = v1789 ∧ f 8 = (.pointer (some ⟨g1811, 0, none⟩)) ∧ f 9 = v1804 ∧ f 12 = v1827 ∧ f 14 = v3131 ∧ f 15 = v3136 ∧ f 16 = (.int .i64 s3140) ∧ f 17 = (.int .i64 s3142) ∧ f 18 = (.int .i64 s3144) ∧ f 19 = (.pointer (some ⟨g3460, 0, none⟩)) ∧ f 150 = (.bool s3522) ∧ Mem w0 w (cat [sg g1811 65 (0, 0) [] [(.int .i64 r1794.1.Size), (.bool r1794.1.Up), v1796, v1800, (.int .i64 r1794.1.Lost), (.int .i64 r1794.1.Pending), (.int .i64 r1794.1.Every), (.int .i64 r1794.1.Signals)] [], sg g3460 71 (0, 0) [] [(.int .i64 (ix r1794.2.1 s3144).Code), (cs3455.getD 1 undef)] [], h1791, h1798, h1802, h1806, h1829, h3132, h3137, hF])) ?_ ?_
           ·
            refine wp_seq ?_
            refine wp_region_lit ?_
            refine s_val (v := (.bool (decide ((ix r1787 s3144).Kind = 3)))) (won rfl) rfl rfl (x_eql rfl (ev (t := 125) rfl rfl) rfl) ?_
            refine s_val (v := (.bool (decide ((ix r1787 s3144).Kind = 3)))) (won rfl) rfl rfl (x_assign rfl (ev (t := 151) rfl rfl)) ?_
            refine wpList_nil ?_
            refine nx ?_
            rcases Bool.eq_false_or_eq_true ((decide ((ix r1787 s3144).Kind = 3))) with hb3525 | hb3525
            ·
             replace he := bifT he hb3525
             refine c_true rfl (p := (decide ((ix r1787 s3144).Kind = 3))) rfl rfl hb3525 ?_
             refine wp_skip ?_
             refine nx ?_
             obtain rfl := Option.some.inj he
             exact ⟨_, rfl, q3125, q3126, q3127, q3128, q3129, q3134, q3139, q3141, q3143, q3145, rfl, rfl, Mem.pick [1, 0, 2, 3, 4, 5, 6, 7, 8, 9] rfl hm3485⟩
            ·
             replace he := bifF he hb3525
             refine c_false rfl (p := (decide ((ix r1787 s3144).Kind = 3))) rfl rfl hb3525 ?_
             refine wp_region_lit ?_
             refine s_val (v := (.bool (decide ((ix r1787 s3144).Kind = 4)))) (won rfl) rfl rfl (x_eql rfl (ev (t := 125) rfl rfl) rfl) ?_
             refine s_val (v := (.bool (decide ((ix r1787 s3144).Kind = 4)))) (won rfl) rfl rfl (x_assign rfl (ev (t := 152) rfl rfl)) ?_
             refine wpList_nil ?_
             refine nx ?_
             obtain rfl := Option.some.inj he
             exact ⟨_, rfl, q3125, q3126, q3127, q3128, q3129, q3134, q3139, q3141, q3143, q3145, rfl, rfl, Mem.pick [1, 0, 2, 3, 4, 5, 6, 7, 8, 9] rfl hm3485⟩
           ·
            rintro a w ⟨f, rfl, q3509, q3510, q3511, q3512, q3513, q3514, q3515, q3516, q3517, q3518, q3519, q3521, hm3527⟩
            replace he := hk3523
            rcases Bool.eq_false_or_eq_true (s3522) with hb3528 | hb3528
            ·
             replace he := bifT he hb3528
             refine c_true rfl (p := s3522) rfl q3521 hb3528 ?_
             obtain ⟨hg3529, he⟩ := gdE he
             refine wp_region_lit ?_
             refine s_val (v := v3136) (won rfl) rfl rfl (x_move rfl (ev (t := 15) (v := v3136) rfl q3515)) ?_
             refine s_val (v := (.pointer (some ⟨g3460, 1, none⟩))) (won rfl) rfl rfl (x_field rfl fa_71x1 (ev (t := 19) (v := (.pointer (some ⟨g3460, 0, none⟩))) rfl q3519)) ?_
             refine s_val (v := (cs3455.getD 1 undef)) (won rfl) rfl rfl (x_load rfl ty1x26 (ev (t := 154) rfl rfl) (seg_cell (o' := 0) (j := 1) hm3527 (k := 1) rfl rfl rfl)) ?_
             refine s_exv (won rfl) rfl rfl (e_append (bytes := 8) rfl slt_26 rfl (ev (t := 153) rfl rfl) (ev (t := 155) rfl rfl) H3138 (k := 8) rfl hq3456.2 (Sub.at_ (k := 5) rfl) hm3527 hg3529 (len63 hg3529 rfl)) ?_
             rintro p3531 w3533 ⟨H3532, hm3534⟩
             replace hm3534 : Mem w0 w3533 (cat [sg g1811 65 (0, 0) [] [(.int .i64 r1794.1.Size), (.bool r1794.1.Up), v1796, v1800, (.int .i64 r1794.1.Lost), (.int .i64 r1794.1.Pending), (.int .i64 r1794.1.Every), (.int .i64 r1794.1.Signals)] [], sg g3460 71 (0, 0) [] [(.int .i64 (ix r1794.2.1 s3144).Code), (cs3455.getD 1 undef)] [], h1791, h1798, h1802, h1806, h1829, h3132, p3531.2, hF]) := hm3534
             refine s_val (v := p3531.1) (won rfl) rfl rfl (x_assign rfl (ev (t := 156) rfl rfl)) ?_
             refine wpList_nil ?_
             have hm3535 : Mem w0 w3533 (cat [sg g1811 65 (0, 0) [] [(.int .i64 r1794.1.Size), (.bool r1794.1.Up), v1796, v1800, (.int .i64 r1794.1.Lost), (.int .i64 r1794.1.Pending), (.int .i64 r1794.1.Every), (.int .i64 r1794.1.Signals)] [], h1791, h1798, h1802, h1806, h1829, h3132, p3531.2, hF]) := Mem.pick [0, 2, 3, 4, 5, 6, 7, 8, 9] rfl hm3534
             refine nb ?_
             refine nb ?_
             refine nx ?_
             obtain rfl := Option.some.inj he
             exact ⟨(s3130, (s3135 ++ (ix r1794.2.1 s3144).List), s3140, s3142), v3131, h3132, p3531.1, p3531.2, _, rfl, rfl, q3509, q3510, q3511, q3512, q3513, q3514, rfl, q3516, q3517, q3518, H3133, H3532, Mem.pick [0, 1, 2, 3, 4, 5, 6, 7, 8] rfl hm3535⟩
            ·
             replace he := bifF he hb3528
             refine c_false rfl (p := s3522) rfl q3521 hb3528 ?_
             refine wp_skip ?_
             refine nb ?_
             refine nb ?_
             refine nx ?_
             obtain rfl := Option.some.inj he
             exact ⟨(s3130, s3135, s3140, s3142), v3131, h3132, v3136, h3137, _, rfl, rfl, q3509, q3510, q3511, q3512, q3513, q3514, q3515, q3516, q3517, q3518, H3133, H3138, Mem.pick [0, 2, 3, 4, 5, 6, 7, 8, 9] rfl hm3527⟩
      ·
       rintro a w ⟨s3450, v3435, h3436, v3441, h3442, f, rfl, rfl, q3428, q3429, q3430, q3431, q3432, q3438, q3444, q3446, q3448, q3449, H3437, H3443, hm3537⟩
       replace he := goE hk3452
       refine wp_region_lit ?_
       refine s_val (v := (.int .i64 s3144)) (won rfl) rfl rfl (x_move rfl (ev (t := 18) (v := (.int .i64 s3144)) rfl q3449)) ?_
       refine s_val (v := (.int .i64 (IntKind.wrap .i64 (s3144 + 1)))) (won rfl) rfl rfl (x_add rfl (ev (t := 93) rfl rfl) rfl) ?_
       refine s_val (v := (.int .i64 (IntKind.wrap .i64 (s3144 + 1)))) (won rfl) rfl rfl (x_assign rfl (ev (t := 94) rfl rfl)) ?_
       refine wpList_nil ?_
       refine nx ?_
       exact ⟨s3450.1, s3450.2.1, s3450.2.2.1, s3450.2.2.2, (IntKind.wrap .i64 (s3144 + 1)), v3435, h3436, v3441, h3442, _, he, rfl, q3428, q3429, q3430, q3431, q3432, q3438, q3444, q3446, q3448, rfl, H3437, H3443, Mem.pick [0, 1, 2, 3, 4, 5, 6, 7, 8] rfl hm3537⟩
     ·
      replace he := bifF he hb3345
      refine c_false rfl (p := (decide (s3144 < (r1787.length : Int)))) rfl rfl hb3345 ?_
      refine wp_exit ?_
      refine xs ?_
      refine xs ?_
      refine xb ?_
      refine nx ?_
      obtain rfl := Option.some.inj he
      exact ⟨(s3130, s3135, s3140, s3142), v3131, h3132, v3136, h3137, _, rfl, rfl, q3125, q3127, q3134, q3139, q3141, q3143, H3133, H3138, Mem.pick [0, 2, 3, 6, 7, 8] rfl hm3343⟩
   ·
    rintro a w ⟨s2706, v2693, h2694, v2698, h2699, f, rfl, rfl, q2690, q2691, q2696, q2701, q2703, q2705, H2695, H2700, hm3539⟩
    replace he := goE hk2708
    refine wp_seq ?_
    obtain ⟨hg3541, he⟩ := gdE he
    obtain ⟨hg3547, he⟩ := gdE he
    refine wp_fit [(0, 1), (1, 1), (2, 1), (4, 0), (5, 0), (3, 2), (6, 2), (7, 1)] (fun w' => Mem w0 w' (cat [sg g1811 65 (0, 0) [] [(.int .i64 r1794.1.Size), (.bool r1794.1.Up), v1796, v1800, (.int .i64 r1794.1.Lost), (.int .i64 r1794.1.Pending), (.int .i64 r1794.1.Every), (.int .i64 r1794.1.Signals)] [], h1798, h1802, h2694, hF])) mixed (by kernel_rfl) (Mem.drew (Mem.pick [0, 1, 2, 3, 5] rfl hm3539)) ?_
    have hm3540 := Mem.drew hm3539
    refine z_r (v := v2698) rfl (won rfl) rfl rfl ((x_move rfl (ev (t := 15) (v := v2698) rfl q2701))) ?_
    refine z_r (v := (.pointer (some ⟨g1811, 3, none⟩))) rfl (won rfl) rfl rfl ((x_field rfl fa_65x3 (ev (t := 8) (v := (.pointer (some ⟨g1811, 0, none⟩))) rfl q2691))) ?_
    refine z_r (v := v1800) rfl (won rfl) rfl rfl ((x_load rfl ty1x26 (ev (t := 158) rfl rfl) (seg_cell (o' := 0) (j := 3) hm3540 (k := 0) rfl rfl rfl))) ?_
    refine z_q (v := (.pointer (some ⟨g1811, 2, none⟩))) rfl (won rfl) rfl rfl (fun wq hq => (x_field rfl fa_65x2 (ev (t := 8) (v := (.pointer (some ⟨g1811, 0, none⟩))) rfl q2691))) ?_
    refine z_q (v := v1796) rfl (won rfl) rfl rfl (fun wq hq => (x_load rfl ty1x26 (ev (t := 161) rfl rfl) (seg_cell (o' := 0) (j := 2) hq (k := 0) rfl rfl rfl))) ?_
    refine z_exv rfl (won rfl) rfl rfl (e_append (bytes := 8) rfl slt_26 rfl (ev (t := 157) rfl rfl) (ev (t := 159) rfl rfl) H2700 (k := 4) rfl (H1801.rd w0) (Sub.at_ (k := 2) rfl) hm3540 hg3541 (len63 hg3541 rfl)) ?_
    rintro p3543 w3545 ⟨H3544, hm3546⟩
    replace hm3546 : Mem w0 w3545 (cat [sg g1811 65 (0, 0) [] [(.int .i64 r1794.1.Size), (.bool r1794.1.Up), v1796, v1800, (.int .i64 r1794.1.Lost), (.int .i64 r1794.1.Pending), (.int .i64 r1794.1.Every), (.int .i64 r1794.1.Signals)] [], h1798, h1802, h2694, p3543.2, hF]) := hm3546
    refine ⟨Mem.pick [0, 1, 2, 3, 5] rfl hm3546, ?_⟩
    refine z_exv rfl (won rfl) rfl rfl (e_append (bytes := 8) rfl slt_26 rfl (ev (t := 160) rfl rfl) (ev (t := 162) rfl rfl) H3544 (k := 4) rfl (H1797.rd w0) (Sub.at_ (k := 1) rfl) hm3546 hg3547 (len63 hg3547 rfl)) ?_
    rintro p3549 w3551 ⟨H3550, hm3552⟩
    replace hm3552 : Mem w0 w3551 (cat [sg g1811 65 (0, 0) [] [(.int .i64 r1794.1.Size), (.bool r1794.1.Up), v1796, v1800, (.int .i64 r1794.1.Lost), (.int .i64 r1794.1.Pending), (.int .i64 r1794.1.Every), (.int .i64 r1794.1.Signals)] [], h1798, h1802, h2694, p3549.2, hF]) := hm3552
    refine ⟨Mem.pick [0, 1, 2, 3, 5] rfl hm3552, ?_⟩
    refine z_r (v := p3549.1) rfl (won rfl) rfl rfl ((x_assign rfl (ev (t := 163) rfl rfl))) ?_
    refine z_nil ?_
    refine nx ?_
    refine wp_seq ?_
    obtain ⟨r3553, hr3553, he⟩ := bindE he
    refine wp_region_lit ?_
    refine s_val (v := v2693) (won rfl) rfl rfl (x_move rfl (ev (t := 14) (v := v2693) rfl q2696)) ?_
    refine s_val (v := p3549.1) (won rfl) rfl rfl (x_move rfl (ev (t := 15) rfl rfl)) ?_
    refine s_call (won rfl) rfl rfl (x_call rfl rfl cl_37 (map_lit (map_cons (ev (t := 164) rfl rfl) (map_cons (ev (t := 165) rfl rfl) map_nil)))) (laws_sameInts_ok F (hR := (cat [h2694, p3549.2])) (hF := cat [sg g1811 65 (0, 0) [] [(.int .i64 r1794.1.Size), (.bool r1794.1.Up), v1796, v1800, (.int .i64 r1794.1.Lost), (.int .i64 r1794.1.Pending), (.int .i64 r1794.1.Every), (.int .i64 r1794.1.Signals)] [], h1798, h1802, h2694, p3549.2, hF]) s2706.1 ((s2706.2.1 ++ r1794.1.Done) ++ r1794.1.Posted) ((H2695.rd w0).mono (Sub.at_ (k := 0) rfl)) ((H3550.rd w0).mono (Sub.at_ (k := 1) rfl)) (subc (Sub.at_ (k := 3) rfl) (subc (Sub.at_ (k := 4) rfl) subn)) (Mem.one hm3552) hr3553) ?_
    rintro e w3554 ⟨rfl, hm3555⟩
    refine ⟨_, rfl, ?_⟩
    replace hm3555 : Mem w0 w3554 (cat [sg g1811 65 (0, 0) [] [(.int .i64 r1794.1.Size), (.bool r1794.1.Up), v1796, v1800, (.int .i64 r1794.1.Lost), (.int .i64 r1794.1.Pending), (.int .i64 r1794.1.Every), (.int .i64 r1794.1.Signals)] [], h1798, h1802, h2694, p3549.2, hF]) := Mem.un hm3555
    refine s_val (v := (.bool r3553)) (won rfl) rfl rfl (x_move rfl (ev (t := 166) rfl rfl)) ?_
    refine s_cval (p := r3553) (v := (.int .i64 s2706.2.2.2)) (won_t (j := 3) (t := 167) (q := r3553) rfl rfl rfl rfl rfl) rfl rfl (fun hp => (x_move rfl (ev (t := 17) (v := (.int .i64 s2706.2.2.2)) rfl q2705))) ?_
    refine s_cval (p := r3553) (v := (.int .i64 s2706.2.2.1)) (won_t (j := 3) (t := 167) (q := r3553) rfl rfl rfl rfl rfl) rfl rfl (fun hp => (x_move rfl (ev (t := 16) (v := (.int .i64 s2706.2.2.1)) rfl q2703))) ?_
    refine s_cval (p := r3553) (v := (.pointer (some ⟨g1811, 4, none⟩))) (won_t (j := 3) (t := 167) (q := r3553) rfl rfl rfl rfl rfl) rfl rfl (fun hp => (x_field rfl fa_65x4 (ev (t := 8) (v := (.pointer (some ⟨g1811, 0, none⟩))) rfl q2691))) ?_
    refine s_cval (p := r3553) (v := (.int .i64 r1794.1.Lost)) (won_t (j := 3) (t := 167) (q := r3553) rfl rfl rfl rfl rfl) rfl rfl (fun hp => (x_load rfl ty1x3 (ev (t := 170) rfl (Eq.trans (b := cv r3553 (.pointer (some ⟨g1811, 4, none⟩))) rfl (on_c hp))) (seg_cell (o' := 0) (j := 4) hm3555 (k := 0) rfl rfl rfl))) ?_
    refine s_cval (p := r3553) (v := (.int .i64 (IntKind.wrap .i64 (s2706.2.2.1 + r1794.1.Lost)))) (won_t (j := 3) (t := 167) (q := r3553) rfl rfl rfl rfl rfl) rfl rfl (fun hp => (x_add rfl (ev (t := 169) rfl (Eq.trans (b := cv r3553 (.int .i64 s2706.2.2.1)) rfl (on_c hp))) (ev (t := 171) rfl (Eq.trans (b := cv r3553 (.int .i64 r1794.1.Lost)) rfl (on_c hp))))) ?_
    refine s_cval (p := r3553) (v := (.bool (decide (s2706.2.2.2 = (IntKind.wrap .i64 (s2706.2.2.1 + r1794.1.Lost)))))) (won_t (j := 3) (t := 167) (q := r3553) rfl rfl rfl rfl rfl) rfl rfl (fun hp => (x_eql rfl (ev (t := 168) rfl (Eq.trans (b := cv r3553 (.int .i64 s2706.2.2.2)) rfl (on_c hp))) (ev (t := 172) rfl (Eq.trans (b := cv r3553 (.int .i64 (IntKind.wrap .i64 (s2706.2.2.1 + r1794.1.Lost)))) rfl (on_c hp))))) ?_
    refine s_val (v := (.bool (r3553 && (decide (s2706.2.2.2 = (IntKind.wrap .i64 (s2706.2.2.1 + r1794.1.Lost))))))) (won rfl) rfl rfl (x_pick_and rfl (ev (t := 167) rfl rfl) (fun hq => ev rfl (Eq.trans (b := cv r3553 (.bool (decide (s2706.2.2.2 = (IntKind.wrap .i64 (s2706.2.2.1 + r1794.1.Lost)))))) rfl (on_c hq))) rfl) ?_
    refine s_val (v := (.bool (r3553 && (decide (s2706.2.2.2 = (IntKind.wrap .i64 (s2706.2.2.1 + r1794.1.Lost))))))) (won rfl) rfl rfl (x_move rfl (ev (t := 174) rfl rfl)) ?_
    refine s_cval (p := (r3553 && (decide (s2706.2.2.2 = (IntKind.wrap .i64 (s2706.2.2.1 + r1794.1.Lost)))))) (v := (.pointer (some ⟨g1811, 7, none⟩))) (won_t (j := 11) (t := 175) (q := (r3553 && (decide (s2706.2.2.2 = (IntKind.wrap .i64 (s2706.2.2.1 + r1794.1.Lost)))))) rfl rfl rfl rfl rfl) rfl rfl (fun hp => (x_field rfl fa_65x7 (ev (t := 8) (v := (.pointer (some ⟨g1811, 0, none⟩))) rfl q2691))) ?_
    refine s_cval (p := (r3553 && (decide (s2706.2.2.2 = (IntKind.wrap .i64 (s2706.2.2.1 + r1794.1.Lost)))))) (v := (.int .i64 r1794.1.Signals)) (won_t (j := 11) (t := 175) (q := (r3553 && (decide (s2706.2.2.2 = (IntKind.wrap .i64 (s2706.2.2.1 + r1794.1.Lost)))))) rfl rfl rfl rfl rfl) rfl rfl (fun hp => (x_load rfl ty1x3 (ev (t := 176) rfl (Eq.trans (b := cv (r3553 && (decide (s2706.2.2.2 = (IntKind.wrap .i64 (s2706.2.2.1 + r1794.1.Lost))))) (.pointer (some ⟨g1811, 7, none⟩))) rfl (on_c hp))) (seg_cell (o' := 0) (j := 7) hm3555 (k := 0) rfl rfl rfl))) ?_
    refine s_cval (p := (r3553 && (decide (s2706.2.2.2 = (IntKind.wrap .i64 (s2706.2.2.1 + r1794.1.Lost)))))) (v := (.int .i64 (IntKind.wrap .i64 (1 + r1784)))) (won_t (j := 11) (t := 175) (q := (r3553 && (decide (s2706.2.2.2 = (IntKind.wrap .i64 (s2706.2.2.1 + r1794.1.Lost)))))) rfl rfl rfl rfl rfl) rfl rfl (fun hp => (x_move rfl (ev (t := 6) (v := (.int .i64 (IntKind.wrap .i64 (1 + r1784)))) rfl q2690))) ?_
    refine s_cval (p := (r3553 && (decide (s2706.2.2.2 = (IntKind.wrap .i64 (s2706.2.2.1 + r1794.1.Lost)))))) (v := (.int .i64 (IntKind.wrap .i64 (r1794.1.Signals * (IntKind.wrap .i64 (1 + r1784)))))) (won_t (j := 11) (t := 175) (q := (r3553 && (decide (s2706.2.2.2 = (IntKind.wrap .i64 (s2706.2.2.1 + r1794.1.Lost)))))) rfl rfl rfl rfl rfl) rfl rfl (fun hp => (x_mul rfl (ev (t := 177) rfl (Eq.trans (b := cv (r3553 && (decide (s2706.2.2.2 = (IntKind.wrap .i64 (s2706.2.2.1 + r1794.1.Lost))))) (.int .i64 r1794.1.Signals)) rfl (on_c hp))) (ev (t := 178) rfl (Eq.trans (b := cv (r3553 && (decide (s2706.2.2.2 = (IntKind.wrap .i64 (s2706.2.2.1 + r1794.1.Lost))))) (.int .i64 (IntKind.wrap .i64 (1 + r1784)))) rfl (on_c hp))))) ?_
    refine s_cval (p := (r3553 && (decide (s2706.2.2.2 = (IntKind.wrap .i64 (s2706.2.2.1 + r1794.1.Lost)))))) (v := (.int .i64 s2706.2.2.1)) (won_t (j := 11) (t := 175) (q := (r3553 && (decide (s2706.2.2.2 = (IntKind.wrap .i64 (s2706.2.2.1 + r1794.1.Lost)))))) rfl rfl rfl rfl rfl) rfl rfl (fun hp => (x_move rfl (ev (t := 16) (v := (.int .i64 s2706.2.2.1)) rfl q2703))) ?_
    refine s_cval (p := (r3553 && (decide (s2706.2.2.2 = (IntKind.wrap .i64 (s2706.2.2.1 + r1794.1.Lost)))))) (v := (.bool (decide ((IntKind.wrap .i64 (r1794.1.Signals * (IntKind.wrap .i64 (1 + r1784)))) ≤ s2706.2.2.1)))) (won_t (j := 11) (t := 175) (q := (r3553 && (decide (s2706.2.2.2 = (IntKind.wrap .i64 (s2706.2.2.1 + r1794.1.Lost)))))) rfl rfl rfl rfl rfl) rfl rfl (fun hp => (x_leq rfl (ev (t := 179) rfl (Eq.trans (b := cv (r3553 && (decide (s2706.2.2.2 = (IntKind.wrap .i64 (s2706.2.2.1 + r1794.1.Lost))))) (.int .i64 (IntKind.wrap .i64 (r1794.1.Signals * (IntKind.wrap .i64 (1 + r1784)))))) rfl (on_c hp))) (ev (t := 180) rfl (Eq.trans (b := cv (r3553 && (decide (s2706.2.2.2 = (IntKind.wrap .i64 (s2706.2.2.1 + r1794.1.Lost))))) (.int .i64 s2706.2.2.1)) rfl (on_c hp))))) ?_
    refine s_val (v := (.bool ((r3553 && (decide (s2706.2.2.2 = (IntKind.wrap .i64 (s2706.2.2.1 + r1794.1.Lost))))) && (decide ((IntKind.wrap .i64 (r1794.1.Signals * (IntKind.wrap .i64 (1 + r1784)))) ≤ s2706.2.2.1))))) (won rfl) rfl rfl (x_pick_and rfl (ev (t := 175) rfl rfl) (fun hq => ev rfl (Eq.trans (b := cv (r3553 && (decide (s2706.2.2.2 = (IntKind.wrap .i64 (s2706.2.2.1 + r1794.1.Lost))))) (.bool (decide ((IntKind.wrap .i64 (r1794.1.Signals * (IntKind.wrap .i64 (1 + r1784)))) ≤ s2706.2.2.1)))) rfl (on_c hq))) rfl) ?_
    refine s_val (v := (.bool ((r3553 && (decide (s2706.2.2.2 = (IntKind.wrap .i64 (s2706.2.2.1 + r1794.1.Lost))))) && (decide ((IntKind.wrap .i64 (r1794.1.Signals * (IntKind.wrap .i64 (1 + r1784)))) ≤ s2706.2.2.1))))) (won rfl) rfl rfl (x_assign rfl (ev (t := 182) rfl rfl)) ?_
    refine wpList_nil ?_
    have hm3556 : Mem w0 w3554 (cat [hF]) := Mem.pick [5] rfl hm3555
    refine nx ?_
    refine wp_ret ?_
    obtain rfl := Option.some.inj he
    refine r_ret (v := (.bool ((r3553 && (decide (s2706.2.2.2 = (IntKind.wrap .i64 (s2706.2.2.1 + r1794.1.Lost))))) && (decide ((IntKind.wrap .i64 (r1794.1.Signals * (IntKind.wrap .i64 (1 + r1784)))) ≤ s2706.2.2.1))))) (rv_one rfl (RVs.tmp (v := (.bool ((r3553 && (decide (s2706.2.2.2 = (IntKind.wrap .i64 (s2706.2.2.1 + r1794.1.Lost))))) && (decide ((IntKind.wrap .i64 (r1794.1.Signals * (IntKind.wrap .i64 (1 + r1784)))) ≤ s2706.2.2.1))))) rfl rfl RVs.nil)) rfl ?_
    exact ⟨rfl, Mem.pick [0] rfl hm3556⟩
end Go.Proofs.Ytpkdolmbhfmjcaa.FnRing
