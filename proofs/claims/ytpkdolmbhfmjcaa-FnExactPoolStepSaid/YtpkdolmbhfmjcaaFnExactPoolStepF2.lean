/- What functions of the program compute, and their walks: printed. -/
import Derived.Test.YtpkdolmbhfmjcaaFnExactPoolStepT
import Derived.Test.YtpkdolmbhfmjcaaFnExactPoolStepF0
import Derived.Test.YtpkdolmbhfmjcaaFnExactPoolStepF1
set_option linter.unusedVariables false
set_option linter.unusedSimpArgs false
set_option linter.unusedSectionVars false
namespace Go.Proofs.Ytpkdolmbhfmjcaa.FnExactPoolStep
open Go.RowKit Go.Proofs.Gw
attribute [local irreducible] wpList DG wpQuiet wl
def laws_FnExactPoolStep (F : Nat) (a0 : impl_Pool) (a1 : impl_PoolAct) : Option (Bool) := (laws_szPool a0 1048576).bind fun r6488 => (bif (decide (r6488 < 0)) then (some true) else (laws_toPool F a0).bind fun r7101 => (laws_toPoolAct a1).bind fun r7301 => (spec_PoolStep F r7101 r7301).bind fun r7401 => (laws_toPool F a0).bind fun r8454 => (laws_toPoolAct a1).bind fun r9201 => (impl_PoolStep F r8454 r9201).bind fun r9301 => (laws_eqPool F r9301.1 r7401.1).bind fun r10358 => (bif (!(!r10358)) then laws_eqPoolReply r9301.2.1 r7401.2.1 else some false).bind fun r10361 => (bif (((!r10358) || (!r10361)) || (!decide (r9301.2.2 = r7401.2.2))) then (some false) else (laws_toPool F a0).bind fun r10385 => (laws_eqPool F r8454 r10385).bind fun r10396 => (bif (!r10396) then (some false) else (laws_markPool F r8454 1).bind fun r10402 => (bif (!(decide (r10402.1 < 0))) then laws_eqPool F r9301.1 r7401.1 else some false).bind fun r10419 => (bif (!((decide (r10402.1 < 0)) || (!r10419))) then laws_eqPoolReply r9301.2.1 r7401.2.1 else some false).bind fun r10422 => (bif ((((decide (r10402.1 < 0)) || (!r10419)) || (!r10422)) || (!decide (r9301.2.2 = r7401.2.2))) then (some false) else (laws_markPool F r9301.1 1).bind fun r10428 => (laws_heldPool F (impl_Pool.mk r10428.2.1 r10428.2.2) 1).bind fun r10435 => (bif (decide (r10435 < 0)) then (some false) else (bif (!decide (r10435 = r10428.1)) then (some false) else (laws_toPool F a0).bind fun r11101 => (laws_toPoolAct a1).bind fun r11301 => (impl_PoolStep F r11101 r11301).bind fun r11401 => (laws_eqPool F r11401.1 r7401.1).bind fun r12463 => (bif (!(!r12463)) then laws_eqPoolReply r11401.2.1 r7401.2.1 else some false).bind fun r12466 => (bif (((!r12463) || (!r12466)) || (!decide (r11401.2.2 = r7401.2.2))) then (some false) else (laws_heldPool F (impl_Pool.mk r10428.2.1 r10428.2.2) 1).bind fun r12472 => (bif (decide (r12472 < 0)) then (some false) else (bif (!decide (r12472 = r10428.1)) then (some false) else (some true))))))))))
set_option maxHeartbeats 400000 in
set_option maxRecDepth 100000 in
theorem laws_FnExactPoolStep_ok (F : Nat) {w0 w : World} {hR hF : Hp} {v0x0 : Value} {v0x1 : Value} (a0 : impl_Pool) (a1 : impl_PoolAct) {r : (Bool)} (H0x0 : RdF w0 (FK.int .i64) v0x0 a0.Free hR) (H0x1 : RdF w0 (FK.int .i64) v0x1 a0.Owner hR) (hs : Sub hR hF) (hm : Mem w0 w (cat [hF])) (he : laws_FnExactPoolStep F a0 a1 = some r) :
    Calls Try.prog 4 #[(.agg #[v0x0, v0x1]), (.agg #[(.int .i64 a1.Kind), (.int .i64 a1.Owner), (.int .i64 a1.To), (.int .i64 a1.Buffer)])] w (fun e w' => e = .returned (.bool r) ∧ Mem w0 w' (cat [hF])) := by
 refine calls_fr (n := 128) Try.func4 rfl rfl rfl ?_
 unfold laws_FnExactPoolStep at he
 refine wp_seq ?_
 refine wp_region_lit ?_
 refine s_exv (won rfl) rfl rfl (e_box (vs := [v0x0, v0x1]) rfl (ev (t := 0) rfl rfl) rfl hm) ?_
 rintro g6480 w6481 hm6482
 refine s_exv (won rfl) rfl rfl (e_box (vs := [(.int .i64 a1.Kind), (.int .i64 a1.Owner), (.int .i64 a1.To), (.int .i64 a1.Buffer)]) rfl (ev (t := 1) rfl rfl) rfl hm6482) ?_
 rintro g6484 w6485 hm6486
 refine s_val (v := (.bool false)) (won rfl) rfl rfl (x_assign rfl rfl) ?_
 refine wpList_nil ?_
 refine nx ?_
 refine wp_seq ?_
 refine wp_region_lit ?_
 refine s_val (v := (.int .i64 1048576)) (won rfl) rfl rfl (x_assign rfl rfl) ?_
 refine wpList_nil ?_
 refine nx ?_
 refine wp_seq ?_
 obtain ⟨r6488, hr6488, he⟩ := bindE he
 refine wp_region_lit ?_
 refine s_val (v := (.agg #[v0x0, v0x1])) (won rfl) rfl rfl (x_loadN (vs := [v0x0, v0x1]) rfl tyN_45 (ev (t := 2) rfl rfl) (seg_cells (o' := 0) (j := 0) hm6486 (k := 1) rfl rfl rfl)) ?_
 refine s_val (v := (.int .i64 1048576)) (won rfl) rfl rfl (x_move rfl (ev (t := 5) rfl rfl)) ?_
 refine s_call (won rfl) rfl rfl (x_call rfl rfl cl_18 (map_lit (map_cons (ev (t := 19) rfl rfl) (map_cons (ev (t := 20) rfl rfl) map_nil)))) (laws_szPool_ok (hR := (cat [hR])) (hF := cat [sg g6484 46 (0, 0) [] [(.int .i64 a1.Kind), (.int .i64 a1.Owner), (.int .i64 a1.To), (.int .i64 a1.Buffer)] [], sg g6480 45 (0, 0) [] [v0x0, v0x1] [], hF]) a0 1048576 (H0x0.mono (Sub.at_ (k := 0) rfl)) (H0x1.mono (Sub.at_ (k := 0) rfl)) (subc (Sub.trans hs (Sub.at_ (k := 2) rfl)) subn) (Mem.one hm6486) hr6488) ?_
 rintro e w6489 ⟨rfl, hm6490⟩
 refine ⟨_, rfl, ?_⟩
 replace hm6490 : Mem w0 w6489 (cat [sg g6484 46 (0, 0) [] [(.int .i64 a1.Kind), (.int .i64 a1.Owner), (.int .i64 a1.To), (.int .i64 a1.Buffer)] [], sg g6480 45 (0, 0) [] [v0x0, v0x1] [], hF]) := Mem.un hm6490
 refine s_val (v := (.int .i64 r6488)) (won rfl) rfl rfl (x_assign rfl (ev (t := 21) rfl rfl)) ?_
 refine wpList_nil ?_
 refine nx ?_
 refine wp_seq ?_
 refine wp_seq ?_
 refine wp_region_lit ?_
 refine s_val (v := (.int .i64 r6488)) (won rfl) rfl rfl (x_move rfl (ev (t := 5) rfl rfl)) ?_
 refine s_val (v := (.bool (decide (r6488 < 0)))) (won rfl) rfl rfl (x_lss rfl (ev (t := 22) rfl rfl) rfl) ?_
 refine wpList_nil ?_
 refine nx ?_
 rcases Bool.eq_false_or_eq_true ((decide (r6488 < 0))) with hb6493 | hb6493
 ·
  replace he := bifT he hb6493
  refine c_true rfl (p := (decide (r6488 < 0))) rfl rfl hb6493 ?_
  refine wp_seq ?_
  refine wp_region_lit ?_
  refine s_val (v := (.bool true)) (won rfl) rfl rfl (x_assign rfl rfl) ?_
  refine wpList_nil ?_
  have hm6494 : Mem w0 w6489 (cat [hF]) := Mem.pick [2] rfl hm6490
  refine nx ?_
  refine wp_ret ?_
  refine xr ?_
  obtain rfl := Option.some.inj he
  refine r_ret (v := (.bool true)) (rv_one rfl (RVs.tmp (v := (.bool true)) rfl rfl RVs.nil)) rfl ?_
  exact ⟨rfl, Mem.pick [0] rfl hm6494⟩
 ·
  replace he := bifF he hb6493
  refine c_false rfl (p := (decide (r6488 < 0))) rfl rfl hb6493 ?_
  refine wp_skip ?_
  refine nx ?_
  refine wp_seq ?_
  obtain ⟨r7101, hr7101, he⟩ := bindE he
  obtain ⟨r7301, hr7301, he⟩ := bindE he
  obtain ⟨r7401, hr7401, he⟩ := bindE he
  refine wp_drawF (I := fun f b a w => ∃ (vs : Nat → Value) (v7103 : Value) (h7105 : Hp) (v7107 : Value) (h7109 : Hp) (v7403 : Value) (h7405 : Hp) (v7407 : Value) (h7409 : Hp) (g7903 : Nat) (g8001 : Nat), a = fr 128 (sel b [(0, 25), (1, 26), (2, 27), (3, 28), (4, 29), (5, 24), (6, 30), (7, 31), (8, 32), (9, 6), (10, 7), (13, 8)] vs f) ∧ (b 0 = true → vs 0 = (.agg #[v0x0, v0x1])) ∧ (b 1 = true → vs 1 = (.agg #[v7103, v7107])) ∧ (b 2 = true → vs 2 = (.agg #[(.int .i64 a1.Kind), (.int .i64 a1.Owner), (.int .i64 a1.To), (.int .i64 a1.Buffer)])) ∧ (b 3 = true → vs 3 = (.agg #[(.int .i64 r7301.Kind), (.int .i64 r7301.Owner), (.int .i64 r7301.To), (.int .i64 r7301.Buffer)])) ∧ (b 4 = true → vs 4 = (.tuple #[(.agg #[v7403, v7407]), (.agg #[(.int .i64 r7401.2.1.Code), (.int .i64 r7401.2.1.Buffer)]), (.int .i64 r7401.2.2)])) ∧ (b 5 = true → vs 5 = (.tuple #[(.agg #[v7403, v7407]), (.agg #[(.int .i64 r7401.2.1.Code), (.int .i64 r7401.2.1.Buffer)]), (.int .i64 r7401.2.2)])) ∧ (b 6 = true → vs 6 = (.agg #[v7403, v7407])) ∧ (b 7 = true → vs 7 = (.agg #[(.int .i64 r7401.2.1.Code), (.int .i64 r7401.2.1.Buffer)])) ∧ (b 8 = true → vs 8 = (.int .i64 r7401.2.2)) ∧ (b 9 = true → vs 9 = (.pointer (some ⟨g7903, 0, none⟩))) ∧ (b 10 = true → vs 10 = (.pointer (some ⟨g8001, 0, none⟩))) ∧ (b 13 = true → vs 13 = (.int .i64 r7401.2.2)) ∧ (b 1 = true → OwF 3 (FK.int .i64) v7103 r7101.Free h7105) ∧ (b 1 = true → OwF 3 (FK.int .i64) v7107 r7101.Owner h7109) ∧ (b 4 = true → OwF 3 (FK.int .i64) v7403 r7401.1.Free h7405) ∧ (b 4 = true → OwF 3 (FK.int .i64) v7407 r7401.1.Owner h7409) ∧ Mem w0 w (cat [sg g6484 46 (0, 0) [] [(.int .i64 a1.Kind), (.int .i64 a1.Owner), (.int .i64 a1.To), (.int .i64 a1.Buffer)] [], sg g6480 45 (0, 0) [] [v0x0, v0x1] [], hF, (bif b 1 then h7105 else []), (bif b 1 then h7109 else []), (bif b 4 then h7405 else []), (bif b 4 then h7409 else []), (bif b 11 then sg g7903 28 (0, 0) [] [v7403, v7407] [] else (bif b 9 then sg g7903 28 (0, 0) [] [(.slice none 0 0), (.slice none 0 0)] [] else [])), (bif b 12 then sg g8001 35 (0, 0) [] [(.int .i64 r7401.2.1.Code), (.int .i64 r7401.2.1.Buffer)] [] else (bif b 10 then sg g8001 35 (0, 0) [] [(.int .i64 0), (.int .i64 0)] [] else []))])) mixed (by kernel_rfl) ⟨fun _ => undef, undef, [], undef, [], undef, [], undef, [], 0, 0, (by rw [sel_false]), fun h => fno h, fun h => fno h, fun h => fno h, fun h => fno h, fun h => fno h, fun h => fno h, fun h => fno h, fun h => fno h, fun h => fno h, fun h => fno h, fun h => fno h, fun h => fno h, fun h => fno h, fun h => fno h, fun h => fno h, fun h => fno h, Mem.drew (Mem.pick [0, 1, 2, 1000, 1001, 1002, 1003, 1004, 1005] rfl hm6490)⟩ (steps_cons (i := 0) ?_ (steps_cons (i := 1) ?_ (steps_cons (i := 2) ?_ (steps_cons (i := 3) ?_ (steps_cons (i := 4) ?_ (steps_cons (i := 5) ?_ (steps_cons (i := 6) ?_ (steps_cons (i := 7) ?_ (steps_cons (i := 8) ?_ (steps_cons (i := 9) ?_ (steps_cons (i := 10) ?_ (steps_cons (i := 11) ?_ (steps_cons (i := 12) ?_ (steps_cons (i := 13) ?_ steps_nil)))))))))))))) ?_
  ·
   intro b a w hI hbi hn hc K hK
   obtain ⟨vs, v7103, h7105, v7107, h7109, v7403, h7405, v7407, h7409, g7903, g8001, ha, y0, y1, y2, y3, y4, y5, y6, y7, y8, y9, y10, y13, H7104, H7108, H7404, H7408, hm⟩ := hI
   subst ha
   have b1 : b 1 = false := later (j := 1) hc rfl (i := 0) (da rfl) hbi
   have b3 : b 3 = false := later (j := 3) hc rfl (i := 1) (da rfl) b1
   have b4 : b 4 = false := later (j := 4) hc rfl (i := 1) (da rfl) b1
   have b5 : b 5 = false := later (j := 5) hc rfl (i := 4) (da rfl) b4
   have b6 : b 6 = false := later (j := 6) hc rfl (i := 5) (da rfl) b5
   have b7 : b 7 = false := later (j := 7) hc rfl (i := 5) (da rfl) b5
   have b8 : b 8 = false := later (j := 8) hc rfl (i := 5) (da rfl) b5
   have b11 : b 11 = false := later (j := 11) hc rfl (i := 0) (da rfl) hbi
   have b12 : b 12 = false := later (j := 12) hc rfl (i := 0) (da rfl) hbi
   have b13 : b 13 = false := later (j := 13) hc rfl (i := 0) (da rfl) hbi
   have hm8401 : Mem w0 w (cat [sg g6484 46 (0, 0) [] [(.int .i64 a1.Kind), (.int .i64 a1.Owner), (.int .i64 a1.To), (.int .i64 a1.Buffer)] [], sg g6480 45 (0, 0) [] [v0x0, v0x1] [], hF, (bif b 9 then sg g7903 28 (0, 0) [] [(.slice none 0 0), (.slice none 0 0)] [] else []), (bif b 10 then sg g8001 35 (0, 0) [] [(.int .i64 0), (.int .i64 0)] [] else [])]) := Mem.pick [0, 1, 2, 7, 8] rfl (Mem.cg (B := [sg g6484 46 (0, 0) [] [(.int .i64 a1.Kind), (.int .i64 a1.Owner), (.int .i64 a1.To), (.int .i64 a1.Buffer)] [], sg g6480 45 (0, 0) [] [v0x0, v0x1] [], hF, [], [], [], [], (bif b 9 then sg g7903 28 (0, 0) [] [(.slice none 0 0), (.slice none 0 0)] [] else []), (bif b 10 then sg g8001 35 (0, 0) [] [(.int .i64 0), (.int .i64 0)] [] else [])]) (cat_cons rfl (cat_cons rfl (cat_cons rfl (cat_cons (off_ b1 rfl) (cat_cons (off_ b1 rfl) (cat_cons (off_ b4 rfl) (cat_cons (off_ b4 rfl) (cat_cons (off_ b11 rfl) (cat_cons (off_ b12 rfl) rfl))))))))) hm)
   refine e_val (i := 0) hbi rfl rfl (v := (.agg #[v0x0, v0x1])) (won rfl) rfl rfl (x_loadN (vs := [v0x0, v0x1]) rfl tyN_45 (ev (t := 2) (v := (.pointer (some ⟨g6480, 0, none⟩))) rfl ((sel_no rfl).trans rfl)) (seg_cells (o' := 0) (j := 0) hm8401 (k := 1) rfl rfl rfl)) ?_
   exact hK _ _ ⟨_, v7103, h7105, v7107, h7109, v7403, h7405, v7407, h7409, g7903, g8001, rfl, fun _ => rfl, y1, y2, y3, y4, y5, y6, y7, y8, y9, y10, y13, H7104, H7108, H7404, H7408, Mem.gc (A := [sg g6484 46 (0, 0) [] [(.int .i64 a1.Kind), (.int .i64 a1.Owner), (.int .i64 a1.To), (.int .i64 a1.Buffer)] [], sg g6480 45 (0, 0) [] [v0x0, v0x1] [], hF, [], [], [], [], (bif b 9 then sg g7903 28 (0, 0) [] [(.slice none 0 0), (.slice none 0 0)] [] else []), (bif b 10 then sg g8001 35 (0, 0) [] [(.int .i64 0), (.int .i64 0)] [] else [])]) (cat_cons rfl (cat_cons rfl (cat_cons rfl (cat_cons (off_ b1 rfl) (cat_cons (off_ b1 rfl) (cat_cons (off_ b4 rfl) (cat_cons (off_ b4 rfl) (cat_cons (off_ b11 rfl) (cat_cons (off_ b12 rfl) rfl))))))))) (Mem.pick [0, 1, 2, 1003, 1004, 1005, 1006, 3, 4] rfl hm8401)⟩
  ·
   intro b a w hI hbi hn hc K hK
   obtain ⟨vs, v7103, h7105, v7107, h7109, v7403, h7405, v7407, h7409, g7903, g8001, ha, y0, y1, y2, y3, y4, y5, y6, y7, y8, y9, y10, y13, H7104, H7108, H7404, H7408, hm⟩ := hI
   subst ha
   have b0 : b 0 = true := hn 0 (da rfl)
   have b3 : b 3 = false := later (j := 3) hc rfl (i := 1) (da rfl) hbi
   have b4 : b 4 = false := later (j := 4) hc rfl (i := 1) (da rfl) hbi
   have b5 : b 5 = false := later (j := 5) hc rfl (i := 4) (da rfl) b4
   have b6 : b 6 = false := later (j := 6) hc rfl (i := 5) (da rfl) b5
   have b7 : b 7 = false := later (j := 7) hc rfl (i := 5) (da rfl) b5
   have b8 : b 8 = false := later (j := 8) hc rfl (i := 5) (da rfl) b5
   have b11 : b 11 = false := later (j := 11) hc rfl (i := 1) (da rfl) hbi
   have b12 : b 12 = false := later (j := 12) hc rfl (i := 1) (da rfl) hbi
   have b13 : b 13 = false := later (j := 13) hc rfl (i := 1) (da rfl) hbi
   have hm8404 : Mem w0 w (cat [sg g6484 46 (0, 0) [] [(.int .i64 a1.Kind), (.int .i64 a1.Owner), (.int .i64 a1.To), (.int .i64 a1.Buffer)] [], sg g6480 45 (0, 0) [] [v0x0, v0x1] [], hF, (bif b 9 then sg g7903 28 (0, 0) [] [(.slice none 0 0), (.slice none 0 0)] [] else []), (bif b 10 then sg g8001 35 (0, 0) [] [(.int .i64 0), (.int .i64 0)] [] else [])]) := Mem.pick [0, 1, 2, 7, 8] rfl (Mem.cg (B := [sg g6484 46 (0, 0) [] [(.int .i64 a1.Kind), (.int .i64 a1.Owner), (.int .i64 a1.To), (.int .i64 a1.Buffer)] [], sg g6480 45 (0, 0) [] [v0x0, v0x1] [], hF, [], [], [], [], (bif b 9 then sg g7903 28 (0, 0) [] [(.slice none 0 0), (.slice none 0 0)] [] else []), (bif b 10 then sg g8001 35 (0, 0) [] [(.int .i64 0), (.int .i64 0)] [] else [])]) (cat_cons rfl (cat_cons rfl (cat_cons rfl (cat_cons (off_ hbi rfl) (cat_cons (off_ hbi rfl) (cat_cons (off_ b4 rfl) (cat_cons (off_ b4 rfl) (cat_cons (off_ b11 rfl) (cat_cons (off_ b12 rfl) rfl))))))))) hm)
   refine e_call (i := 1) hbi rfl rfl (won rfl) rfl rfl (x_call rfl rfl cl_20 (map_lit (map_cons (ev (t := 25) (v := (.agg #[v0x0, v0x1])) rfl ((sel_on (p := (0, 25)) rfl b0).trans (y0 b0))) map_nil))) (laws_toPool_ok F (hR := (cat [hR])) (hF := cat [sg g6484 46 (0, 0) [] [(.int .i64 a1.Kind), (.int .i64 a1.Owner), (.int .i64 a1.To), (.int .i64 a1.Buffer)] [], sg g6480 45 (0, 0) [] [v0x0, v0x1] [], hF, (bif b 9 then sg g7903 28 (0, 0) [] [(.slice none 0 0), (.slice none 0 0)] [] else []), (bif b 10 then sg g8001 35 (0, 0) [] [(.int .i64 0), (.int .i64 0)] [] else [])]) a0 (H0x0.mono (Sub.at_ (k := 0) rfl)) (H0x1.mono (Sub.at_ (k := 0) rfl)) (subc (Sub.trans hs (Sub.at_ (k := 2) rfl)) subn) (Mem.one hm8404) hr7101) ?_
   rintro e w7110 ⟨v7103, h7105, v7107, h7109, rfl, H7104, H7108, hm7111⟩
   refine ⟨_, rfl, ?_⟩
   replace hm7111 : Mem w0 w7110 (cat [h7105, h7109, sg g6484 46 (0, 0) [] [(.int .i64 a1.Kind), (.int .i64 a1.Owner), (.int .i64 a1.To), (.int .i64 a1.Buffer)] [], sg g6480 45 (0, 0) [] [v0x0, v0x1] [], hF, (bif b 9 then sg g7903 28 (0, 0) [] [(.slice none 0 0), (.slice none 0 0)] [] else []), (bif b 10 then sg g8001 35 (0, 0) [] [(.int .i64 0), (.int .i64 0)] [] else [])]) := Mem.ung [h7105, h7109] [sg g6484 46 (0, 0) [] [(.int .i64 a1.Kind), (.int .i64 a1.Owner), (.int .i64 a1.To), (.int .i64 a1.Buffer)] [], sg g6480 45 (0, 0) [] [v0x0, v0x1] [], hF, (bif b 9 then sg g7903 28 (0, 0) [] [(.slice none 0 0), (.slice none 0 0)] [] else []), (bif b 10 then sg g8001 35 (0, 0) [] [(.int .i64 0), (.int .i64 0)] [] else [])] hm7111
   exact hK _ _ ⟨_, v7103, h7105, v7107, h7109, v7403, h7405, v7407, h7409, g7903, g8001, rfl, y0, fun _ => rfl, y2, y3, y4, y5, y6, y7, y8, y9, y10, y13, fun _ => H7104, fun _ => H7108, H7404, H7408, Mem.gc (A := [sg g6484 46 (0, 0) [] [(.int .i64 a1.Kind), (.int .i64 a1.Owner), (.int .i64 a1.To), (.int .i64 a1.Buffer)] [], sg g6480 45 (0, 0) [] [v0x0, v0x1] [], hF, h7105, h7109, [], [], (bif b 9 then sg g7903 28 (0, 0) [] [(.slice none 0 0), (.slice none 0 0)] [] else []), (bif b 10 then sg g8001 35 (0, 0) [] [(.int .i64 0), (.int .i64 0)] [] else [])]) (cat_cons rfl (cat_cons rfl (cat_cons rfl (cat_cons (on_ rfl rfl) (cat_cons (on_ rfl rfl) (cat_cons (off_ b4 rfl) (cat_cons (off_ b4 rfl) (cat_cons (off_ b11 rfl) (cat_cons (off_ b12 rfl) rfl))))))))) (Mem.pick [2, 3, 4, 0, 1, 1005, 1006, 5, 6] rfl hm7111)⟩
  ·
   intro b a w hI hbi hn hc K hK
   obtain ⟨vs, v7103, h7105, v7107, h7109, v7403, h7405, v7407, h7409, g7903, g8001, ha, y0, y1, y2, y3, y4, y5, y6, y7, y8, y9, y10, y13, H7104, H7108, H7404, H7408, hm⟩ := hI
   subst ha
   have b3 : b 3 = false := later (j := 3) hc rfl (i := 2) (da rfl) hbi
   have b4 : b 4 = false := later (j := 4) hc rfl (i := 3) (da rfl) b3
   have b5 : b 5 = false := later (j := 5) hc rfl (i := 4) (da rfl) b4
   have b6 : b 6 = false := later (j := 6) hc rfl (i := 5) (da rfl) b5
   have b7 : b 7 = false := later (j := 7) hc rfl (i := 5) (da rfl) b5
   have b8 : b 8 = false := later (j := 8) hc rfl (i := 5) (da rfl) b5
   have b11 : b 11 = false := later (j := 11) hc rfl (i := 2) (da rfl) hbi
   have b12 : b 12 = false := later (j := 12) hc rfl (i := 2) (da rfl) hbi
   have b13 : b 13 = false := later (j := 13) hc rfl (i := 2) (da rfl) hbi
   have hm8407 : Mem w0 w (cat [sg g6484 46 (0, 0) [] [(.int .i64 a1.Kind), (.int .i64 a1.Owner), (.int .i64 a1.To), (.int .i64 a1.Buffer)] [], sg g6480 45 (0, 0) [] [v0x0, v0x1] [], hF, (bif b 1 then h7105 else []), (bif b 1 then h7109 else []), (bif b 9 then sg g7903 28 (0, 0) [] [(.slice none 0 0), (.slice none 0 0)] [] else []), (bif b 10 then sg g8001 35 (0, 0) [] [(.int .i64 0), (.int .i64 0)] [] else [])]) := Mem.pick [0, 1, 2, 3, 4, 7, 8] rfl (Mem.cg (B := [sg g6484 46 (0, 0) [] [(.int .i64 a1.Kind), (.int .i64 a1.Owner), (.int .i64 a1.To), (.int .i64 a1.Buffer)] [], sg g6480 45 (0, 0) [] [v0x0, v0x1] [], hF, (bif b 1 then h7105 else []), (bif b 1 then h7109 else []), [], [], (bif b 9 then sg g7903 28 (0, 0) [] [(.slice none 0 0), (.slice none 0 0)] [] else []), (bif b 10 then sg g8001 35 (0, 0) [] [(.int .i64 0), (.int .i64 0)] [] else [])]) (cat_cons rfl (cat_cons rfl (cat_cons rfl (cat_cons rfl (cat_cons rfl (cat_cons (off_ b4 rfl) (cat_cons (off_ b4 rfl) (cat_cons (off_ b11 rfl) (cat_cons (off_ b12 rfl) rfl))))))))) hm)
   refine e_val (i := 2) hbi rfl rfl (v := (.agg #[(.int .i64 a1.Kind), (.int .i64 a1.Owner), (.int .i64 a1.To), (.int .i64 a1.Buffer)])) (won rfl) rfl rfl (x_loadN (vs := [(.int .i64 a1.Kind), (.int .i64 a1.Owner), (.int .i64 a1.To), (.int .i64 a1.Buffer)]) rfl tyN_46 (ev (t := 3) (v := (.pointer (some ⟨g6484, 0, none⟩))) rfl ((sel_no rfl).trans rfl)) (seg_cells (o' := 0) (j := 0) hm8407 (k := 0) rfl rfl rfl)) ?_
   exact hK _ _ ⟨_, v7103, h7105, v7107, h7109, v7403, h7405, v7407, h7409, g7903, g8001, rfl, y0, y1, fun _ => rfl, y3, y4, y5, y6, y7, y8, y9, y10, y13, H7104, H7108, H7404, H7408, Mem.gc (A := [sg g6484 46 (0, 0) [] [(.int .i64 a1.Kind), (.int .i64 a1.Owner), (.int .i64 a1.To), (.int .i64 a1.Buffer)] [], sg g6480 45 (0, 0) [] [v0x0, v0x1] [], hF, (bif b 1 then h7105 else []), (bif b 1 then h7109 else []), [], [], (bif b 9 then sg g7903 28 (0, 0) [] [(.slice none 0 0), (.slice none 0 0)] [] else []), (bif b 10 then sg g8001 35 (0, 0) [] [(.int .i64 0), (.int .i64 0)] [] else [])]) (cat_cons rfl (cat_cons rfl (cat_cons rfl (cat_cons rfl (cat_cons rfl (cat_cons (off_ b4 rfl) (cat_cons (off_ b4 rfl) (cat_cons (off_ b11 rfl) (cat_cons (off_ b12 rfl) rfl))))))))) (Mem.pick [0, 1, 2, 3, 4, 1005, 1006, 5, 6] rfl hm8407)⟩
  ·
   intro b a w hI hbi hn hc K hK
   obtain ⟨vs, v7103, h7105, v7107, h7109, v7403, h7405, v7407, h7409, g7903, g8001, ha, y0, y1, y2, y3, y4, y5, y6, y7, y8, y9, y10, y13, H7104, H7108, H7404, H7408, hm⟩ := hI
   subst ha
   have b1 : b 1 = true := hn 1 (da rfl)
   have b2 : b 2 = true := hn 2 (da rfl)
   have b0 : b 0 = true := hc 1 _ rfl b1 0 (da rfl)
   have b4 : b 4 = false := later (j := 4) hc rfl (i := 3) (da rfl) hbi
   have b5 : b 5 = false := later (j := 5) hc rfl (i := 4) (da rfl) b4
   have b6 : b 6 = false := later (j := 6) hc rfl (i := 5) (da rfl) b5
   have b7 : b 7 = false := later (j := 7) hc rfl (i := 5) (da rfl) b5
   have b8 : b 8 = false := later (j := 8) hc rfl (i := 5) (da rfl) b5
   have b11 : b 11 = false := later (j := 11) hc rfl (i := 3) (da rfl) hbi
   have b12 : b 12 = false := later (j := 12) hc rfl (i := 3) (da rfl) hbi
   have b13 : b 13 = false := later (j := 13) hc rfl (i := 3) (da rfl) hbi
   have H7104 := H7104 b1
   have H7108 := H7108 b1
   have hm8410 : Mem w0 w (cat [sg g6484 46 (0, 0) [] [(.int .i64 a1.Kind), (.int .i64 a1.Owner), (.int .i64 a1.To), (.int .i64 a1.Buffer)] [], sg g6480 45 (0, 0) [] [v0x0, v0x1] [], hF, h7105, h7109, (bif b 9 then sg g7903 28 (0, 0) [] [(.slice none 0 0), (.slice none 0 0)] [] else []), (bif b 10 then sg g8001 35 (0, 0) [] [(.int .i64 0), (.int .i64 0)] [] else [])]) := Mem.pick [0, 1, 2, 3, 4, 7, 8] rfl (Mem.cg (B := [sg g6484 46 (0, 0) [] [(.int .i64 a1.Kind), (.int .i64 a1.Owner), (.int .i64 a1.To), (.int .i64 a1.Buffer)] [], sg g6480 45 (0, 0) [] [v0x0, v0x1] [], hF, h7105, h7109, [], [], (bif b 9 then sg g7903 28 (0, 0) [] [(.slice none 0 0), (.slice none 0 0)] [] else []), (bif b 10 then sg g8001 35 (0, 0) [] [(.int .i64 0), (.int .i64 0)] [] else [])]) (cat_cons rfl (cat_cons rfl (cat_cons rfl (cat_cons (on_ b1 rfl) (cat_cons (on_ b1 rfl) (cat_cons (off_ b4 rfl) (cat_cons (off_ b4 rfl) (cat_cons (off_ b11 rfl) (cat_cons (off_ b12 rfl) rfl))))))))) hm)
   refine e_call (i := 3) hbi rfl rfl (won rfl) rfl rfl (x_call rfl rfl cl_21 (map_lit (map_cons (ev (t := 27) (v := (.agg #[(.int .i64 a1.Kind), (.int .i64 a1.Owner), (.int .i64 a1.To), (.int .i64 a1.Buffer)])) rfl ((sel_on (p := (2, 27)) rfl b2).trans (y2 b2))) map_nil))) (laws_toPoolAct_ok (hR := (cat [])) (hF := cat [sg g6484 46 (0, 0) [] [(.int .i64 a1.Kind), (.int .i64 a1.Owner), (.int .i64 a1.To), (.int .i64 a1.Buffer)] [], sg g6480 45 (0, 0) [] [v0x0, v0x1] [], hF, h7105, h7109, (bif b 9 then sg g7903 28 (0, 0) [] [(.slice none 0 0), (.slice none 0 0)] [] else []), (bif b 10 then sg g8001 35 (0, 0) [] [(.int .i64 0), (.int .i64 0)] [] else [])]) a1  (Mem.one hm8410) hr7301) ?_
   rintro e w7302 ⟨rfl, hm7303⟩
   refine ⟨_, rfl, ?_⟩
   replace hm7303 : Mem w0 w7302 (cat [sg g6484 46 (0, 0) [] [(.int .i64 a1.Kind), (.int .i64 a1.Owner), (.int .i64 a1.To), (.int .i64 a1.Buffer)] [], sg g6480 45 (0, 0) [] [v0x0, v0x1] [], hF, h7105, h7109, (bif b 9 then sg g7903 28 (0, 0) [] [(.slice none 0 0), (.slice none 0 0)] [] else []), (bif b 10 then sg g8001 35 (0, 0) [] [(.int .i64 0), (.int .i64 0)] [] else [])]) := Mem.un hm7303
   exact hK _ _ ⟨_, v7103, h7105, v7107, h7109, v7403, h7405, v7407, h7409, g7903, g8001, rfl, y0, y1, y2, fun _ => rfl, y4, y5, y6, y7, y8, y9, y10, y13, fun _ => H7104, fun _ => H7108, H7404, H7408, Mem.gc (A := [sg g6484 46 (0, 0) [] [(.int .i64 a1.Kind), (.int .i64 a1.Owner), (.int .i64 a1.To), (.int .i64 a1.Buffer)] [], sg g6480 45 (0, 0) [] [v0x0, v0x1] [], hF, h7105, h7109, [], [], (bif b 9 then sg g7903 28 (0, 0) [] [(.slice none 0 0), (.slice none 0 0)] [] else []), (bif b 10 then sg g8001 35 (0, 0) [] [(.int .i64 0), (.int .i64 0)] [] else [])]) (cat_cons rfl (cat_cons rfl (cat_cons rfl (cat_cons (on_ b1 rfl) (cat_cons (on_ b1 rfl) (cat_cons (off_ b4 rfl) (cat_cons (off_ b4 rfl) (cat_cons (off_ b11 rfl) (cat_cons (off_ b12 rfl) rfl))))))))) (Mem.pick [0, 1, 2, 3, 4, 1005, 1006, 5, 6] rfl hm7303)⟩
  ·
   intro b a w hI hbi hn hc K hK
   obtain ⟨vs, v7103, h7105, v7107, h7109, v7403, h7405, v7407, h7409, g7903, g8001, ha, y0, y1, y2, y3, y4, y5, y6, y7, y8, y9, y10, y13, H7104, H7108, H7404, H7408, hm⟩ := hI
   subst ha
   have b1 : b 1 = true := hn 1 (da rfl)
   have b3 : b 3 = true := hn 3 (da rfl)
   have b0 : b 0 = true := hc 1 _ rfl b1 0 (da rfl)
   have b2 : b 2 = true := hc 3 _ rfl b3 2 (da rfl)
   have b5 : b 5 = false := later (j := 5) hc rfl (i := 4) (da rfl) hbi
   have b6 : b 6 = false := later (j := 6) hc rfl (i := 5) (da rfl) b5
   have b7 : b 7 = false := later (j := 7) hc rfl (i := 5) (da rfl) b5
   have b8 : b 8 = false := later (j := 8) hc rfl (i := 5) (da rfl) b5
   have b11 : b 11 = false := later (j := 11) hc rfl (i := 4) (da rfl) hbi
   have b12 : b 12 = false := later (j := 12) hc rfl (i := 4) (da rfl) hbi
   have b13 : b 13 = false := later (j := 13) hc rfl (i := 4) (da rfl) hbi
   have H7104 := H7104 b1
   have H7108 := H7108 b1
   have hm8413 : Mem w0 w (cat [sg g6484 46 (0, 0) [] [(.int .i64 a1.Kind), (.int .i64 a1.Owner), (.int .i64 a1.To), (.int .i64 a1.Buffer)] [], sg g6480 45 (0, 0) [] [v0x0, v0x1] [], hF, h7105, h7109, (bif b 9 then sg g7903 28 (0, 0) [] [(.slice none 0 0), (.slice none 0 0)] [] else []), (bif b 10 then sg g8001 35 (0, 0) [] [(.int .i64 0), (.int .i64 0)] [] else [])]) := Mem.pick [0, 1, 2, 3, 4, 7, 8] rfl (Mem.cg (B := [sg g6484 46 (0, 0) [] [(.int .i64 a1.Kind), (.int .i64 a1.Owner), (.int .i64 a1.To), (.int .i64 a1.Buffer)] [], sg g6480 45 (0, 0) [] [v0x0, v0x1] [], hF, h7105, h7109, [], [], (bif b 9 then sg g7903 28 (0, 0) [] [(.slice none 0 0), (.slice none 0 0)] [] else []), (bif b 10 then sg g8001 35 (0, 0) [] [(.int .i64 0), (.int .i64 0)] [] else [])]) (cat_cons rfl (cat_cons rfl (cat_cons rfl (cat_cons (on_ b1 rfl) (cat_cons (on_ b1 rfl) (cat_cons (off_ hbi rfl) (cat_cons (off_ hbi rfl) (cat_cons (off_ b11 rfl) (cat_cons (off_ b12 rfl) rfl))))))))) hm)
   refine e_call (i := 4) hbi rfl rfl (won rfl) rfl rfl (x_call rfl rfl cl_19 (map_lit (map_cons (ev (t := 26) (v := (.agg #[v7103, v7107])) rfl ((sel_on (p := (1, 26)) rfl b1).trans (y1 b1))) (map_cons (ev (t := 28) (v := (.agg #[(.int .i64 r7301.Kind), (.int .i64 r7301.Owner), (.int .i64 r7301.To), (.int .i64 r7301.Buffer)])) rfl ((sel_on (p := (3, 28)) rfl b3).trans (y3 b3))) map_nil)))) (spec_PoolStep_ok F (hR := (cat [h7105, h7109])) (hF := cat [sg g6484 46 (0, 0) [] [(.int .i64 a1.Kind), (.int .i64 a1.Owner), (.int .i64 a1.To), (.int .i64 a1.Buffer)] [], sg g6480 45 (0, 0) [] [v0x0, v0x1] [], hF, h7105, h7109, (bif b 9 then sg g7903 28 (0, 0) [] [(.slice none 0 0), (.slice none 0 0)] [] else []), (bif b 10 then sg g8001 35 (0, 0) [] [(.int .i64 0), (.int .i64 0)] [] else [])]) r7101 r7301 ((H7104.rd w0).mono (Sub.at_ (k := 0) rfl)) ((H7108.rd w0).mono (Sub.at_ (k := 1) rfl)) (subc (Sub.at_ (k := 3) rfl) (subc (Sub.at_ (k := 4) rfl) subn)) (Mem.one hm8413) hr7401) ?_
   rintro e w7410 ⟨v7403, h7405, v7407, h7409, rfl, H7404, H7408, hm7411⟩
   refine ⟨_, rfl, ?_⟩
   replace hm7411 : Mem w0 w7410 (cat [h7405, h7409, sg g6484 46 (0, 0) [] [(.int .i64 a1.Kind), (.int .i64 a1.Owner), (.int .i64 a1.To), (.int .i64 a1.Buffer)] [], sg g6480 45 (0, 0) [] [v0x0, v0x1] [], hF, h7105, h7109, (bif b 9 then sg g7903 28 (0, 0) [] [(.slice none 0 0), (.slice none 0 0)] [] else []), (bif b 10 then sg g8001 35 (0, 0) [] [(.int .i64 0), (.int .i64 0)] [] else [])]) := Mem.ung [h7405, h7409] [sg g6484 46 (0, 0) [] [(.int .i64 a1.Kind), (.int .i64 a1.Owner), (.int .i64 a1.To), (.int .i64 a1.Buffer)] [], sg g6480 45 (0, 0) [] [v0x0, v0x1] [], hF, h7105, h7109, (bif b 9 then sg g7903 28 (0, 0) [] [(.slice none 0 0), (.slice none 0 0)] [] else []), (bif b 10 then sg g8001 35 (0, 0) [] [(.int .i64 0), (.int .i64 0)] [] else [])] hm7411
   exact hK _ _ ⟨_, v7103, h7105, v7107, h7109, v7403, h7405, v7407, h7409, g7903, g8001, rfl, y0, y1, y2, y3, fun _ => rfl, fun hb => ab b5 hb, fun hb => ab b6 hb, y7, y8, y9, y10, y13, fun _ => H7104, fun _ => H7108, fun _ => H7404, fun _ => H7408, Mem.gc (A := [sg g6484 46 (0, 0) [] [(.int .i64 a1.Kind), (.int .i64 a1.Owner), (.int .i64 a1.To), (.int .i64 a1.Buffer)] [], sg g6480 45 (0, 0) [] [v0x0, v0x1] [], hF, h7105, h7109, h7405, h7409, (bif b 9 then sg g7903 28 (0, 0) [] [(.slice none 0 0), (.slice none 0 0)] [] else []), (bif b 10 then sg g8001 35 (0, 0) [] [(.int .i64 0), (.int .i64 0)] [] else [])]) (cat_cons rfl (cat_cons rfl (cat_cons rfl (cat_cons (on_ b1 rfl) (cat_cons (on_ b1 rfl) (cat_cons (on_ rfl rfl) (cat_cons (on_ rfl rfl) (cat_cons (off_ b11 rfl) (cat_cons (off_ b12 rfl) rfl))))))))) (Mem.pick [2, 3, 4, 5, 6, 0, 1, 7, 8] rfl hm7411)⟩
  ·
   intro b a w hI hbi hn hc K hK
   obtain ⟨vs, v7103, h7105, v7107, h7109, v7403, h7405, v7407, h7409, g7903, g8001, ha, y0, y1, y2, y3, y4, y5, y6, y7, y8, y9, y10, y13, H7104, H7108, H7404, H7408, hm⟩ := hI
   subst ha
   have b4 : b 4 = true := hn 4 (da rfl)
   have b1 : b 1 = true := hc 4 _ rfl b4 1 (da rfl)
   have b3 : b 3 = true := hc 4 _ rfl b4 3 (da rfl)
   have b0 : b 0 = true := hc 1 _ rfl b1 0 (da rfl)
   have b2 : b 2 = true := hc 3 _ rfl b3 2 (da rfl)
   have b6 : b 6 = false := later (j := 6) hc rfl (i := 5) (da rfl) hbi
   have b7 : b 7 = false := later (j := 7) hc rfl (i := 5) (da rfl) hbi
   have b8 : b 8 = false := later (j := 8) hc rfl (i := 5) (da rfl) hbi
   have b11 : b 11 = false := later (j := 11) hc rfl (i := 5) (da rfl) hbi
   have b12 : b 12 = false := later (j := 12) hc rfl (i := 5) (da rfl) hbi
   have b13 : b 13 = false := later (j := 13) hc rfl (i := 5) (da rfl) hbi
   have H7104 := H7104 b1
   have H7108 := H7108 b1
   have H7404 := H7404 b4
   have H7408 := H7408 b4
   have hm8416 : Mem w0 w (cat [sg g6484 46 (0, 0) [] [(.int .i64 a1.Kind), (.int .i64 a1.Owner), (.int .i64 a1.To), (.int .i64 a1.Buffer)] [], sg g6480 45 (0, 0) [] [v0x0, v0x1] [], hF, h7105, h7109, h7405, h7409, (bif b 9 then sg g7903 28 (0, 0) [] [(.slice none 0 0), (.slice none 0 0)] [] else []), (bif b 10 then sg g8001 35 (0, 0) [] [(.int .i64 0), (.int .i64 0)] [] else [])]) := Mem.pick [0, 1, 2, 3, 4, 5, 6, 7, 8] rfl (Mem.cg (B := [sg g6484 46 (0, 0) [] [(.int .i64 a1.Kind), (.int .i64 a1.Owner), (.int .i64 a1.To), (.int .i64 a1.Buffer)] [], sg g6480 45 (0, 0) [] [v0x0, v0x1] [], hF, h7105, h7109, h7405, h7409, (bif b 9 then sg g7903 28 (0, 0) [] [(.slice none 0 0), (.slice none 0 0)] [] else []), (bif b 10 then sg g8001 35 (0, 0) [] [(.int .i64 0), (.int .i64 0)] [] else [])]) (cat_cons rfl (cat_cons rfl (cat_cons rfl (cat_cons (on_ b1 rfl) (cat_cons (on_ b1 rfl) (cat_cons (on_ b4 rfl) (cat_cons (on_ b4 rfl) (cat_cons (off_ b11 rfl) (cat_cons (off_ b12 rfl) rfl))))))))) hm)
   refine e_val (i := 5) hbi rfl rfl (v := (.tuple #[(.agg #[v7403, v7407]), (.agg #[(.int .i64 r7401.2.1.Code), (.int .i64 r7401.2.1.Buffer)]), (.int .i64 r7401.2.2)])) (won rfl) rfl rfl (x_move rfl (ev (t := 29) (v := (.tuple #[(.agg #[v7403, v7407]), (.agg #[(.int .i64 r7401.2.1.Code), (.int .i64 r7401.2.1.Buffer)]), (.int .i64 r7401.2.2)])) rfl ((sel_on (p := (4, 29)) rfl b4).trans (y4 b4)))) ?_
   exact hK _ _ ⟨_, v7103, h7105, v7107, h7109, v7403, h7405, v7407, h7409, g7903, g8001, rfl, y0, y1, y2, y3, y4, fun _ => rfl, y6, y7, y8, y9, y10, y13, fun _ => H7104, fun _ => H7108, fun _ => H7404, fun _ => H7408, Mem.gc (A := [sg g6484 46 (0, 0) [] [(.int .i64 a1.Kind), (.int .i64 a1.Owner), (.int .i64 a1.To), (.int .i64 a1.Buffer)] [], sg g6480 45 (0, 0) [] [v0x0, v0x1] [], hF, h7105, h7109, h7405, h7409, (bif b 9 then sg g7903 28 (0, 0) [] [(.slice none 0 0), (.slice none 0 0)] [] else []), (bif b 10 then sg g8001 35 (0, 0) [] [(.int .i64 0), (.int .i64 0)] [] else [])]) (cat_cons rfl (cat_cons rfl (cat_cons rfl (cat_cons (on_ b1 rfl) (cat_cons (on_ b1 rfl) (cat_cons (on_ b4 rfl) (cat_cons (on_ b4 rfl) (cat_cons (off_ b11 rfl) (cat_cons (off_ b12 rfl) rfl))))))))) (Mem.pick [0, 1, 2, 3, 4, 5, 6, 7, 8] rfl hm8416)⟩
  ·
   intro b a w hI hbi hn hc K hK
   obtain ⟨vs, v7103, h7105, v7107, h7109, v7403, h7405, v7407, h7409, g7903, g8001, ha, y0, y1, y2, y3, y4, y5, y6, y7, y8, y9, y10, y13, H7104, H7108, H7404, H7408, hm⟩ := hI
   subst ha
   have b5 : b 5 = true := hn 5 (da rfl)
   have b4 : b 4 = true := hc 5 _ rfl b5 4 (da rfl)
   have b1 : b 1 = true := hc 4 _ rfl b4 1 (da rfl)
   have b3 : b 3 = true := hc 4 _ rfl b4 3 (da rfl)
   have b0 : b 0 = true := hc 1 _ rfl b1 0 (da rfl)
   have b2 : b 2 = true := hc 3 _ rfl b3 2 (da rfl)
   have b11 : b 11 = false := later (j := 11) hc rfl (i := 6) (da rfl) hbi
   have b12 : b 12 = false := later (j := 12) hc rfl (i := 6) (da rfl) hbi
   have b13 : b 13 = false := later (j := 13) hc rfl (i := 6) (da rfl) hbi
   have H7104 := H7104 b1
   have H7108 := H7108 b1
   have H7404 := H7404 b4
   have H7408 := H7408 b4
   have hm8419 : Mem w0 w (cat [sg g6484 46 (0, 0) [] [(.int .i64 a1.Kind), (.int .i64 a1.Owner), (.int .i64 a1.To), (.int .i64 a1.Buffer)] [], sg g6480 45 (0, 0) [] [v0x0, v0x1] [], hF, h7105, h7109, h7405, h7409, (bif b 9 then sg g7903 28 (0, 0) [] [(.slice none 0 0), (.slice none 0 0)] [] else []), (bif b 10 then sg g8001 35 (0, 0) [] [(.int .i64 0), (.int .i64 0)] [] else [])]) := Mem.pick [0, 1, 2, 3, 4, 5, 6, 7, 8] rfl (Mem.cg (B := [sg g6484 46 (0, 0) [] [(.int .i64 a1.Kind), (.int .i64 a1.Owner), (.int .i64 a1.To), (.int .i64 a1.Buffer)] [], sg g6480 45 (0, 0) [] [v0x0, v0x1] [], hF, h7105, h7109, h7405, h7409, (bif b 9 then sg g7903 28 (0, 0) [] [(.slice none 0 0), (.slice none 0 0)] [] else []), (bif b 10 then sg g8001 35 (0, 0) [] [(.int .i64 0), (.int .i64 0)] [] else [])]) (cat_cons rfl (cat_cons rfl (cat_cons rfl (cat_cons (on_ b1 rfl) (cat_cons (on_ b1 rfl) (cat_cons (on_ b4 rfl) (cat_cons (on_ b4 rfl) (cat_cons (off_ b11 rfl) (cat_cons (off_ b12 rfl) rfl))))))))) hm)
   refine e_val (i := 6) hbi rfl rfl (v := (.agg #[v7403, v7407])) (won rfl) rfl rfl (x_extract rfl (ev (t := 24) (v := (.tuple #[(.agg #[v7403, v7407]), (.agg #[(.int .i64 r7401.2.1.Code), (.int .i64 r7401.2.1.Buffer)]), (.int .i64 r7401.2.2)])) rfl ((sel_on (p := (5, 24)) rfl b5).trans (y5 b5))) rfl) ?_
   exact hK _ _ ⟨_, v7103, h7105, v7107, h7109, v7403, h7405, v7407, h7409, g7903, g8001, rfl, y0, y1, y2, y3, y4, y5, fun _ => rfl, y7, y8, y9, y10, y13, fun _ => H7104, fun _ => H7108, fun _ => H7404, fun _ => H7408, Mem.gc (A := [sg g6484 46 (0, 0) [] [(.int .i64 a1.Kind), (.int .i64 a1.Owner), (.int .i64 a1.To), (.int .i64 a1.Buffer)] [], sg g6480 45 (0, 0) [] [v0x0, v0x1] [], hF, h7105, h7109, h7405, h7409, (bif b 9 then sg g7903 28 (0, 0) [] [(.slice none 0 0), (.slice none 0 0)] [] else []), (bif b 10 then sg g8001 35 (0, 0) [] [(.int .i64 0), (.int .i64 0)] [] else [])]) (cat_cons rfl (cat_cons rfl (cat_cons rfl (cat_cons (on_ b1 rfl) (cat_cons (on_ b1 rfl) (cat_cons (on_ b4 rfl) (cat_cons (on_ b4 rfl) (cat_cons (off_ b11 rfl) (cat_cons (off_ b12 rfl) rfl))))))))) (Mem.pick [0, 1, 2, 3, 4, 5, 6, 7, 8] rfl hm8419)⟩
  ·
   intro b a w hI hbi hn hc K hK
   obtain ⟨vs, v7103, h7105, v7107, h7109, v7403, h7405, v7407, h7409, g7903, g8001, ha, y0, y1, y2, y3, y4, y5, y6, y7, y8, y9, y10, y13, H7104, H7108, H7404, H7408, hm⟩ := hI
   subst ha
   have b5 : b 5 = true := hn 5 (da rfl)
   have b4 : b 4 = true := hc 5 _ rfl b5 4 (da rfl)
   have b1 : b 1 = true := hc 4 _ rfl b4 1 (da rfl)
   have b3 : b 3 = true := hc 4 _ rfl b4 3 (da rfl)
   have b0 : b 0 = true := hc 1 _ rfl b1 0 (da rfl)
   have b2 : b 2 = true := hc 3 _ rfl b3 2 (da rfl)
   have b12 : b 12 = false := later (j := 12) hc rfl (i := 7) (da rfl) hbi
   have b13 : b 13 = false := later (j := 13) hc rfl (i := 7) (da rfl) hbi
   have H7104 := H7104 b1
   have H7108 := H7108 b1
   have H7404 := H7404 b4
   have H7408 := H7408 b4
   have hm8422 : Mem w0 w (cat [sg g6484 46 (0, 0) [] [(.int .i64 a1.Kind), (.int .i64 a1.Owner), (.int .i64 a1.To), (.int .i64 a1.Buffer)] [], sg g6480 45 (0, 0) [] [v0x0, v0x1] [], hF, h7105, h7109, h7405, h7409, (bif b 11 then sg g7903 28 (0, 0) [] [v7403, v7407] [] else (bif b 9 then sg g7903 28 (0, 0) [] [(.slice none 0 0), (.slice none 0 0)] [] else [])), (bif b 10 then sg g8001 35 (0, 0) [] [(.int .i64 0), (.int .i64 0)] [] else [])]) := Mem.pick [0, 1, 2, 3, 4, 5, 6, 7, 8] rfl (Mem.cg (B := [sg g6484 46 (0, 0) [] [(.int .i64 a1.Kind), (.int .i64 a1.Owner), (.int .i64 a1.To), (.int .i64 a1.Buffer)] [], sg g6480 45 (0, 0) [] [v0x0, v0x1] [], hF, h7105, h7109, h7405, h7409, (bif b 11 then sg g7903 28 (0, 0) [] [v7403, v7407] [] else (bif b 9 then sg g7903 28 (0, 0) [] [(.slice none 0 0), (.slice none 0 0)] [] else [])), (bif b 10 then sg g8001 35 (0, 0) [] [(.int .i64 0), (.int .i64 0)] [] else [])]) (cat_cons rfl (cat_cons rfl (cat_cons rfl (cat_cons (on_ b1 rfl) (cat_cons (on_ b1 rfl) (cat_cons (on_ b4 rfl) (cat_cons (on_ b4 rfl) (cat_cons rfl (cat_cons (off_ b12 rfl) rfl))))))))) hm)
   refine e_val (i := 7) hbi rfl rfl (v := (.agg #[(.int .i64 r7401.2.1.Code), (.int .i64 r7401.2.1.Buffer)])) (won rfl) rfl rfl (x_extract rfl (ev (t := 24) (v := (.tuple #[(.agg #[v7403, v7407]), (.agg #[(.int .i64 r7401.2.1.Code), (.int .i64 r7401.2.1.Buffer)]), (.int .i64 r7401.2.2)])) rfl ((sel_on (p := (5, 24)) rfl b5).trans (y5 b5))) rfl) ?_
   exact hK _ _ ⟨_, v7103, h7105, v7107, h7109, v7403, h7405, v7407, h7409, g7903, g8001, rfl, y0, y1, y2, y3, y4, y5, y6, fun _ => rfl, y8, y9, y10, y13, fun _ => H7104, fun _ => H7108, fun _ => H7404, fun _ => H7408, Mem.gc (A := [sg g6484 46 (0, 0) [] [(.int .i64 a1.Kind), (.int .i64 a1.Owner), (.int .i64 a1.To), (.int .i64 a1.Buffer)] [], sg g6480 45 (0, 0) [] [v0x0, v0x1] [], hF, h7105, h7109, h7405, h7409, (bif b 11 then sg g7903 28 (0, 0) [] [v7403, v7407] [] else (bif b 9 then sg g7903 28 (0, 0) [] [(.slice none 0 0), (.slice none 0 0)] [] else [])), (bif b 10 then sg g8001 35 (0, 0) [] [(.int .i64 0), (.int .i64 0)] [] else [])]) (cat_cons rfl (cat_cons rfl (cat_cons rfl (cat_cons (on_ b1 rfl) (cat_cons (on_ b1 rfl) (cat_cons (on_ b4 rfl) (cat_cons (on_ b4 rfl) (cat_cons rfl (cat_cons (off_ b12 rfl) rfl))))))))) (Mem.pick [0, 1, 2, 3, 4, 5, 6, 7, 8] rfl hm8422)⟩
  ·
   intro b a w hI hbi hn hc K hK
   obtain ⟨vs, v7103, h7105, v7107, h7109, v7403, h7405, v7407, h7409, g7903, g8001, ha, y0, y1, y2, y3, y4, y5, y6, y7, y8, y9, y10, y13, H7104, H7108, H7404, H7408, hm⟩ := hI
   subst ha
   have b5 : b 5 = true := hn 5 (da rfl)
   have b4 : b 4 = true := hc 5 _ rfl b5 4 (da rfl)
   have b1 : b 1 = true := hc 4 _ rfl b4 1 (da rfl)
   have b3 : b 3 = true := hc 4 _ rfl b4 3 (da rfl)
   have b0 : b 0 = true := hc 1 _ rfl b1 0 (da rfl)
   have b2 : b 2 = true := hc 3 _ rfl b3 2 (da rfl)
   have b13 : b 13 = false := later (j := 13) hc rfl (i := 8) (da rfl) hbi
   have H7104 := H7104 b1
   have H7108 := H7108 b1
   have H7404 := H7404 b4
   have H7408 := H7408 b4
   have hm8425 : Mem w0 w (cat [sg g6484 46 (0, 0) [] [(.int .i64 a1.Kind), (.int .i64 a1.Owner), (.int .i64 a1.To), (.int .i64 a1.Buffer)] [], sg g6480 45 (0, 0) [] [v0x0, v0x1] [], hF, h7105, h7109, h7405, h7409, (bif b 11 then sg g7903 28 (0, 0) [] [v7403, v7407] [] else (bif b 9 then sg g7903 28 (0, 0) [] [(.slice none 0 0), (.slice none 0 0)] [] else [])), (bif b 12 then sg g8001 35 (0, 0) [] [(.int .i64 r7401.2.1.Code), (.int .i64 r7401.2.1.Buffer)] [] else (bif b 10 then sg g8001 35 (0, 0) [] [(.int .i64 0), (.int .i64 0)] [] else []))]) := Mem.pick [0, 1, 2, 3, 4, 5, 6, 7, 8] rfl (Mem.cg (B := [sg g6484 46 (0, 0) [] [(.int .i64 a1.Kind), (.int .i64 a1.Owner), (.int .i64 a1.To), (.int .i64 a1.Buffer)] [], sg g6480 45 (0, 0) [] [v0x0, v0x1] [], hF, h7105, h7109, h7405, h7409, (bif b 11 then sg g7903 28 (0, 0) [] [v7403, v7407] [] else (bif b 9 then sg g7903 28 (0, 0) [] [(.slice none 0 0), (.slice none 0 0)] [] else [])), (bif b 12 then sg g8001 35 (0, 0) [] [(.int .i64 r7401.2.1.Code), (.int .i64 r7401.2.1.Buffer)] [] else (bif b 10 then sg g8001 35 (0, 0) [] [(.int .i64 0), (.int .i64 0)] [] else []))]) (cat_cons rfl (cat_cons rfl (cat_cons rfl (cat_cons (on_ b1 rfl) (cat_cons (on_ b1 rfl) (cat_cons (on_ b4 rfl) (cat_cons (on_ b4 rfl) (cat_cons rfl (cat_cons rfl rfl))))))))) hm)
   refine e_val (i := 8) hbi rfl rfl (v := (.int .i64 r7401.2.2)) (won rfl) rfl rfl (x_extract rfl (ev (t := 24) (v := (.tuple #[(.agg #[v7403, v7407]), (.agg #[(.int .i64 r7401.2.1.Code), (.int .i64 r7401.2.1.Buffer)]), (.int .i64 r7401.2.2)])) rfl ((sel_on (p := (5, 24)) rfl b5).trans (y5 b5))) rfl) ?_
   exact hK _ _ ⟨_, v7103, h7105, v7107, h7109, v7403, h7405, v7407, h7409, g7903, g8001, rfl, y0, y1, y2, y3, y4, y5, y6, y7, fun _ => rfl, y9, y10, y13, fun _ => H7104, fun _ => H7108, fun _ => H7404, fun _ => H7408, Mem.gc (A := [sg g6484 46 (0, 0) [] [(.int .i64 a1.Kind), (.int .i64 a1.Owner), (.int .i64 a1.To), (.int .i64 a1.Buffer)] [], sg g6480 45 (0, 0) [] [v0x0, v0x1] [], hF, h7105, h7109, h7405, h7409, (bif b 11 then sg g7903 28 (0, 0) [] [v7403, v7407] [] else (bif b 9 then sg g7903 28 (0, 0) [] [(.slice none 0 0), (.slice none 0 0)] [] else [])), (bif b 12 then sg g8001 35 (0, 0) [] [(.int .i64 r7401.2.1.Code), (.int .i64 r7401.2.1.Buffer)] [] else (bif b 10 then sg g8001 35 (0, 0) [] [(.int .i64 0), (.int .i64 0)] [] else []))]) (cat_cons rfl (cat_cons rfl (cat_cons rfl (cat_cons (on_ b1 rfl) (cat_cons (on_ b1 rfl) (cat_cons (on_ b4 rfl) (cat_cons (on_ b4 rfl) (cat_cons rfl (cat_cons rfl rfl))))))))) (Mem.pick [0, 1, 2, 3, 4, 5, 6, 7, 8] rfl hm8425)⟩
  ·
   intro b a w hI hbi hn hc K hK
   obtain ⟨vs, v7103, h7105, v7107, h7109, v7403, h7405, v7407, h7409, g7903, g8001, ha, y0, y1, y2, y3, y4, y5, y6, y7, y8, y9, y10, y13, H7104, H7108, H7404, H7408, hm⟩ := hI
   subst ha
   have b11 : b 11 = false := later (j := 11) hc rfl (i := 9) (da rfl) hbi
   have b12 : b 12 = false := later (j := 12) hc rfl (i := 9) (da rfl) hbi
   have b13 : b 13 = false := later (j := 13) hc rfl (i := 9) (da rfl) hbi
   have hm8428 : Mem w0 w (cat [sg g6484 46 (0, 0) [] [(.int .i64 a1.Kind), (.int .i64 a1.Owner), (.int .i64 a1.To), (.int .i64 a1.Buffer)] [], sg g6480 45 (0, 0) [] [v0x0, v0x1] [], hF, (bif b 1 then h7105 else []), (bif b 1 then h7109 else []), (bif b 4 then h7405 else []), (bif b 4 then h7409 else []), (bif b 10 then sg g8001 35 (0, 0) [] [(.int .i64 0), (.int .i64 0)] [] else [])]) := Mem.pick [0, 1, 2, 3, 4, 5, 6, 8] rfl (Mem.cg (B := [sg g6484 46 (0, 0) [] [(.int .i64 a1.Kind), (.int .i64 a1.Owner), (.int .i64 a1.To), (.int .i64 a1.Buffer)] [], sg g6480 45 (0, 0) [] [v0x0, v0x1] [], hF, (bif b 1 then h7105 else []), (bif b 1 then h7109 else []), (bif b 4 then h7405 else []), (bif b 4 then h7409 else []), [], (bif b 10 then sg g8001 35 (0, 0) [] [(.int .i64 0), (.int .i64 0)] [] else [])]) (cat_cons rfl (cat_cons rfl (cat_cons rfl (cat_cons rfl (cat_cons rfl (cat_cons rfl (cat_cons rfl (cat_cons (off_ b11 (off_ hbi rfl)) (cat_cons (off_ b12 rfl) rfl))))))))) hm)
   refine e_exv (i := 9) hbi rfl rfl (won rfl) rfl rfl (e_alloc (vs := [(.slice none 0 0), (.slice none 0 0)]) rfl zt_28 rfl hm8428) ?_
   rintro g7903 w7904 hm7905
   exact hK _ _ ⟨_, v7103, h7105, v7107, h7109, v7403, h7405, v7407, h7409, g7903, g8001, rfl, y0, y1, y2, y3, y4, y5, y6, y7, y8, fun _ => rfl, y10, y13, H7104, H7108, H7404, H7408, Mem.gc (A := [sg g6484 46 (0, 0) [] [(.int .i64 a1.Kind), (.int .i64 a1.Owner), (.int .i64 a1.To), (.int .i64 a1.Buffer)] [], sg g6480 45 (0, 0) [] [v0x0, v0x1] [], hF, (bif b 1 then h7105 else []), (bif b 1 then h7109 else []), (bif b 4 then h7405 else []), (bif b 4 then h7409 else []), sg g7903 28 (0, 0) [] [(.slice none 0 0), (.slice none 0 0)] [], (bif b 10 then sg g8001 35 (0, 0) [] [(.int .i64 0), (.int .i64 0)] [] else [])]) (cat_cons rfl (cat_cons rfl (cat_cons rfl (cat_cons rfl (cat_cons rfl (cat_cons rfl (cat_cons rfl (cat_cons (off_ b11 (on_ rfl rfl)) (cat_cons (off_ b12 rfl) rfl))))))))) (Mem.pick [1, 2, 3, 4, 5, 6, 7, 0, 8] rfl hm7905)⟩
  ·
   intro b a w hI hbi hn hc K hK
   obtain ⟨vs, v7103, h7105, v7107, h7109, v7403, h7405, v7407, h7409, g7903, g8001, ha, y0, y1, y2, y3, y4, y5, y6, y7, y8, y9, y10, y13, H7104, H7108, H7404, H7408, hm⟩ := hI
   subst ha
   have b11 : b 11 = false := later (j := 11) hc rfl (i := 10) (da rfl) hbi
   have b12 : b 12 = false := later (j := 12) hc rfl (i := 10) (da rfl) hbi
   have b13 : b 13 = false := later (j := 13) hc rfl (i := 10) (da rfl) hbi
   have hm8431 : Mem w0 w (cat [sg g6484 46 (0, 0) [] [(.int .i64 a1.Kind), (.int .i64 a1.Owner), (.int .i64 a1.To), (.int .i64 a1.Buffer)] [], sg g6480 45 (0, 0) [] [v0x0, v0x1] [], hF, (bif b 1 then h7105 else []), (bif b 1 then h7109 else []), (bif b 4 then h7405 else []), (bif b 4 then h7409 else []), (bif b 9 then sg g7903 28 (0, 0) [] [(.slice none 0 0), (.slice none 0 0)] [] else [])]) := Mem.pick [0, 1, 2, 3, 4, 5, 6, 7] rfl (Mem.cg (B := [sg g6484 46 (0, 0) [] [(.int .i64 a1.Kind), (.int .i64 a1.Owner), (.int .i64 a1.To), (.int .i64 a1.Buffer)] [], sg g6480 45 (0, 0) [] [v0x0, v0x1] [], hF, (bif b 1 then h7105 else []), (bif b 1 then h7109 else []), (bif b 4 then h7405 else []), (bif b 4 then h7409 else []), (bif b 9 then sg g7903 28 (0, 0) [] [(.slice none 0 0), (.slice none 0 0)] [] else []), []]) (cat_cons rfl (cat_cons rfl (cat_cons rfl (cat_cons rfl (cat_cons rfl (cat_cons rfl (cat_cons rfl (cat_cons (off_ b11 rfl) (cat_cons (off_ b12 (off_ hbi rfl)) rfl))))))))) hm)
   refine e_exv (i := 10) hbi rfl rfl (won rfl) rfl rfl (e_alloc (vs := [(.int .i64 0), (.int .i64 0)]) rfl zt_35 rfl hm8431) ?_
   rintro g8001 w8002 hm8003
   exact hK _ _ ⟨_, v7103, h7105, v7107, h7109, v7403, h7405, v7407, h7409, g7903, g8001, rfl, y0, y1, y2, y3, y4, y5, y6, y7, y8, y9, fun _ => rfl, y13, H7104, H7108, H7404, H7408, Mem.gc (A := [sg g6484 46 (0, 0) [] [(.int .i64 a1.Kind), (.int .i64 a1.Owner), (.int .i64 a1.To), (.int .i64 a1.Buffer)] [], sg g6480 45 (0, 0) [] [v0x0, v0x1] [], hF, (bif b 1 then h7105 else []), (bif b 1 then h7109 else []), (bif b 4 then h7405 else []), (bif b 4 then h7409 else []), (bif b 9 then sg g7903 28 (0, 0) [] [(.slice none 0 0), (.slice none 0 0)] [] else []), sg g8001 35 (0, 0) [] [(.int .i64 0), (.int .i64 0)] []]) (cat_cons rfl (cat_cons rfl (cat_cons rfl (cat_cons rfl (cat_cons rfl (cat_cons rfl (cat_cons rfl (cat_cons (off_ b11 rfl) (cat_cons (off_ b12 (on_ rfl rfl)) rfl))))))))) (Mem.pick [1, 2, 3, 4, 5, 6, 7, 8, 0] rfl hm8003)⟩
  ·
   intro b a w hI hbi hn hc K hK
   obtain ⟨vs, v7103, h7105, v7107, h7109, v7403, h7405, v7407, h7409, g7903, g8001, ha, y0, y1, y2, y3, y4, y5, y6, y7, y8, y9, y10, y13, H7104, H7108, H7404, H7408, hm⟩ := hI
   subst ha
   have b0 : b 0 = true := hn 0 (da rfl)
   have b1 : b 1 = true := hn 1 (da rfl)
   have b2 : b 2 = true := hn 2 (da rfl)
   have b3 : b 3 = true := hn 3 (da rfl)
   have b4 : b 4 = true := hn 4 (da rfl)
   have b5 : b 5 = true := hn 5 (da rfl)
   have b6 : b 6 = true := hn 6 (da rfl)
   have b9 : b 9 = true := hn 9 (da rfl)
   have b10 : b 10 = true := hn 10 (da rfl)
   have b12 : b 12 = false := later (j := 12) hc rfl (i := 11) (da rfl) hbi
   have b13 : b 13 = false := later (j := 13) hc rfl (i := 11) (da rfl) hbi
   have H7104 := H7104 b1
   have H7108 := H7108 b1
   have H7404 := H7404 b4
   have H7408 := H7408 b4
   have hm8434 : Mem w0 w (cat [sg g6484 46 (0, 0) [] [(.int .i64 a1.Kind), (.int .i64 a1.Owner), (.int .i64 a1.To), (.int .i64 a1.Buffer)] [], sg g6480 45 (0, 0) [] [v0x0, v0x1] [], hF, h7105, h7109, h7405, h7409, sg g7903 28 (0, 0) [] [(.slice none 0 0), (.slice none 0 0)] [], sg g8001 35 (0, 0) [] [(.int .i64 0), (.int .i64 0)] []]) := Mem.pick [0, 1, 2, 3, 4, 5, 6, 7, 8] rfl (Mem.cg (B := [sg g6484 46 (0, 0) [] [(.int .i64 a1.Kind), (.int .i64 a1.Owner), (.int .i64 a1.To), (.int .i64 a1.Buffer)] [], sg g6480 45 (0, 0) [] [v0x0, v0x1] [], hF, h7105, h7109, h7405, h7409, sg g7903 28 (0, 0) [] [(.slice none 0 0), (.slice none 0 0)] [], sg g8001 35 (0, 0) [] [(.int .i64 0), (.int .i64 0)] []]) (cat_cons rfl (cat_cons rfl (cat_cons rfl (cat_cons (on_ b1 rfl) (cat_cons (on_ b1 rfl) (cat_cons (on_ b4 rfl) (cat_cons (on_ b4 rfl) (cat_cons (off_ hbi (on_ b9 rfl)) (cat_cons (off_ b12 (on_ b10 rfl)) rfl))))))))) hm)
   refine e_exs (i := 11) hbi rfl (won rfl) rfl (e_store (vs := [v7403, v7407]) (o' := 0) (j := 0) rfl sz_28 (ev (t := 6) (v := (.pointer (some ⟨g7903, 0, none⟩))) rfl ((sel_on (p := (9, 6)) rfl b9).trans (y9 b9))) (ev (t := 30) (v := (.agg #[v7403, v7407])) rfl ((sel_on (p := (6, 30)) rfl b6).trans (y6 b6))) rfl (one_cons (IsSl.one (H7404).sl) (one_cons (IsSl.one (H7408).sl) one_nil)) hm8434 (k := 7) rfl rfl rfl) ?_
   intro w8101 hm8102
   replace hm8102 : Mem w0 w8101 (cat [sg g6484 46 (0, 0) [] [(.int .i64 a1.Kind), (.int .i64 a1.Owner), (.int .i64 a1.To), (.int .i64 a1.Buffer)] [], sg g6480 45 (0, 0) [] [v0x0, v0x1] [], hF, h7105, h7109, h7405, h7409, sg g7903 28 (0, 0) [] [v7403, v7407] [], sg g8001 35 (0, 0) [] [(.int .i64 0), (.int .i64 0)] []]) := hm8102
   exact hK _ _ ⟨_, v7103, h7105, v7107, h7109, v7403, h7405, v7407, h7409, g7903, g8001, rfl, y0, y1, y2, y3, y4, y5, y6, y7, y8, y9, y10, y13, fun _ => H7104, fun _ => H7108, fun _ => H7404, fun _ => H7408, Mem.gc (A := [sg g6484 46 (0, 0) [] [(.int .i64 a1.Kind), (.int .i64 a1.Owner), (.int .i64 a1.To), (.int .i64 a1.Buffer)] [], sg g6480 45 (0, 0) [] [v0x0, v0x1] [], hF, h7105, h7109, h7405, h7409, sg g7903 28 (0, 0) [] [v7403, v7407] [], sg g8001 35 (0, 0) [] [(.int .i64 0), (.int .i64 0)] []]) (cat_cons rfl (cat_cons rfl (cat_cons rfl (cat_cons (on_ b1 rfl) (cat_cons (on_ b1 rfl) (cat_cons (on_ b4 rfl) (cat_cons (on_ b4 rfl) (cat_cons (on_ rfl rfl) (cat_cons (off_ b12 (on_ b10 rfl)) rfl))))))))) (Mem.pick [0, 1, 2, 3, 4, 5, 6, 7, 8] rfl hm8102)⟩
  ·
   intro b a w hI hbi hn hc K hK
   obtain ⟨vs, v7103, h7105, v7107, h7109, v7403, h7405, v7407, h7409, g7903, g8001, ha, y0, y1, y2, y3, y4, y5, y6, y7, y8, y9, y10, y13, H7104, H7108, H7404, H7408, hm⟩ := hI
   subst ha
   have b0 : b 0 = true := hn 0 (da rfl)
   have b1 : b 1 = true := hn 1 (da rfl)
   have b2 : b 2 = true := hn 2 (da rfl)
   have b3 : b 3 = true := hn 3 (da rfl)
   have b4 : b 4 = true := hn 4 (da rfl)
   have b5 : b 5 = true := hn 5 (da rfl)
   have b6 : b 6 = true := hn 6 (da rfl)
   have b7 : b 7 = true := hn 7 (da rfl)
   have b9 : b 9 = true := hn 9 (da rfl)
   have b10 : b 10 = true := hn 10 (da rfl)
   have b11 : b 11 = true := hn 11 (da rfl)
   have b13 : b 13 = false := later (j := 13) hc rfl (i := 12) (da rfl) hbi
   have H7104 := H7104 b1
   have H7108 := H7108 b1
   have H7404 := H7404 b4
   have H7408 := H7408 b4
   have hm8437 : Mem w0 w (cat [sg g6484 46 (0, 0) [] [(.int .i64 a1.Kind), (.int .i64 a1.Owner), (.int .i64 a1.To), (.int .i64 a1.Buffer)] [], sg g6480 45 (0, 0) [] [v0x0, v0x1] [], hF, h7105, h7109, h7405, h7409, sg g7903 28 (0, 0) [] [v7403, v7407] [], sg g8001 35 (0, 0) [] [(.int .i64 0), (.int .i64 0)] []]) := Mem.pick [0, 1, 2, 3, 4, 5, 6, 7, 8] rfl (Mem.cg (B := [sg g6484 46 (0, 0) [] [(.int .i64 a1.Kind), (.int .i64 a1.Owner), (.int .i64 a1.To), (.int .i64 a1.Buffer)] [], sg g6480 45 (0, 0) [] [v0x0, v0x1] [], hF, h7105, h7109, h7405, h7409, sg g7903 28 (0, 0) [] [v7403, v7407] [], sg g8001 35 (0, 0) [] [(.int .i64 0), (.int .i64 0)] []]) (cat_cons rfl (cat_cons rfl (cat_cons rfl (cat_cons (on_ b1 rfl) (cat_cons (on_ b1 rfl) (cat_cons (on_ b4 rfl) (cat_cons (on_ b4 rfl) (cat_cons (on_ b11 rfl) (cat_cons (off_ hbi (on_ b10 rfl)) rfl))))))))) hm)
   refine e_exs (i := 12) hbi rfl (won rfl) rfl (e_store (vs := [(.int .i64 r7401.2.1.Code), (.int .i64 r7401.2.1.Buffer)]) (o' := 0) (j := 0) rfl sz_35 (ev (t := 7) (v := (.pointer (some ⟨g8001, 0, none⟩))) rfl ((sel_on (p := (10, 7)) rfl b10).trans (y10 b10))) (ev (t := 31) (v := (.agg #[(.int .i64 r7401.2.1.Code), (.int .i64 r7401.2.1.Buffer)])) rfl ((sel_on (p := (7, 31)) rfl b7).trans (y7 b7))) rfl rfl hm8437 (k := 8) rfl rfl rfl) ?_
   intro w8201 hm8202
   replace hm8202 : Mem w0 w8201 (cat [sg g6484 46 (0, 0) [] [(.int .i64 a1.Kind), (.int .i64 a1.Owner), (.int .i64 a1.To), (.int .i64 a1.Buffer)] [], sg g6480 45 (0, 0) [] [v0x0, v0x1] [], hF, h7105, h7109, h7405, h7409, sg g7903 28 (0, 0) [] [v7403, v7407] [], sg g8001 35 (0, 0) [] [(.int .i64 r7401.2.1.Code), (.int .i64 r7401.2.1.Buffer)] []]) := hm8202
   exact hK _ _ ⟨_, v7103, h7105, v7107, h7109, v7403, h7405, v7407, h7409, g7903, g8001, rfl, y0, y1, y2, y3, y4, y5, y6, y7, y8, y9, y10, y13, fun _ => H7104, fun _ => H7108, fun _ => H7404, fun _ => H7408, Mem.gc (A := [sg g6484 46 (0, 0) [] [(.int .i64 a1.Kind), (.int .i64 a1.Owner), (.int .i64 a1.To), (.int .i64 a1.Buffer)] [], sg g6480 45 (0, 0) [] [v0x0, v0x1] [], hF, h7105, h7109, h7405, h7409, sg g7903 28 (0, 0) [] [v7403, v7407] [], sg g8001 35 (0, 0) [] [(.int .i64 r7401.2.1.Code), (.int .i64 r7401.2.1.Buffer)] []]) (cat_cons rfl (cat_cons rfl (cat_cons rfl (cat_cons (on_ b1 rfl) (cat_cons (on_ b1 rfl) (cat_cons (on_ b4 rfl) (cat_cons (on_ b4 rfl) (cat_cons (on_ b11 rfl) (cat_cons (on_ rfl rfl) rfl))))))))) (Mem.pick [0, 1, 2, 3, 4, 5, 6, 7, 8] rfl hm8202)⟩
  ·
   intro b a w hI hbi hn hc K hK
   obtain ⟨vs, v7103, h7105, v7107, h7109, v7403, h7405, v7407, h7409, g7903, g8001, ha, y0, y1, y2, y3, y4, y5, y6, y7, y8, y9, y10, y13, H7104, H7108, H7404, H7408, hm⟩ := hI
   subst ha
   have b0 : b 0 = true := hn 0 (da rfl)
   have b1 : b 1 = true := hn 1 (da rfl)
   have b2 : b 2 = true := hn 2 (da rfl)
   have b3 : b 3 = true := hn 3 (da rfl)
   have b4 : b 4 = true := hn 4 (da rfl)
   have b5 : b 5 = true := hn 5 (da rfl)
   have b6 : b 6 = true := hn 6 (da rfl)
   have b7 : b 7 = true := hn 7 (da rfl)
   have b8 : b 8 = true := hn 8 (da rfl)
   have b9 : b 9 = true := hn 9 (da rfl)
   have b10 : b 10 = true := hn 10 (da rfl)
   have b11 : b 11 = true := hn 11 (da rfl)
   have b12 : b 12 = true := hn 12 (da rfl)
   have H7104 := H7104 b1
   have H7108 := H7108 b1
   have H7404 := H7404 b4
   have H7408 := H7408 b4
   have hm8440 : Mem w0 w (cat [sg g6484 46 (0, 0) [] [(.int .i64 a1.Kind), (.int .i64 a1.Owner), (.int .i64 a1.To), (.int .i64 a1.Buffer)] [], sg g6480 45 (0, 0) [] [v0x0, v0x1] [], hF, h7105, h7109, h7405, h7409, sg g7903 28 (0, 0) [] [v7403, v7407] [], sg g8001 35 (0, 0) [] [(.int .i64 r7401.2.1.Code), (.int .i64 r7401.2.1.Buffer)] []]) := Mem.pick [0, 1, 2, 3, 4, 5, 6, 7, 8] rfl (Mem.cg (B := [sg g6484 46 (0, 0) [] [(.int .i64 a1.Kind), (.int .i64 a1.Owner), (.int .i64 a1.To), (.int .i64 a1.Buffer)] [], sg g6480 45 (0, 0) [] [v0x0, v0x1] [], hF, h7105, h7109, h7405, h7409, sg g7903 28 (0, 0) [] [v7403, v7407] [], sg g8001 35 (0, 0) [] [(.int .i64 r7401.2.1.Code), (.int .i64 r7401.2.1.Buffer)] []]) (cat_cons rfl (cat_cons rfl (cat_cons rfl (cat_cons (on_ b1 rfl) (cat_cons (on_ b1 rfl) (cat_cons (on_ b4 rfl) (cat_cons (on_ b4 rfl) (cat_cons (on_ b11 rfl) (cat_cons (on_ b12 rfl) rfl))))))))) hm)
   refine e_val (i := 13) hbi rfl rfl (v := (.int .i64 r7401.2.2)) (won rfl) rfl rfl (x_assign rfl (ev (t := 32) (v := (.int .i64 r7401.2.2)) rfl ((sel_on (p := (8, 32)) rfl b8).trans (y8 b8)))) ?_
   exact hK _ _ ⟨_, v7103, h7105, v7107, h7109, v7403, h7405, v7407, h7409, g7903, g8001, rfl, y0, y1, y2, y3, y4, y5, y6, y7, y8, y9, y10, fun _ => rfl, fun _ => H7104, fun _ => H7108, fun _ => H7404, fun _ => H7408, Mem.gc (A := [sg g6484 46 (0, 0) [] [(.int .i64 a1.Kind), (.int .i64 a1.Owner), (.int .i64 a1.To), (.int .i64 a1.Buffer)] [], sg g6480 45 (0, 0) [] [v0x0, v0x1] [], hF, h7105, h7109, h7405, h7409, sg g7903 28 (0, 0) [] [v7403, v7407] [], sg g8001 35 (0, 0) [] [(.int .i64 r7401.2.1.Code), (.int .i64 r7401.2.1.Buffer)] []]) (cat_cons rfl (cat_cons rfl (cat_cons rfl (cat_cons (on_ b1 rfl) (cat_cons (on_ b1 rfl) (cat_cons (on_ b4 rfl) (cat_cons (on_ b4 rfl) (cat_cons (on_ b11 rfl) (cat_cons (on_ b12 rfl) rfl))))))))) (Mem.pick [0, 1, 2, 3, 4, 5, 6, 7, 8] rfl hm8440)⟩
  intro b a w hall hI
  obtain ⟨vs, v7103, h7105, v7107, h7109, v7403, h7405, v7407, h7409, g7903, g8001, ha, y0, y1, y2, y3, y4, y5, y6, y7, y8, y9, y10, y13, H7104, H7108, H7404, H7408, hm⟩ := hI
  have b0 : b 0 = true := hall 0 rfl
  have b1 : b 1 = true := hall 1 rfl
  have b2 : b 2 = true := hall 2 rfl
  have b3 : b 3 = true := hall 3 rfl
  have b4 : b 4 = true := hall 4 rfl
  have b5 : b 5 = true := hall 5 rfl
  have b6 : b 6 = true := hall 6 rfl
  have b7 : b 7 = true := hall 7 rfl
  have b8 : b 8 = true := hall 8 rfl
  have b9 : b 9 = true := hall 9 rfl
  have b10 : b 10 = true := hall 10 rfl
  have b11 : b 11 = true := hall 11 rfl
  have b12 : b 12 = true := hall 12 rfl
  have b13 : b 13 = true := hall 13 rfl
  replace H7104 := H7104 b1
  replace H7108 := H7108 b1
  replace H7404 := H7404 b4
  replace H7408 := H7408 b4
  have hm8443 : Mem w0 w (cat [sg g6484 46 (0, 0) [] [(.int .i64 a1.Kind), (.int .i64 a1.Owner), (.int .i64 a1.To), (.int .i64 a1.Buffer)] [], sg g6480 45 (0, 0) [] [v0x0, v0x1] [], hF, h7105, h7109, h7405, h7409, sg g7903 28 (0, 0) [] [v7403, v7407] [], sg g8001 35 (0, 0) [] [(.int .i64 r7401.2.1.Code), (.int .i64 r7401.2.1.Buffer)] []]) := Mem.pick [0, 1, 2, 3, 4, 5, 6, 7, 8] rfl (Mem.cg (B := [sg g6484 46 (0, 0) [] [(.int .i64 a1.Kind), (.int .i64 a1.Owner), (.int .i64 a1.To), (.int .i64 a1.Buffer)] [], sg g6480 45 (0, 0) [] [v0x0, v0x1] [], hF, h7105, h7109, h7405, h7409, sg g7903 28 (0, 0) [] [v7403, v7407] [], sg g8001 35 (0, 0) [] [(.int .i64 r7401.2.1.Code), (.int .i64 r7401.2.1.Buffer)] []]) (cat_cons rfl (cat_cons rfl (cat_cons rfl (cat_cons (on_ b1 rfl) (cat_cons (on_ b1 rfl) (cat_cons (on_ b4 rfl) (cat_cons (on_ b4 rfl) (cat_cons (on_ b11 rfl) (cat_cons (on_ b12 rfl) rfl))))))))) hm)
  obtain ⟨f7000, ha', z7000x2, z7000x3, z7000x6, z7000x7, z7000x8⟩ : ∃ f' : Nat → Value, a = fr 128 f' ∧ f' 2 = (.pointer (some ⟨g6480, 0, none⟩)) ∧ f' 3 = (.pointer (some ⟨g6484, 0, none⟩)) ∧ f' 6 = (.pointer (some ⟨g7903, 0, none⟩)) ∧ f' 7 = (.pointer (some ⟨g8001, 0, none⟩)) ∧ f' 8 = (.int .i64 r7401.2.2) := ⟨_, ha, (sel_no rfl).trans rfl, (sel_no rfl).trans rfl, (sel_on (p := (9, 6)) rfl b9).trans (y9 b9), (sel_on (p := (10, 7)) rfl b10).trans (y10 b10), (sel_on (p := (13, 8)) rfl b13).trans (y13 b13)⟩
  subst ha'
  have hm8453 : Mem w0 w (cat [sg g6484 46 (0, 0) [] [(.int .i64 a1.Kind), (.int .i64 a1.Owner), (.int .i64 a1.To), (.int .i64 a1.Buffer)] [], sg g6480 45 (0, 0) [] [v0x0, v0x1] [], hF, h7405, h7409, sg g7903 28 (0, 0) [] [v7403, v7407] [], sg g8001 35 (0, 0) [] [(.int .i64 r7401.2.1.Code), (.int .i64 r7401.2.1.Buffer)] []]) := Mem.pick [0, 1, 2, 5, 6, 7, 8] rfl hm8443
  refine nx ?_
  refine wp_seq ?_
  obtain ⟨r8454, hr8454, he⟩ := bindE he
  refine wp_region_lit ?_
  refine s_val (v := (.agg #[v0x0, v0x1])) (won rfl) rfl rfl (x_loadN (vs := [v0x0, v0x1]) rfl tyN_45 (ev (t := 2) (v := (.pointer (some ⟨g6480, 0, none⟩))) rfl z7000x2) (seg_cells (o' := 0) (j := 0) hm8453 (k := 1) rfl rfl rfl)) ?_
  refine s_call (won rfl) rfl rfl (x_call rfl rfl cl_20 (map_lit (map_cons (ev (t := 33) rfl rfl) map_nil))) (laws_toPool_ok F (hR := (cat [hR])) (hF := cat [sg g6484 46 (0, 0) [] [(.int .i64 a1.Kind), (.int .i64 a1.Owner), (.int .i64 a1.To), (.int .i64 a1.Buffer)] [], sg g6480 45 (0, 0) [] [v0x0, v0x1] [], hF, h7405, h7409, sg g7903 28 (0, 0) [] [v7403, v7407] [], sg g8001 35 (0, 0) [] [(.int .i64 r7401.2.1.Code), (.int .i64 r7401.2.1.Buffer)] []]) a0 (H0x0.mono (Sub.at_ (k := 0) rfl)) (H0x1.mono (Sub.at_ (k := 0) rfl)) (subc (Sub.trans hs (Sub.at_ (k := 2) rfl)) subn) (Mem.one hm8453) hr8454) ?_
  rintro e w8463 ⟨v8456, h8458, v8460, h8462, rfl, H8457, H8461, hm8464⟩
  refine ⟨_, rfl, ?_⟩
  replace hm8464 : Mem w0 w8463 (cat [h8458, h8462, sg g6484 46 (0, 0) [] [(.int .i64 a1.Kind), (.int .i64 a1.Owner), (.int .i64 a1.To), (.int .i64 a1.Buffer)] [], sg g6480 45 (0, 0) [] [v0x0, v0x1] [], hF, h7405, h7409, sg g7903 28 (0, 0) [] [v7403, v7407] [], sg g8001 35 (0, 0) [] [(.int .i64 r7401.2.1.Code), (.int .i64 r7401.2.1.Buffer)] []]) := Mem.ung [h8458, h8462] [sg g6484 46 (0, 0) [] [(.int .i64 a1.Kind), (.int .i64 a1.Owner), (.int .i64 a1.To), (.int .i64 a1.Buffer)] [], sg g6480 45 (0, 0) [] [v0x0, v0x1] [], hF, h7405, h7409, sg g7903 28 (0, 0) [] [v7403, v7407] [], sg g8001 35 (0, 0) [] [(.int .i64 r7401.2.1.Code), (.int .i64 r7401.2.1.Buffer)] []] hm8464
  refine s_exv (won rfl) rfl rfl (e_alloc (vs := [(.slice none 0 0), (.slice none 0 0)]) rfl zt_28 rfl hm8464) ?_
  rintro g8467 w8468 hm8469
  refine s_exs (won rfl) rfl (e_store (vs := [v8456, v8460]) (o' := 0) (j := 0) rfl sz_28 (ev (t := 9) rfl rfl) (ev (t := 34) rfl rfl) rfl (one_cons (IsSl.one (H8457).sl) (one_cons (IsSl.one (H8461).sl) one_nil)) hm8469 (k := 0) rfl rfl rfl) ?_
  intro w8471 hm8472
  replace hm8472 : Mem w0 w8471 (cat [sg g8467 28 (0, 0) [] [v8456, v8460] [], h8458, h8462, sg g6484 46 (0, 0) [] [(.int .i64 a1.Kind), (.int .i64 a1.Owner), (.int .i64 a1.To), (.int .i64 a1.Buffer)] [], sg g6480 45 (0, 0) [] [v0x0, v0x1] [], hF, h7405, h7409, sg g7903 28 (0, 0) [] [v7403, v7407] [], sg g8001 35 (0, 0) [] [(.int .i64 r7401.2.1.Code), (.int .i64 r7401.2.1.Buffer)] []]) := hm8472
  refine wpList_nil ?_
  refine nx ?_
  refine wp_seq ?_
  obtain ⟨r9201, hr9201, he⟩ := bindE he
  obtain ⟨r9301, hr9301, he⟩ := bindE he
  obtain ⟨hz9000, hze9000⟩ : ∃ hz : Hp, hz = cat [sg g6480 45 (0, 0) [] [v0x0, v0x1] [], hF, h7405, h7409, sg g7903 28 (0, 0) [] [v7403, v7407] [], sg g8001 35 (0, 0) [] [(.int .i64 r7401.2.1.Code), (.int .i64 r7401.2.1.Buffer)] []] := ⟨_, rfl⟩
  have hm9000 : Mem w0 w8471 (cat [sg g8467 28 (0, 0) [] [v8456, v8460] [], h8458, h8462, sg g6484 46 (0, 0) [] [(.int .i64 a1.Kind), (.int .i64 a1.Owner), (.int .i64 a1.To), (.int .i64 a1.Buffer)] [], hz9000]) := by rw [hze9000]; exact Mem.grp [sg g8467 28 (0, 0) [] [v8456, v8460] [], h8458, h8462, sg g6484 46 (0, 0) [] [(.int .i64 a1.Kind), (.int .i64 a1.Owner), (.int .i64 a1.To), (.int .i64 a1.Buffer)] []] [sg g6480 45 (0, 0) [] [v0x0, v0x1] [], hF, h7405, h7409, sg g7903 28 (0, 0) [] [v7403, v7407] [], sg g8001 35 (0, 0) [] [(.int .i64 r7401.2.1.Code), (.int .i64 r7401.2.1.Buffer)] []] (Mem.pick [0, 1, 2, 3, 4, 5, 6, 7, 8, 9] rfl hm8472)
  refine wp_drawF (I := fun f b a w => ∃ (vs : Nat → Value) (v9303 : Value) (h9305 : Hp) (v9307 : Value) (h9309 : Hp) (g9803 : Nat) (g9901 : Nat), a = fr 128 (sel b [(0, 36), (1, 37), (2, 38), (3, 39), (4, 35), (5, 40), (6, 41), (7, 42), (8, 10), (9, 11), (12, 12)] vs f) ∧ (b 0 = true → vs 0 = (.agg #[v8456, v8460])) ∧ (b 1 = true → vs 1 = (.agg #[(.int .i64 a1.Kind), (.int .i64 a1.Owner), (.int .i64 a1.To), (.int .i64 a1.Buffer)])) ∧ (b 2 = true → vs 2 = (.agg #[(.int .i64 r9201.Kind), (.int .i64 r9201.Owner), (.int .i64 r9201.To), (.int .i64 r9201.Buffer)])) ∧ (b 3 = true → vs 3 = (.tuple #[(.agg #[v9303, v9307]), (.agg #[(.int .i64 r9301.2.1.Code), (.int .i64 r9301.2.1.Buffer)]), (.int .i64 r9301.2.2)])) ∧ (b 4 = true → vs 4 = (.tuple #[(.agg #[v9303, v9307]), (.agg #[(.int .i64 r9301.2.1.Code), (.int .i64 r9301.2.1.Buffer)]), (.int .i64 r9301.2.2)])) ∧ (b 5 = true → vs 5 = (.agg #[v9303, v9307])) ∧ (b 6 = true → vs 6 = (.agg #[(.int .i64 r9301.2.1.Code), (.int .i64 r9301.2.1.Buffer)])) ∧ (b 7 = true → vs 7 = (.int .i64 r9301.2.2)) ∧ (b 8 = true → vs 8 = (.pointer (some ⟨g9803, 0, none⟩))) ∧ (b 9 = true → vs 9 = (.pointer (some ⟨g9901, 0, none⟩))) ∧ (b 12 = true → vs 12 = (.int .i64 r9301.2.2)) ∧ (b 3 = true → OwF 3 (FK.int .i64) v9303 r9301.1.Free h9305) ∧ (b 3 = true → OwF 3 (FK.int .i64) v9307 r9301.1.Owner h9309) ∧ Mem w0 w (cat [sg g8467 28 (0, 0) [] [v8456, v8460] [], h8458, h8462, sg g6484 46 (0, 0) [] [(.int .i64 a1.Kind), (.int .i64 a1.Owner), (.int .i64 a1.To), (.int .i64 a1.Buffer)] [], hz9000, (bif b 3 then h9305 else []), (bif b 3 then h9309 else []), (bif b 10 then sg g9803 28 (0, 0) [] [v9303, v9307] [] else (bif b 8 then sg g9803 28 (0, 0) [] [(.slice none 0 0), (.slice none 0 0)] [] else [])), (bif b 11 then sg g9901 35 (0, 0) [] [(.int .i64 r9301.2.1.Code), (.int .i64 r9301.2.1.Buffer)] [] else (bif b 9 then sg g9901 35 (0, 0) [] [(.int .i64 0), (.int .i64 0)] [] else []))])) mixed (by kernel_rfl) ⟨fun _ => undef, undef, [], undef, [], 0, 0, (by rw [sel_false]), fun h => fno h, fun h => fno h, fun h => fno h, fun h => fno h, fun h => fno h, fun h => fno h, fun h => fno h, fun h => fno h, fun h => fno h, fun h => fno h, fun h => fno h, fun h => fno h, fun h => fno h, Mem.drew (Mem.pick [0, 1, 2, 3, 4, 1000, 1001, 1002, 1003] rfl hm9000)⟩ (steps_cons (i := 0) ?_ (steps_cons (i := 1) ?_ (steps_cons (i := 2) ?_ (steps_cons (i := 3) ?_ (steps_cons (i := 4) ?_ (steps_cons (i := 5) ?_ (steps_cons (i := 6) ?_ (steps_cons (i := 7) ?_ (steps_cons (i := 8) ?_ (steps_cons (i := 9) ?_ (steps_cons (i := 10) ?_ (steps_cons (i := 11) ?_ (steps_cons (i := 12) ?_ steps_nil))))))))))))) ?_
  ·
   intro b a w hI hbi hn hc K hK
   obtain ⟨vs, v9303, h9305, v9307, h9309, g9803, g9901, ha, y0, y1, y2, y3, y4, y5, y6, y7, y8, y9, y12, H9304, H9308, hm⟩ := hI
   subst ha
   have b3 : b 3 = false := later (j := 3) hc rfl (i := 0) (da rfl) hbi
   have b4 : b 4 = false := later (j := 4) hc rfl (i := 3) (da rfl) b3
   have b5 : b 5 = false := later (j := 5) hc rfl (i := 4) (da rfl) b4
   have b6 : b 6 = false := later (j := 6) hc rfl (i := 4) (da rfl) b4
   have b7 : b 7 = false := later (j := 7) hc rfl (i := 4) (da rfl) b4
   have b10 : b 10 = false := later (j := 10) hc rfl (i := 0) (da rfl) hbi
   have b11 : b 11 = false := later (j := 11) hc rfl (i := 0) (da rfl) hbi
   have b12 : b 12 = false := later (j := 12) hc rfl (i := 0) (da rfl) hbi
   have hm10301 : Mem w0 w (cat [sg g8467 28 (0, 0) [] [v8456, v8460] [], h8458, h8462, sg g6484 46 (0, 0) [] [(.int .i64 a1.Kind), (.int .i64 a1.Owner), (.int .i64 a1.To), (.int .i64 a1.Buffer)] [], hz9000, (bif b 8 then sg g9803 28 (0, 0) [] [(.slice none 0 0), (.slice none 0 0)] [] else []), (bif b 9 then sg g9901 35 (0, 0) [] [(.int .i64 0), (.int .i64 0)] [] else [])]) := Mem.pick [0, 1, 2, 3, 4, 7, 8] rfl (Mem.cg (B := [sg g8467 28 (0, 0) [] [v8456, v8460] [], h8458, h8462, sg g6484 46 (0, 0) [] [(.int .i64 a1.Kind), (.int .i64 a1.Owner), (.int .i64 a1.To), (.int .i64 a1.Buffer)] [], hz9000, [], [], (bif b 8 then sg g9803 28 (0, 0) [] [(.slice none 0 0), (.slice none 0 0)] [] else []), (bif b 9 then sg g9901 35 (0, 0) [] [(.int .i64 0), (.int .i64 0)] [] else [])]) (cat_cons rfl (cat_cons rfl (cat_cons rfl (cat_cons rfl (cat_cons rfl (cat_cons (off_ b3 rfl) (cat_cons (off_ b3 rfl) (cat_cons (off_ b10 rfl) (cat_cons (off_ b11 rfl) rfl))))))))) hm)
   refine e_val (i := 0) hbi rfl rfl (v := (.agg #[v8456, v8460])) (won rfl) rfl rfl (x_loadN (vs := [v8456, v8460]) rfl tyN_28 (ev (t := 9) (v := (.pointer (some ⟨g8467, 0, none⟩))) rfl ((sel_no rfl).trans rfl)) (seg_cells (o' := 0) (j := 0) hm10301 (k := 0) rfl rfl rfl)) ?_
   exact hK _ _ ⟨_, v9303, h9305, v9307, h9309, g9803, g9901, rfl, fun _ => rfl, y1, y2, y3, y4, y5, y6, y7, y8, y9, y12, H9304, H9308, Mem.gc (A := [sg g8467 28 (0, 0) [] [v8456, v8460] [], h8458, h8462, sg g6484 46 (0, 0) [] [(.int .i64 a1.Kind), (.int .i64 a1.Owner), (.int .i64 a1.To), (.int .i64 a1.Buffer)] [], hz9000, [], [], (bif b 8 then sg g9803 28 (0, 0) [] [(.slice none 0 0), (.slice none 0 0)] [] else []), (bif b 9 then sg g9901 35 (0, 0) [] [(.int .i64 0), (.int .i64 0)] [] else [])]) (cat_cons rfl (cat_cons rfl (cat_cons rfl (cat_cons rfl (cat_cons rfl (cat_cons (off_ b3 rfl) (cat_cons (off_ b3 rfl) (cat_cons (off_ b10 rfl) (cat_cons (off_ b11 rfl) rfl))))))))) (Mem.pick [0, 1, 2, 3, 4, 1005, 1006, 5, 6] rfl hm10301)⟩
  ·
   intro b a w hI hbi hn hc K hK
   obtain ⟨vs, v9303, h9305, v9307, h9309, g9803, g9901, ha, y0, y1, y2, y3, y4, y5, y6, y7, y8, y9, y12, H9304, H9308, hm⟩ := hI
   subst ha
   have b2 : b 2 = false := later (j := 2) hc rfl (i := 1) (da rfl) hbi
   have b3 : b 3 = false := later (j := 3) hc rfl (i := 2) (da rfl) b2
   have b4 : b 4 = false := later (j := 4) hc rfl (i := 3) (da rfl) b3
   have b5 : b 5 = false := later (j := 5) hc rfl (i := 4) (da rfl) b4
   have b6 : b 6 = false := later (j := 6) hc rfl (i := 4) (da rfl) b4
   have b7 : b 7 = false := later (j := 7) hc rfl (i := 4) (da rfl) b4
   have b10 : b 10 = false := later (j := 10) hc rfl (i := 1) (da rfl) hbi
   have b11 : b 11 = false := later (j := 11) hc rfl (i := 1) (da rfl) hbi
   have b12 : b 12 = false := later (j := 12) hc rfl (i := 1) (da rfl) hbi
   have hm10304 : Mem w0 w (cat [sg g8467 28 (0, 0) [] [v8456, v8460] [], h8458, h8462, sg g6484 46 (0, 0) [] [(.int .i64 a1.Kind), (.int .i64 a1.Owner), (.int .i64 a1.To), (.int .i64 a1.Buffer)] [], hz9000, (bif b 8 then sg g9803 28 (0, 0) [] [(.slice none 0 0), (.slice none 0 0)] [] else []), (bif b 9 then sg g9901 35 (0, 0) [] [(.int .i64 0), (.int .i64 0)] [] else [])]) := Mem.pick [0, 1, 2, 3, 4, 7, 8] rfl (Mem.cg (B := [sg g8467 28 (0, 0) [] [v8456, v8460] [], h8458, h8462, sg g6484 46 (0, 0) [] [(.int .i64 a1.Kind), (.int .i64 a1.Owner), (.int .i64 a1.To), (.int .i64 a1.Buffer)] [], hz9000, [], [], (bif b 8 then sg g9803 28 (0, 0) [] [(.slice none 0 0), (.slice none 0 0)] [] else []), (bif b 9 then sg g9901 35 (0, 0) [] [(.int .i64 0), (.int .i64 0)] [] else [])]) (cat_cons rfl (cat_cons rfl (cat_cons rfl (cat_cons rfl (cat_cons rfl (cat_cons (off_ b3 rfl) (cat_cons (off_ b3 rfl) (cat_cons (off_ b10 rfl) (cat_cons (off_ b11 rfl) rfl))))))))) hm)
   refine e_val (i := 1) hbi rfl rfl (v := (.agg #[(.int .i64 a1.Kind), (.int .i64 a1.Owner), (.int .i64 a1.To), (.int .i64 a1.Buffer)])) (won rfl) rfl rfl (x_loadN (vs := [(.int .i64 a1.Kind), (.int .i64 a1.Owner), (.int .i64 a1.To), (.int .i64 a1.Buffer)]) rfl tyN_46 (ev (t := 3) (v := (.pointer (some ⟨g6484, 0, none⟩))) rfl ((sel_no rfl).trans z7000x3)) (seg_cells (o' := 0) (j := 0) hm10304 (k := 3) rfl rfl rfl)) ?_
   exact hK _ _ ⟨_, v9303, h9305, v9307, h9309, g9803, g9901, rfl, y0, fun _ => rfl, y2, y3, y4, y5, y6, y7, y8, y9, y12, H9304, H9308, Mem.gc (A := [sg g8467 28 (0, 0) [] [v8456, v8460] [], h8458, h8462, sg g6484 46 (0, 0) [] [(.int .i64 a1.Kind), (.int .i64 a1.Owner), (.int .i64 a1.To), (.int .i64 a1.Buffer)] [], hz9000, [], [], (bif b 8 then sg g9803 28 (0, 0) [] [(.slice none 0 0), (.slice none 0 0)] [] else []), (bif b 9 then sg g9901 35 (0, 0) [] [(.int .i64 0), (.int .i64 0)] [] else [])]) (cat_cons rfl (cat_cons rfl (cat_cons rfl (cat_cons rfl (cat_cons rfl (cat_cons (off_ b3 rfl) (cat_cons (off_ b3 rfl) (cat_cons (off_ b10 rfl) (cat_cons (off_ b11 rfl) rfl))))))))) (Mem.pick [0, 1, 2, 3, 4, 1005, 1006, 5, 6] rfl hm10304)⟩
  ·
   intro b a w hI hbi hn hc K hK
   obtain ⟨vs, v9303, h9305, v9307, h9309, g9803, g9901, ha, y0, y1, y2, y3, y4, y5, y6, y7, y8, y9, y12, H9304, H9308, hm⟩ := hI
   subst ha
   have b1 : b 1 = true := hn 1 (da rfl)
   have b3 : b 3 = false := later (j := 3) hc rfl (i := 2) (da rfl) hbi
   have b4 : b 4 = false := later (j := 4) hc rfl (i := 3) (da rfl) b3
   have b5 : b 5 = false := later (j := 5) hc rfl (i := 4) (da rfl) b4
   have b6 : b 6 = false := later (j := 6) hc rfl (i := 4) (da rfl) b4
   have b7 : b 7 = false := later (j := 7) hc rfl (i := 4) (da rfl) b4
   have b10 : b 10 = false := later (j := 10) hc rfl (i := 2) (da rfl) hbi
   have b11 : b 11 = false := later (j := 11) hc rfl (i := 2) (da rfl) hbi
   have b12 : b 12 = false := later (j := 12) hc rfl (i := 2) (da rfl) hbi
   have hm10307 : Mem w0 w (cat [sg g8467 28 (0, 0) [] [v8456, v8460] [], h8458, h8462, sg g6484 46 (0, 0) [] [(.int .i64 a1.Kind), (.int .i64 a1.Owner), (.int .i64 a1.To), (.int .i64 a1.Buffer)] [], hz9000, (bif b 8 then sg g9803 28 (0, 0) [] [(.slice none 0 0), (.slice none 0 0)] [] else []), (bif b 9 then sg g9901 35 (0, 0) [] [(.int .i64 0), (.int .i64 0)] [] else [])]) := Mem.pick [0, 1, 2, 3, 4, 7, 8] rfl (Mem.cg (B := [sg g8467 28 (0, 0) [] [v8456, v8460] [], h8458, h8462, sg g6484 46 (0, 0) [] [(.int .i64 a1.Kind), (.int .i64 a1.Owner), (.int .i64 a1.To), (.int .i64 a1.Buffer)] [], hz9000, [], [], (bif b 8 then sg g9803 28 (0, 0) [] [(.slice none 0 0), (.slice none 0 0)] [] else []), (bif b 9 then sg g9901 35 (0, 0) [] [(.int .i64 0), (.int .i64 0)] [] else [])]) (cat_cons rfl (cat_cons rfl (cat_cons rfl (cat_cons rfl (cat_cons rfl (cat_cons (off_ b3 rfl) (cat_cons (off_ b3 rfl) (cat_cons (off_ b10 rfl) (cat_cons (off_ b11 rfl) rfl))))))))) hm)
   refine e_call (i := 2) hbi rfl rfl (won rfl) rfl rfl (x_call rfl rfl cl_21 (map_lit (map_cons (ev (t := 37) (v := (.agg #[(.int .i64 a1.Kind), (.int .i64 a1.Owner), (.int .i64 a1.To), (.int .i64 a1.Buffer)])) rfl ((sel_on (p := (1, 37)) rfl b1).trans (y1 b1))) map_nil))) (laws_toPoolAct_ok (hR := (cat [])) (hF := cat [sg g8467 28 (0, 0) [] [v8456, v8460] [], h8458, h8462, sg g6484 46 (0, 0) [] [(.int .i64 a1.Kind), (.int .i64 a1.Owner), (.int .i64 a1.To), (.int .i64 a1.Buffer)] [], hz9000, (bif b 8 then sg g9803 28 (0, 0) [] [(.slice none 0 0), (.slice none 0 0)] [] else []), (bif b 9 then sg g9901 35 (0, 0) [] [(.int .i64 0), (.int .i64 0)] [] else [])]) a1  (Mem.one hm10307) hr9201) ?_
   rintro e w9202 ⟨rfl, hm9203⟩
   refine ⟨_, rfl, ?_⟩
   replace hm9203 : Mem w0 w9202 (cat [sg g8467 28 (0, 0) [] [v8456, v8460] [], h8458, h8462, sg g6484 46 (0, 0) [] [(.int .i64 a1.Kind), (.int .i64 a1.Owner), (.int .i64 a1.To), (.int .i64 a1.Buffer)] [], hz9000, (bif b 8 then sg g9803 28 (0, 0) [] [(.slice none 0 0), (.slice none 0 0)] [] else []), (bif b 9 then sg g9901 35 (0, 0) [] [(.int .i64 0), (.int .i64 0)] [] else [])]) := Mem.un hm9203
   exact hK _ _ ⟨_, v9303, h9305, v9307, h9309, g9803, g9901, rfl, y0, y1, fun _ => rfl, y3, y4, y5, y6, y7, y8, y9, y12, H9304, H9308, Mem.gc (A := [sg g8467 28 (0, 0) [] [v8456, v8460] [], h8458, h8462, sg g6484 46 (0, 0) [] [(.int .i64 a1.Kind), (.int .i64 a1.Owner), (.int .i64 a1.To), (.int .i64 a1.Buffer)] [], hz9000, [], [], (bif b 8 then sg g9803 28 (0, 0) [] [(.slice none 0 0), (.slice none 0 0)] [] else []), (bif b 9 then sg g9901 35 (0, 0) [] [(.int .i64 0), (.int .i64 0)] [] else [])]) (cat_cons rfl (cat_cons rfl (cat_cons rfl (cat_cons rfl (cat_cons rfl (cat_cons (off_ b3 rfl) (cat_cons (off_ b3 rfl) (cat_cons (off_ b10 rfl) (cat_cons (off_ b11 rfl) rfl))))))))) (Mem.pick [0, 1, 2, 3, 4, 1005, 1006, 5, 6] rfl hm9203)⟩
  ·
   intro b a w hI hbi hn hc K hK
   obtain ⟨vs, v9303, h9305, v9307, h9309, g9803, g9901, ha, y0, y1, y2, y3, y4, y5, y6, y7, y8, y9, y12, H9304, H9308, hm⟩ := hI
   subst ha
   have b0 : b 0 = true := hn 0 (da rfl)
   have b2 : b 2 = true := hn 2 (da rfl)
   have b1 : b 1 = true := hc 2 _ rfl b2 1 (da rfl)
   have b4 : b 4 = false := later (j := 4) hc rfl (i := 3) (da rfl) hbi
   have b5 : b 5 = false := later (j := 5) hc rfl (i := 4) (da rfl) b4
   have b6 : b 6 = false := later (j := 6) hc rfl (i := 4) (da rfl) b4
   have b7 : b 7 = false := later (j := 7) hc rfl (i := 4) (da rfl) b4
   have b10 : b 10 = false := later (j := 10) hc rfl (i := 3) (da rfl) hbi
   have b11 : b 11 = false := later (j := 11) hc rfl (i := 3) (da rfl) hbi
   have b12 : b 12 = false := later (j := 12) hc rfl (i := 3) (da rfl) hbi
   have hm10310 : Mem w0 w (cat [sg g8467 28 (0, 0) [] [v8456, v8460] [], h8458, h8462, sg g6484 46 (0, 0) [] [(.int .i64 a1.Kind), (.int .i64 a1.Owner), (.int .i64 a1.To), (.int .i64 a1.Buffer)] [], hz9000, (bif b 8 then sg g9803 28 (0, 0) [] [(.slice none 0 0), (.slice none 0 0)] [] else []), (bif b 9 then sg g9901 35 (0, 0) [] [(.int .i64 0), (.int .i64 0)] [] else [])]) := Mem.pick [0, 1, 2, 3, 4, 7, 8] rfl (Mem.cg (B := [sg g8467 28 (0, 0) [] [v8456, v8460] [], h8458, h8462, sg g6484 46 (0, 0) [] [(.int .i64 a1.Kind), (.int .i64 a1.Owner), (.int .i64 a1.To), (.int .i64 a1.Buffer)] [], hz9000, [], [], (bif b 8 then sg g9803 28 (0, 0) [] [(.slice none 0 0), (.slice none 0 0)] [] else []), (bif b 9 then sg g9901 35 (0, 0) [] [(.int .i64 0), (.int .i64 0)] [] else [])]) (cat_cons rfl (cat_cons rfl (cat_cons rfl (cat_cons rfl (cat_cons rfl (cat_cons (off_ hbi rfl) (cat_cons (off_ hbi rfl) (cat_cons (off_ b10 rfl) (cat_cons (off_ b11 rfl) rfl))))))))) hm)
   refine e_call (i := 3) hbi rfl rfl (won rfl) rfl rfl (x_call rfl rfl cl_14 (map_lit (map_cons (ev (t := 36) (v := (.agg #[v8456, v8460])) rfl ((sel_on (p := (0, 36)) rfl b0).trans (y0 b0))) (map_cons (ev (t := 38) (v := (.agg #[(.int .i64 r9201.Kind), (.int .i64 r9201.Owner), (.int .i64 r9201.To), (.int .i64 r9201.Buffer)])) rfl ((sel_on (p := (2, 38)) rfl b2).trans (y2 b2))) map_nil)))) (impl_PoolStep_ok F (hR := (cat [h8458, h8462])) (hF := cat [sg g8467 28 (0, 0) [] [v8456, v8460] [], h8458, h8462, sg g6484 46 (0, 0) [] [(.int .i64 a1.Kind), (.int .i64 a1.Owner), (.int .i64 a1.To), (.int .i64 a1.Buffer)] [], hz9000, (bif b 8 then sg g9803 28 (0, 0) [] [(.slice none 0 0), (.slice none 0 0)] [] else []), (bif b 9 then sg g9901 35 (0, 0) [] [(.int .i64 0), (.int .i64 0)] [] else [])]) r8454 r9201 ((H8457.rd w0).mono (Sub.at_ (k := 0) rfl)) ((H8461.rd w0).mono (Sub.at_ (k := 1) rfl)) (subc (Sub.at_ (k := 1) rfl) (subc (Sub.at_ (k := 2) rfl) subn)) (Mem.one hm10310) hr9301) ?_
   rintro e w9310 ⟨v9303, h9305, v9307, h9309, rfl, H9304, H9308, hm9311⟩
   refine ⟨_, rfl, ?_⟩
   replace hm9311 : Mem w0 w9310 (cat [h9305, h9309, sg g8467 28 (0, 0) [] [v8456, v8460] [], h8458, h8462, sg g6484 46 (0, 0) [] [(.int .i64 a1.Kind), (.int .i64 a1.Owner), (.int .i64 a1.To), (.int .i64 a1.Buffer)] [], hz9000, (bif b 8 then sg g9803 28 (0, 0) [] [(.slice none 0 0), (.slice none 0 0)] [] else []), (bif b 9 then sg g9901 35 (0, 0) [] [(.int .i64 0), (.int .i64 0)] [] else [])]) := Mem.ung [h9305, h9309] [sg g8467 28 (0, 0) [] [v8456, v8460] [], h8458, h8462, sg g6484 46 (0, 0) [] [(.int .i64 a1.Kind), (.int .i64 a1.Owner), (.int .i64 a1.To), (.int .i64 a1.Buffer)] [], hz9000, (bif b 8 then sg g9803 28 (0, 0) [] [(.slice none 0 0), (.slice none 0 0)] [] else []), (bif b 9 then sg g9901 35 (0, 0) [] [(.int .i64 0), (.int .i64 0)] [] else [])] hm9311
   exact hK _ _ ⟨_, v9303, h9305, v9307, h9309, g9803, g9901, rfl, y0, y1, y2, fun _ => rfl, fun hb => ab b4 hb, fun hb => ab b5 hb, y6, y7, y8, y9, y12, fun _ => H9304, fun _ => H9308, Mem.gc (A := [sg g8467 28 (0, 0) [] [v8456, v8460] [], h8458, h8462, sg g6484 46 (0, 0) [] [(.int .i64 a1.Kind), (.int .i64 a1.Owner), (.int .i64 a1.To), (.int .i64 a1.Buffer)] [], hz9000, h9305, h9309, (bif b 8 then sg g9803 28 (0, 0) [] [(.slice none 0 0), (.slice none 0 0)] [] else []), (bif b 9 then sg g9901 35 (0, 0) [] [(.int .i64 0), (.int .i64 0)] [] else [])]) (cat_cons rfl (cat_cons rfl (cat_cons rfl (cat_cons rfl (cat_cons rfl (cat_cons (on_ rfl rfl) (cat_cons (on_ rfl rfl) (cat_cons (off_ b10 rfl) (cat_cons (off_ b11 rfl) rfl))))))))) (Mem.pick [2, 3, 4, 5, 6, 0, 1, 7, 8] rfl hm9311)⟩
  ·
   intro b a w hI hbi hn hc K hK
   obtain ⟨vs, v9303, h9305, v9307, h9309, g9803, g9901, ha, y0, y1, y2, y3, y4, y5, y6, y7, y8, y9, y12, H9304, H9308, hm⟩ := hI
   subst ha
   have b3 : b 3 = true := hn 3 (da rfl)
   have b0 : b 0 = true := hc 3 _ rfl b3 0 (da rfl)
   have b2 : b 2 = true := hc 3 _ rfl b3 2 (da rfl)
   have b1 : b 1 = true := hc 2 _ rfl b2 1 (da rfl)
   have b5 : b 5 = false := later (j := 5) hc rfl (i := 4) (da rfl) hbi
   have b6 : b 6 = false := later (j := 6) hc rfl (i := 4) (da rfl) hbi
   have b7 : b 7 = false := later (j := 7) hc rfl (i := 4) (da rfl) hbi
   have b10 : b 10 = false := later (j := 10) hc rfl (i := 4) (da rfl) hbi
   have b11 : b 11 = false := later (j := 11) hc rfl (i := 4) (da rfl) hbi
   have b12 : b 12 = false := later (j := 12) hc rfl (i := 4) (da rfl) hbi
   have H9304 := H9304 b3
   have H9308 := H9308 b3
   have hm10313 : Mem w0 w (cat [sg g8467 28 (0, 0) [] [v8456, v8460] [], h8458, h8462, sg g6484 46 (0, 0) [] [(.int .i64 a1.Kind), (.int .i64 a1.Owner), (.int .i64 a1.To), (.int .i64 a1.Buffer)] [], hz9000, h9305, h9309, (bif b 8 then sg g9803 28 (0, 0) [] [(.slice none 0 0), (.slice none 0 0)] [] else []), (bif b 9 then sg g9901 35 (0, 0) [] [(.int .i64 0), (.int .i64 0)] [] else [])]) := Mem.pick [0, 1, 2, 3, 4, 5, 6, 7, 8] rfl (Mem.cg (B := [sg g8467 28 (0, 0) [] [v8456, v8460] [], h8458, h8462, sg g6484 46 (0, 0) [] [(.int .i64 a1.Kind), (.int .i64 a1.Owner), (.int .i64 a1.To), (.int .i64 a1.Buffer)] [], hz9000, h9305, h9309, (bif b 8 then sg g9803 28 (0, 0) [] [(.slice none 0 0), (.slice none 0 0)] [] else []), (bif b 9 then sg g9901 35 (0, 0) [] [(.int .i64 0), (.int .i64 0)] [] else [])]) (cat_cons rfl (cat_cons rfl (cat_cons rfl (cat_cons rfl (cat_cons rfl (cat_cons (on_ b3 rfl) (cat_cons (on_ b3 rfl) (cat_cons (off_ b10 rfl) (cat_cons (off_ b11 rfl) rfl))))))))) hm)
   refine e_val (i := 4) hbi rfl rfl (v := (.tuple #[(.agg #[v9303, v9307]), (.agg #[(.int .i64 r9301.2.1.Code), (.int .i64 r9301.2.1.Buffer)]), (.int .i64 r9301.2.2)])) (won rfl) rfl rfl (x_move rfl (ev (t := 39) (v := (.tuple #[(.agg #[v9303, v9307]), (.agg #[(.int .i64 r9301.2.1.Code), (.int .i64 r9301.2.1.Buffer)]), (.int .i64 r9301.2.2)])) rfl ((sel_on (p := (3, 39)) rfl b3).trans (y3 b3)))) ?_
   exact hK _ _ ⟨_, v9303, h9305, v9307, h9309, g9803, g9901, rfl, y0, y1, y2, y3, fun _ => rfl, y5, y6, y7, y8, y9, y12, fun _ => H9304, fun _ => H9308, Mem.gc (A := [sg g8467 28 (0, 0) [] [v8456, v8460] [], h8458, h8462, sg g6484 46 (0, 0) [] [(.int .i64 a1.Kind), (.int .i64 a1.Owner), (.int .i64 a1.To), (.int .i64 a1.Buffer)] [], hz9000, h9305, h9309, (bif b 8 then sg g9803 28 (0, 0) [] [(.slice none 0 0), (.slice none 0 0)] [] else []), (bif b 9 then sg g9901 35 (0, 0) [] [(.int .i64 0), (.int .i64 0)] [] else [])]) (cat_cons rfl (cat_cons rfl (cat_cons rfl (cat_cons rfl (cat_cons rfl (cat_cons (on_ b3 rfl) (cat_cons (on_ b3 rfl) (cat_cons (off_ b10 rfl) (cat_cons (off_ b11 rfl) rfl))))))))) (Mem.pick [0, 1, 2, 3, 4, 5, 6, 7, 8] rfl hm10313)⟩
  ·
   intro b a w hI hbi hn hc K hK
   obtain ⟨vs, v9303, h9305, v9307, h9309, g9803, g9901, ha, y0, y1, y2, y3, y4, y5, y6, y7, y8, y9, y12, H9304, H9308, hm⟩ := hI
   subst ha
   have b4 : b 4 = true := hn 4 (da rfl)
   have b3 : b 3 = true := hc 4 _ rfl b4 3 (da rfl)
   have b0 : b 0 = true := hc 3 _ rfl b3 0 (da rfl)
   have b2 : b 2 = true := hc 3 _ rfl b3 2 (da rfl)
   have b1 : b 1 = true := hc 2 _ rfl b2 1 (da rfl)
   have b10 : b 10 = false := later (j := 10) hc rfl (i := 5) (da rfl) hbi
   have b11 : b 11 = false := later (j := 11) hc rfl (i := 5) (da rfl) hbi
   have b12 : b 12 = false := later (j := 12) hc rfl (i := 5) (da rfl) hbi
   have H9304 := H9304 b3
   have H9308 := H9308 b3
   have hm10316 : Mem w0 w (cat [sg g8467 28 (0, 0) [] [v8456, v8460] [], h8458, h8462, sg g6484 46 (0, 0) [] [(.int .i64 a1.Kind), (.int .i64 a1.Owner), (.int .i64 a1.To), (.int .i64 a1.Buffer)] [], hz9000, h9305, h9309, (bif b 8 then sg g9803 28 (0, 0) [] [(.slice none 0 0), (.slice none 0 0)] [] else []), (bif b 9 then sg g9901 35 (0, 0) [] [(.int .i64 0), (.int .i64 0)] [] else [])]) := Mem.pick [0, 1, 2, 3, 4, 5, 6, 7, 8] rfl (Mem.cg (B := [sg g8467 28 (0, 0) [] [v8456, v8460] [], h8458, h8462, sg g6484 46 (0, 0) [] [(.int .i64 a1.Kind), (.int .i64 a1.Owner), (.int .i64 a1.To), (.int .i64 a1.Buffer)] [], hz9000, h9305, h9309, (bif b 8 then sg g9803 28 (0, 0) [] [(.slice none 0 0), (.slice none 0 0)] [] else []), (bif b 9 then sg g9901 35 (0, 0) [] [(.int .i64 0), (.int .i64 0)] [] else [])]) (cat_cons rfl (cat_cons rfl (cat_cons rfl (cat_cons rfl (cat_cons rfl (cat_cons (on_ b3 rfl) (cat_cons (on_ b3 rfl) (cat_cons (off_ b10 rfl) (cat_cons (off_ b11 rfl) rfl))))))))) hm)
   refine e_val (i := 5) hbi rfl rfl (v := (.agg #[v9303, v9307])) (won rfl) rfl rfl (x_extract rfl (ev (t := 35) (v := (.tuple #[(.agg #[v9303, v9307]), (.agg #[(.int .i64 r9301.2.1.Code), (.int .i64 r9301.2.1.Buffer)]), (.int .i64 r9301.2.2)])) rfl ((sel_on (p := (4, 35)) rfl b4).trans (y4 b4))) rfl) ?_
   exact hK _ _ ⟨_, v9303, h9305, v9307, h9309, g9803, g9901, rfl, y0, y1, y2, y3, y4, fun _ => rfl, y6, y7, y8, y9, y12, fun _ => H9304, fun _ => H9308, Mem.gc (A := [sg g8467 28 (0, 0) [] [v8456, v8460] [], h8458, h8462, sg g6484 46 (0, 0) [] [(.int .i64 a1.Kind), (.int .i64 a1.Owner), (.int .i64 a1.To), (.int .i64 a1.Buffer)] [], hz9000, h9305, h9309, (bif b 8 then sg g9803 28 (0, 0) [] [(.slice none 0 0), (.slice none 0 0)] [] else []), (bif b 9 then sg g9901 35 (0, 0) [] [(.int .i64 0), (.int .i64 0)] [] else [])]) (cat_cons rfl (cat_cons rfl (cat_cons rfl (cat_cons rfl (cat_cons rfl (cat_cons (on_ b3 rfl) (cat_cons (on_ b3 rfl) (cat_cons (off_ b10 rfl) (cat_cons (off_ b11 rfl) rfl))))))))) (Mem.pick [0, 1, 2, 3, 4, 5, 6, 7, 8] rfl hm10316)⟩
  ·
   intro b a w hI hbi hn hc K hK
   obtain ⟨vs, v9303, h9305, v9307, h9309, g9803, g9901, ha, y0, y1, y2, y3, y4, y5, y6, y7, y8, y9, y12, H9304, H9308, hm⟩ := hI
   subst ha
   have b4 : b 4 = true := hn 4 (da rfl)
   have b3 : b 3 = true := hc 4 _ rfl b4 3 (da rfl)
   have b0 : b 0 = true := hc 3 _ rfl b3 0 (da rfl)
   have b2 : b 2 = true := hc 3 _ rfl b3 2 (da rfl)
   have b1 : b 1 = true := hc 2 _ rfl b2 1 (da rfl)
   have b11 : b 11 = false := later (j := 11) hc rfl (i := 6) (da rfl) hbi
   have b12 : b 12 = false := later (j := 12) hc rfl (i := 6) (da rfl) hbi
   have H9304 := H9304 b3
   have H9308 := H9308 b3
   have hm10319 : Mem w0 w (cat [sg g8467 28 (0, 0) [] [v8456, v8460] [], h8458, h8462, sg g6484 46 (0, 0) [] [(.int .i64 a1.Kind), (.int .i64 a1.Owner), (.int .i64 a1.To), (.int .i64 a1.Buffer)] [], hz9000, h9305, h9309, (bif b 10 then sg g9803 28 (0, 0) [] [v9303, v9307] [] else (bif b 8 then sg g9803 28 (0, 0) [] [(.slice none 0 0), (.slice none 0 0)] [] else [])), (bif b 9 then sg g9901 35 (0, 0) [] [(.int .i64 0), (.int .i64 0)] [] else [])]) := Mem.pick [0, 1, 2, 3, 4, 5, 6, 7, 8] rfl (Mem.cg (B := [sg g8467 28 (0, 0) [] [v8456, v8460] [], h8458, h8462, sg g6484 46 (0, 0) [] [(.int .i64 a1.Kind), (.int .i64 a1.Owner), (.int .i64 a1.To), (.int .i64 a1.Buffer)] [], hz9000, h9305, h9309, (bif b 10 then sg g9803 28 (0, 0) [] [v9303, v9307] [] else (bif b 8 then sg g9803 28 (0, 0) [] [(.slice none 0 0), (.slice none 0 0)] [] else [])), (bif b 9 then sg g9901 35 (0, 0) [] [(.int .i64 0), (.int .i64 0)] [] else [])]) (cat_cons rfl (cat_cons rfl (cat_cons rfl (cat_cons rfl (cat_cons rfl (cat_cons (on_ b3 rfl) (cat_cons (on_ b3 rfl) (cat_cons rfl (cat_cons (off_ b11 rfl) rfl))))))))) hm)
   refine e_val (i := 6) hbi rfl rfl (v := (.agg #[(.int .i64 r9301.2.1.Code), (.int .i64 r9301.2.1.Buffer)])) (won rfl) rfl rfl (x_extract rfl (ev (t := 35) (v := (.tuple #[(.agg #[v9303, v9307]), (.agg #[(.int .i64 r9301.2.1.Code), (.int .i64 r9301.2.1.Buffer)]), (.int .i64 r9301.2.2)])) rfl ((sel_on (p := (4, 35)) rfl b4).trans (y4 b4))) rfl) ?_
   exact hK _ _ ⟨_, v9303, h9305, v9307, h9309, g9803, g9901, rfl, y0, y1, y2, y3, y4, y5, fun _ => rfl, y7, y8, y9, y12, fun _ => H9304, fun _ => H9308, Mem.gc (A := [sg g8467 28 (0, 0) [] [v8456, v8460] [], h8458, h8462, sg g6484 46 (0, 0) [] [(.int .i64 a1.Kind), (.int .i64 a1.Owner), (.int .i64 a1.To), (.int .i64 a1.Buffer)] [], hz9000, h9305, h9309, (bif b 10 then sg g9803 28 (0, 0) [] [v9303, v9307] [] else (bif b 8 then sg g9803 28 (0, 0) [] [(.slice none 0 0), (.slice none 0 0)] [] else [])), (bif b 9 then sg g9901 35 (0, 0) [] [(.int .i64 0), (.int .i64 0)] [] else [])]) (cat_cons rfl (cat_cons rfl (cat_cons rfl (cat_cons rfl (cat_cons rfl (cat_cons (on_ b3 rfl) (cat_cons (on_ b3 rfl) (cat_cons rfl (cat_cons (off_ b11 rfl) rfl))))))))) (Mem.pick [0, 1, 2, 3, 4, 5, 6, 7, 8] rfl hm10319)⟩
  ·
   intro b a w hI hbi hn hc K hK
   obtain ⟨vs, v9303, h9305, v9307, h9309, g9803, g9901, ha, y0, y1, y2, y3, y4, y5, y6, y7, y8, y9, y12, H9304, H9308, hm⟩ := hI
   subst ha
   have b4 : b 4 = true := hn 4 (da rfl)
   have b3 : b 3 = true := hc 4 _ rfl b4 3 (da rfl)
   have b0 : b 0 = true := hc 3 _ rfl b3 0 (da rfl)
   have b2 : b 2 = true := hc 3 _ rfl b3 2 (da rfl)
   have b1 : b 1 = true := hc 2 _ rfl b2 1 (da rfl)
   have b12 : b 12 = false := later (j := 12) hc rfl (i := 7) (da rfl) hbi
   have H9304 := H9304 b3
   have H9308 := H9308 b3
   have hm10322 : Mem w0 w (cat [sg g8467 28 (0, 0) [] [v8456, v8460] [], h8458, h8462, sg g6484 46 (0, 0) [] [(.int .i64 a1.Kind), (.int .i64 a1.Owner), (.int .i64 a1.To), (.int .i64 a1.Buffer)] [], hz9000, h9305, h9309, (bif b 10 then sg g9803 28 (0, 0) [] [v9303, v9307] [] else (bif b 8 then sg g9803 28 (0, 0) [] [(.slice none 0 0), (.slice none 0 0)] [] else [])), (bif b 11 then sg g9901 35 (0, 0) [] [(.int .i64 r9301.2.1.Code), (.int .i64 r9301.2.1.Buffer)] [] else (bif b 9 then sg g9901 35 (0, 0) [] [(.int .i64 0), (.int .i64 0)] [] else []))]) := Mem.pick [0, 1, 2, 3, 4, 5, 6, 7, 8] rfl (Mem.cg (B := [sg g8467 28 (0, 0) [] [v8456, v8460] [], h8458, h8462, sg g6484 46 (0, 0) [] [(.int .i64 a1.Kind), (.int .i64 a1.Owner), (.int .i64 a1.To), (.int .i64 a1.Buffer)] [], hz9000, h9305, h9309, (bif b 10 then sg g9803 28 (0, 0) [] [v9303, v9307] [] else (bif b 8 then sg g9803 28 (0, 0) [] [(.slice none 0 0), (.slice none 0 0)] [] else [])), (bif b 11 then sg g9901 35 (0, 0) [] [(.int .i64 r9301.2.1.Code), (.int .i64 r9301.2.1.Buffer)] [] else (bif b 9 then sg g9901 35 (0, 0) [] [(.int .i64 0), (.int .i64 0)] [] else []))]) (cat_cons rfl (cat_cons rfl (cat_cons rfl (cat_cons rfl (cat_cons rfl (cat_cons (on_ b3 rfl) (cat_cons (on_ b3 rfl) (cat_cons rfl (cat_cons rfl rfl))))))))) hm)
   refine e_val (i := 7) hbi rfl rfl (v := (.int .i64 r9301.2.2)) (won rfl) rfl rfl (x_extract rfl (ev (t := 35) (v := (.tuple #[(.agg #[v9303, v9307]), (.agg #[(.int .i64 r9301.2.1.Code), (.int .i64 r9301.2.1.Buffer)]), (.int .i64 r9301.2.2)])) rfl ((sel_on (p := (4, 35)) rfl b4).trans (y4 b4))) rfl) ?_
   exact hK _ _ ⟨_, v9303, h9305, v9307, h9309, g9803, g9901, rfl, y0, y1, y2, y3, y4, y5, y6, fun _ => rfl, y8, y9, y12, fun _ => H9304, fun _ => H9308, Mem.gc (A := [sg g8467 28 (0, 0) [] [v8456, v8460] [], h8458, h8462, sg g6484 46 (0, 0) [] [(.int .i64 a1.Kind), (.int .i64 a1.Owner), (.int .i64 a1.To), (.int .i64 a1.Buffer)] [], hz9000, h9305, h9309, (bif b 10 then sg g9803 28 (0, 0) [] [v9303, v9307] [] else (bif b 8 then sg g9803 28 (0, 0) [] [(.slice none 0 0), (.slice none 0 0)] [] else [])), (bif b 11 then sg g9901 35 (0, 0) [] [(.int .i64 r9301.2.1.Code), (.int .i64 r9301.2.1.Buffer)] [] else (bif b 9 then sg g9901 35 (0, 0) [] [(.int .i64 0), (.int .i64 0)] [] else []))]) (cat_cons rfl (cat_cons rfl (cat_cons rfl (cat_cons rfl (cat_cons rfl (cat_cons (on_ b3 rfl) (cat_cons (on_ b3 rfl) (cat_cons rfl (cat_cons rfl rfl))))))))) (Mem.pick [0, 1, 2, 3, 4, 5, 6, 7, 8] rfl hm10322)⟩
  ·
   intro b a w hI hbi hn hc K hK
   obtain ⟨vs, v9303, h9305, v9307, h9309, g9803, g9901, ha, y0, y1, y2, y3, y4, y5, y6, y7, y8, y9, y12, H9304, H9308, hm⟩ := hI
   subst ha
   have b10 : b 10 = false := later (j := 10) hc rfl (i := 8) (da rfl) hbi
   have b11 : b 11 = false := later (j := 11) hc rfl (i := 8) (da rfl) hbi
   have b12 : b 12 = false := later (j := 12) hc rfl (i := 8) (da rfl) hbi
   have hm10325 : Mem w0 w (cat [sg g8467 28 (0, 0) [] [v8456, v8460] [], h8458, h8462, sg g6484 46 (0, 0) [] [(.int .i64 a1.Kind), (.int .i64 a1.Owner), (.int .i64 a1.To), (.int .i64 a1.Buffer)] [], hz9000, (bif b 3 then h9305 else []), (bif b 3 then h9309 else []), (bif b 9 then sg g9901 35 (0, 0) [] [(.int .i64 0), (.int .i64 0)] [] else [])]) := Mem.pick [0, 1, 2, 3, 4, 5, 6, 8] rfl (Mem.cg (B := [sg g8467 28 (0, 0) [] [v8456, v8460] [], h8458, h8462, sg g6484 46 (0, 0) [] [(.int .i64 a1.Kind), (.int .i64 a1.Owner), (.int .i64 a1.To), (.int .i64 a1.Buffer)] [], hz9000, (bif b 3 then h9305 else []), (bif b 3 then h9309 else []), [], (bif b 9 then sg g9901 35 (0, 0) [] [(.int .i64 0), (.int .i64 0)] [] else [])]) (cat_cons rfl (cat_cons rfl (cat_cons rfl (cat_cons rfl (cat_cons rfl (cat_cons rfl (cat_cons rfl (cat_cons (off_ b10 (off_ hbi rfl)) (cat_cons (off_ b11 rfl) rfl))))))))) hm)
   refine e_exv (i := 8) hbi rfl rfl (won rfl) rfl rfl (e_alloc (vs := [(.slice none 0 0), (.slice none 0 0)]) rfl zt_28 rfl hm10325) ?_
   rintro g9803 w9804 hm9805
   exact hK _ _ ⟨_, v9303, h9305, v9307, h9309, g9803, g9901, rfl, y0, y1, y2, y3, y4, y5, y6, y7, fun _ => rfl, y9, y12, H9304, H9308, Mem.gc (A := [sg g8467 28 (0, 0) [] [v8456, v8460] [], h8458, h8462, sg g6484 46 (0, 0) [] [(.int .i64 a1.Kind), (.int .i64 a1.Owner), (.int .i64 a1.To), (.int .i64 a1.Buffer)] [], hz9000, (bif b 3 then h9305 else []), (bif b 3 then h9309 else []), sg g9803 28 (0, 0) [] [(.slice none 0 0), (.slice none 0 0)] [], (bif b 9 then sg g9901 35 (0, 0) [] [(.int .i64 0), (.int .i64 0)] [] else [])]) (cat_cons rfl (cat_cons rfl (cat_cons rfl (cat_cons rfl (cat_cons rfl (cat_cons rfl (cat_cons rfl (cat_cons (off_ b10 (on_ rfl rfl)) (cat_cons (off_ b11 rfl) rfl))))))))) (Mem.pick [1, 2, 3, 4, 5, 6, 7, 0, 8] rfl hm9805)⟩
  ·
   intro b a w hI hbi hn hc K hK
   obtain ⟨vs, v9303, h9305, v9307, h9309, g9803, g9901, ha, y0, y1, y2, y3, y4, y5, y6, y7, y8, y9, y12, H9304, H9308, hm⟩ := hI
   subst ha
   have b10 : b 10 = false := later (j := 10) hc rfl (i := 9) (da rfl) hbi
   have b11 : b 11 = false := later (j := 11) hc rfl (i := 9) (da rfl) hbi
   have b12 : b 12 = false := later (j := 12) hc rfl (i := 9) (da rfl) hbi
   have hm10328 : Mem w0 w (cat [sg g8467 28 (0, 0) [] [v8456, v8460] [], h8458, h8462, sg g6484 46 (0, 0) [] [(.int .i64 a1.Kind), (.int .i64 a1.Owner), (.int .i64 a1.To), (.int .i64 a1.Buffer)] [], hz9000, (bif b 3 then h9305 else []), (bif b 3 then h9309 else []), (bif b 8 then sg g9803 28 (0, 0) [] [(.slice none 0 0), (.slice none 0 0)] [] else [])]) := Mem.pick [0, 1, 2, 3, 4, 5, 6, 7] rfl (Mem.cg (B := [sg g8467 28 (0, 0) [] [v8456, v8460] [], h8458, h8462, sg g6484 46 (0, 0) [] [(.int .i64 a1.Kind), (.int .i64 a1.Owner), (.int .i64 a1.To), (.int .i64 a1.Buffer)] [], hz9000, (bif b 3 then h9305 else []), (bif b 3 then h9309 else []), (bif b 8 then sg g9803 28 (0, 0) [] [(.slice none 0 0), (.slice none 0 0)] [] else []), []]) (cat_cons rfl (cat_cons rfl (cat_cons rfl (cat_cons rfl (cat_cons rfl (cat_cons rfl (cat_cons rfl (cat_cons (off_ b10 rfl) (cat_cons (off_ b11 (off_ hbi rfl)) rfl))))))))) hm)
   refine e_exv (i := 9) hbi rfl rfl (won rfl) rfl rfl (e_alloc (vs := [(.int .i64 0), (.int .i64 0)]) rfl zt_35 rfl hm10328) ?_
   rintro g9901 w9902 hm9903
   exact hK _ _ ⟨_, v9303, h9305, v9307, h9309, g9803, g9901, rfl, y0, y1, y2, y3, y4, y5, y6, y7, y8, fun _ => rfl, y12, H9304, H9308, Mem.gc (A := [sg g8467 28 (0, 0) [] [v8456, v8460] [], h8458, h8462, sg g6484 46 (0, 0) [] [(.int .i64 a1.Kind), (.int .i64 a1.Owner), (.int .i64 a1.To), (.int .i64 a1.Buffer)] [], hz9000, (bif b 3 then h9305 else []), (bif b 3 then h9309 else []), (bif b 8 then sg g9803 28 (0, 0) [] [(.slice none 0 0), (.slice none 0 0)] [] else []), sg g9901 35 (0, 0) [] [(.int .i64 0), (.int .i64 0)] []]) (cat_cons rfl (cat_cons rfl (cat_cons rfl (cat_cons rfl (cat_cons rfl (cat_cons rfl (cat_cons rfl (cat_cons (off_ b10 rfl) (cat_cons (off_ b11 (on_ rfl rfl)) rfl))))))))) (Mem.pick [1, 2, 3, 4, 5, 6, 7, 8, 0] rfl hm9903)⟩
  ·
   intro b a w hI hbi hn hc K hK
   obtain ⟨vs, v9303, h9305, v9307, h9309, g9803, g9901, ha, y0, y1, y2, y3, y4, y5, y6, y7, y8, y9, y12, H9304, H9308, hm⟩ := hI
   subst ha
   have b0 : b 0 = true := hn 0 (da rfl)
   have b1 : b 1 = true := hn 1 (da rfl)
   have b2 : b 2 = true := hn 2 (da rfl)
   have b3 : b 3 = true := hn 3 (da rfl)
   have b4 : b 4 = true := hn 4 (da rfl)
   have b5 : b 5 = true := hn 5 (da rfl)
   have b8 : b 8 = true := hn 8 (da rfl)
   have b9 : b 9 = true := hn 9 (da rfl)
   have b11 : b 11 = false := later (j := 11) hc rfl (i := 10) (da rfl) hbi
   have b12 : b 12 = false := later (j := 12) hc rfl (i := 10) (da rfl) hbi
   have H9304 := H9304 b3
   have H9308 := H9308 b3
   have hm10331 : Mem w0 w (cat [sg g8467 28 (0, 0) [] [v8456, v8460] [], h8458, h8462, sg g6484 46 (0, 0) [] [(.int .i64 a1.Kind), (.int .i64 a1.Owner), (.int .i64 a1.To), (.int .i64 a1.Buffer)] [], hz9000, h9305, h9309, sg g9803 28 (0, 0) [] [(.slice none 0 0), (.slice none 0 0)] [], sg g9901 35 (0, 0) [] [(.int .i64 0), (.int .i64 0)] []]) := Mem.pick [0, 1, 2, 3, 4, 5, 6, 7, 8] rfl (Mem.cg (B := [sg g8467 28 (0, 0) [] [v8456, v8460] [], h8458, h8462, sg g6484 46 (0, 0) [] [(.int .i64 a1.Kind), (.int .i64 a1.Owner), (.int .i64 a1.To), (.int .i64 a1.Buffer)] [], hz9000, h9305, h9309, sg g9803 28 (0, 0) [] [(.slice none 0 0), (.slice none 0 0)] [], sg g9901 35 (0, 0) [] [(.int .i64 0), (.int .i64 0)] []]) (cat_cons rfl (cat_cons rfl (cat_cons rfl (cat_cons rfl (cat_cons rfl (cat_cons (on_ b3 rfl) (cat_cons (on_ b3 rfl) (cat_cons (off_ hbi (on_ b8 rfl)) (cat_cons (off_ b11 (on_ b9 rfl)) rfl))))))))) hm)
   refine e_exs (i := 10) hbi rfl (won rfl) rfl (e_store (vs := [v9303, v9307]) (o' := 0) (j := 0) rfl sz_28 (ev (t := 10) (v := (.pointer (some ⟨g9803, 0, none⟩))) rfl ((sel_on (p := (8, 10)) rfl b8).trans (y8 b8))) (ev (t := 40) (v := (.agg #[v9303, v9307])) rfl ((sel_on (p := (5, 40)) rfl b5).trans (y5 b5))) rfl (one_cons (IsSl.one (H9304).sl) (one_cons (IsSl.one (H9308).sl) one_nil)) hm10331 (k := 7) rfl rfl rfl) ?_
   intro w10001 hm10002
   replace hm10002 : Mem w0 w10001 (cat [sg g8467 28 (0, 0) [] [v8456, v8460] [], h8458, h8462, sg g6484 46 (0, 0) [] [(.int .i64 a1.Kind), (.int .i64 a1.Owner), (.int .i64 a1.To), (.int .i64 a1.Buffer)] [], hz9000, h9305, h9309, sg g9803 28 (0, 0) [] [v9303, v9307] [], sg g9901 35 (0, 0) [] [(.int .i64 0), (.int .i64 0)] []]) := hm10002
   exact hK _ _ ⟨_, v9303, h9305, v9307, h9309, g9803, g9901, rfl, y0, y1, y2, y3, y4, y5, y6, y7, y8, y9, y12, fun _ => H9304, fun _ => H9308, Mem.gc (A := [sg g8467 28 (0, 0) [] [v8456, v8460] [], h8458, h8462, sg g6484 46 (0, 0) [] [(.int .i64 a1.Kind), (.int .i64 a1.Owner), (.int .i64 a1.To), (.int .i64 a1.Buffer)] [], hz9000, h9305, h9309, sg g9803 28 (0, 0) [] [v9303, v9307] [], sg g9901 35 (0, 0) [] [(.int .i64 0), (.int .i64 0)] []]) (cat_cons rfl (cat_cons rfl (cat_cons rfl (cat_cons rfl (cat_cons rfl (cat_cons (on_ b3 rfl) (cat_cons (on_ b3 rfl) (cat_cons (on_ rfl rfl) (cat_cons (off_ b11 (on_ b9 rfl)) rfl))))))))) (Mem.pick [0, 1, 2, 3, 4, 5, 6, 7, 8] rfl hm10002)⟩
  ·
   intro b a w hI hbi hn hc K hK
   obtain ⟨vs, v9303, h9305, v9307, h9309, g9803, g9901, ha, y0, y1, y2, y3, y4, y5, y6, y7, y8, y9, y12, H9304, H9308, hm⟩ := hI
   subst ha
   have b0 : b 0 = true := hn 0 (da rfl)
   have b1 : b 1 = true := hn 1 (da rfl)
   have b2 : b 2 = true := hn 2 (da rfl)
   have b3 : b 3 = true := hn 3 (da rfl)
   have b4 : b 4 = true := hn 4 (da rfl)
   have b5 : b 5 = true := hn 5 (da rfl)
   have b6 : b 6 = true := hn 6 (da rfl)
   have b8 : b 8 = true := hn 8 (da rfl)
   have b9 : b 9 = true := hn 9 (da rfl)
   have b10 : b 10 = true := hn 10 (da rfl)
   have b12 : b 12 = false := later (j := 12) hc rfl (i := 11) (da rfl) hbi
   have H9304 := H9304 b3
   have H9308 := H9308 b3
   have hm10334 : Mem w0 w (cat [sg g8467 28 (0, 0) [] [v8456, v8460] [], h8458, h8462, sg g6484 46 (0, 0) [] [(.int .i64 a1.Kind), (.int .i64 a1.Owner), (.int .i64 a1.To), (.int .i64 a1.Buffer)] [], hz9000, h9305, h9309, sg g9803 28 (0, 0) [] [v9303, v9307] [], sg g9901 35 (0, 0) [] [(.int .i64 0), (.int .i64 0)] []]) := Mem.pick [0, 1, 2, 3, 4, 5, 6, 7, 8] rfl (Mem.cg (B := [sg g8467 28 (0, 0) [] [v8456, v8460] [], h8458, h8462, sg g6484 46 (0, 0) [] [(.int .i64 a1.Kind), (.int .i64 a1.Owner), (.int .i64 a1.To), (.int .i64 a1.Buffer)] [], hz9000, h9305, h9309, sg g9803 28 (0, 0) [] [v9303, v9307] [], sg g9901 35 (0, 0) [] [(.int .i64 0), (.int .i64 0)] []]) (cat_cons rfl (cat_cons rfl (cat_cons rfl (cat_cons rfl (cat_cons rfl (cat_cons (on_ b3 rfl) (cat_cons (on_ b3 rfl) (cat_cons (on_ b10 rfl) (cat_cons (off_ hbi (on_ b9 rfl)) rfl))))))))) hm)
   refine e_exs (i := 11) hbi rfl (won rfl) rfl (e_store (vs := [(.int .i64 r9301.2.1.Code), (.int .i64 r9301.2.1.Buffer)]) (o' := 0) (j := 0) rfl sz_35 (ev (t := 11) (v := (.pointer (some ⟨g9901, 0, none⟩))) rfl ((sel_on (p := (9, 11)) rfl b9).trans (y9 b9))) (ev (t := 41) (v := (.agg #[(.int .i64 r9301.2.1.Code), (.int .i64 r9301.2.1.Buffer)])) rfl ((sel_on (p := (6, 41)) rfl b6).trans (y6 b6))) rfl rfl hm10334 (k := 8) rfl rfl rfl) ?_
   intro w10101 hm10102
   replace hm10102 : Mem w0 w10101 (cat [sg g8467 28 (0, 0) [] [v8456, v8460] [], h8458, h8462, sg g6484 46 (0, 0) [] [(.int .i64 a1.Kind), (.int .i64 a1.Owner), (.int .i64 a1.To), (.int .i64 a1.Buffer)] [], hz9000, h9305, h9309, sg g9803 28 (0, 0) [] [v9303, v9307] [], sg g9901 35 (0, 0) [] [(.int .i64 r9301.2.1.Code), (.int .i64 r9301.2.1.Buffer)] []]) := hm10102
   exact hK _ _ ⟨_, v9303, h9305, v9307, h9309, g9803, g9901, rfl, y0, y1, y2, y3, y4, y5, y6, y7, y8, y9, y12, fun _ => H9304, fun _ => H9308, Mem.gc (A := [sg g8467 28 (0, 0) [] [v8456, v8460] [], h8458, h8462, sg g6484 46 (0, 0) [] [(.int .i64 a1.Kind), (.int .i64 a1.Owner), (.int .i64 a1.To), (.int .i64 a1.Buffer)] [], hz9000, h9305, h9309, sg g9803 28 (0, 0) [] [v9303, v9307] [], sg g9901 35 (0, 0) [] [(.int .i64 r9301.2.1.Code), (.int .i64 r9301.2.1.Buffer)] []]) (cat_cons rfl (cat_cons rfl (cat_cons rfl (cat_cons rfl (cat_cons rfl (cat_cons (on_ b3 rfl) (cat_cons (on_ b3 rfl) (cat_cons (on_ b10 rfl) (cat_cons (on_ rfl rfl) rfl))))))))) (Mem.pick [0, 1, 2, 3, 4, 5, 6, 7, 8] rfl hm10102)⟩
  ·
   intro b a w hI hbi hn hc K hK
   obtain ⟨vs, v9303, h9305, v9307, h9309, g9803, g9901, ha, y0, y1, y2, y3, y4, y5, y6, y7, y8, y9, y12, H9304, H9308, hm⟩ := hI
   subst ha
   have b0 : b 0 = true := hn 0 (da rfl)
   have b1 : b 1 = true := hn 1 (da rfl)
   have b2 : b 2 = true := hn 2 (da rfl)
   have b3 : b 3 = true := hn 3 (da rfl)
   have b4 : b 4 = true := hn 4 (da rfl)
   have b5 : b 5 = true := hn 5 (da rfl)
   have b6 : b 6 = true := hn 6 (da rfl)
   have b7 : b 7 = true := hn 7 (da rfl)
   have b8 : b 8 = true := hn 8 (da rfl)
   have b9 : b 9 = true := hn 9 (da rfl)
   have b10 : b 10 = true := hn 10 (da rfl)
   have b11 : b 11 = true := hn 11 (da rfl)
   have H9304 := H9304 b3
   have H9308 := H9308 b3
   have hm10337 : Mem w0 w (cat [sg g8467 28 (0, 0) [] [v8456, v8460] [], h8458, h8462, sg g6484 46 (0, 0) [] [(.int .i64 a1.Kind), (.int .i64 a1.Owner), (.int .i64 a1.To), (.int .i64 a1.Buffer)] [], hz9000, h9305, h9309, sg g9803 28 (0, 0) [] [v9303, v9307] [], sg g9901 35 (0, 0) [] [(.int .i64 r9301.2.1.Code), (.int .i64 r9301.2.1.Buffer)] []]) := Mem.pick [0, 1, 2, 3, 4, 5, 6, 7, 8] rfl (Mem.cg (B := [sg g8467 28 (0, 0) [] [v8456, v8460] [], h8458, h8462, sg g6484 46 (0, 0) [] [(.int .i64 a1.Kind), (.int .i64 a1.Owner), (.int .i64 a1.To), (.int .i64 a1.Buffer)] [], hz9000, h9305, h9309, sg g9803 28 (0, 0) [] [v9303, v9307] [], sg g9901 35 (0, 0) [] [(.int .i64 r9301.2.1.Code), (.int .i64 r9301.2.1.Buffer)] []]) (cat_cons rfl (cat_cons rfl (cat_cons rfl (cat_cons rfl (cat_cons rfl (cat_cons (on_ b3 rfl) (cat_cons (on_ b3 rfl) (cat_cons (on_ b10 rfl) (cat_cons (on_ b11 rfl) rfl))))))))) hm)
   refine e_val (i := 12) hbi rfl rfl (v := (.int .i64 r9301.2.2)) (won rfl) rfl rfl (x_assign rfl (ev (t := 42) (v := (.int .i64 r9301.2.2)) rfl ((sel_on (p := (7, 42)) rfl b7).trans (y7 b7)))) ?_
   exact hK _ _ ⟨_, v9303, h9305, v9307, h9309, g9803, g9901, rfl, y0, y1, y2, y3, y4, y5, y6, y7, y8, y9, fun _ => rfl, fun _ => H9304, fun _ => H9308, Mem.gc (A := [sg g8467 28 (0, 0) [] [v8456, v8460] [], h8458, h8462, sg g6484 46 (0, 0) [] [(.int .i64 a1.Kind), (.int .i64 a1.Owner), (.int .i64 a1.To), (.int .i64 a1.Buffer)] [], hz9000, h9305, h9309, sg g9803 28 (0, 0) [] [v9303, v9307] [], sg g9901 35 (0, 0) [] [(.int .i64 r9301.2.1.Code), (.int .i64 r9301.2.1.Buffer)] []]) (cat_cons rfl (cat_cons rfl (cat_cons rfl (cat_cons rfl (cat_cons rfl (cat_cons (on_ b3 rfl) (cat_cons (on_ b3 rfl) (cat_cons (on_ b10 rfl) (cat_cons (on_ b11 rfl) rfl))))))))) (Mem.pick [0, 1, 2, 3, 4, 5, 6, 7, 8] rfl hm10337)⟩
  intro b a w hall hI
  obtain ⟨vs, v9303, h9305, v9307, h9309, g9803, g9901, ha, y0, y1, y2, y3, y4, y5, y6, y7, y8, y9, y12, H9304, H9308, hm⟩ := hI
  have b0 : b 0 = true := hall 0 rfl
  have b1 : b 1 = true := hall 1 rfl
  have b2 : b 2 = true := hall 2 rfl
  have b3 : b 3 = true := hall 3 rfl
  have b4 : b 4 = true := hall 4 rfl
  have b5 : b 5 = true := hall 5 rfl
  have b6 : b 6 = true := hall 6 rfl
  have b7 : b 7 = true := hall 7 rfl
  have b8 : b 8 = true := hall 8 rfl
  have b9 : b 9 = true := hall 9 rfl
  have b10 : b 10 = true := hall 10 rfl
  have b11 : b 11 = true := hall 11 rfl
  have b12 : b 12 = true := hall 12 rfl
  replace H9304 := H9304 b3
  replace H9308 := H9308 b3
  have hm10340 : Mem w0 w (cat [sg g8467 28 (0, 0) [] [v8456, v8460] [], h8458, h8462, sg g6484 46 (0, 0) [] [(.int .i64 a1.Kind), (.int .i64 a1.Owner), (.int .i64 a1.To), (.int .i64 a1.Buffer)] [], h9305, h9309, sg g9803 28 (0, 0) [] [v9303, v9307] [], sg g9901 35 (0, 0) [] [(.int .i64 r9301.2.1.Code), (.int .i64 r9301.2.1.Buffer)] [], hz9000]) := Mem.pick [0, 1, 2, 3, 5, 6, 7, 8, 4] rfl (Mem.cg (B := [sg g8467 28 (0, 0) [] [v8456, v8460] [], h8458, h8462, sg g6484 46 (0, 0) [] [(.int .i64 a1.Kind), (.int .i64 a1.Owner), (.int .i64 a1.To), (.int .i64 a1.Buffer)] [], hz9000, h9305, h9309, sg g9803 28 (0, 0) [] [v9303, v9307] [], sg g9901 35 (0, 0) [] [(.int .i64 r9301.2.1.Code), (.int .i64 r9301.2.1.Buffer)] []]) (cat_cons rfl (cat_cons rfl (cat_cons rfl (cat_cons rfl (cat_cons rfl (cat_cons (on_ b3 rfl) (cat_cons (on_ b3 rfl) (cat_cons (on_ b10 rfl) (cat_cons (on_ b11 rfl) rfl))))))))) hm)
  obtain ⟨f9000, ha', z9000x2, z9000x3, z9000x6, z9000x7, z9000x8, z9000x9, z9000x10, z9000x11, z9000x12⟩ : ∃ f' : Nat → Value, a = fr 128 f' ∧ f' 2 = (.pointer (some ⟨g6480, 0, none⟩)) ∧ f' 3 = (.pointer (some ⟨g6484, 0, none⟩)) ∧ f' 6 = (.pointer (some ⟨g7903, 0, none⟩)) ∧ f' 7 = (.pointer (some ⟨g8001, 0, none⟩)) ∧ f' 8 = (.int .i64 r7401.2.2) ∧ f' 9 = (.pointer (some ⟨g8467, 0, none⟩)) ∧ f' 10 = (.pointer (some ⟨g9803, 0, none⟩)) ∧ f' 11 = (.pointer (some ⟨g9901, 0, none⟩)) ∧ f' 12 = (.int .i64 r9301.2.2) := ⟨_, ha, (sel_no rfl).trans z7000x2, (sel_no rfl).trans z7000x3, (sel_no rfl).trans z7000x6, (sel_no rfl).trans z7000x7, (sel_no rfl).trans z7000x8, (sel_no rfl).trans rfl, (sel_on (p := (8, 10)) rfl b8).trans (y8 b8), (sel_on (p := (9, 11)) rfl b9).trans (y9 b9), (sel_on (p := (12, 12)) rfl b12).trans (y12 b12)⟩
  subst ha'
  subst hze9000
  replace hm10340 : Mem w0 w (cat [sg g8467 28 (0, 0) [] [v8456, v8460] [], h8458, h8462, sg g6484 46 (0, 0) [] [(.int .i64 a1.Kind), (.int .i64 a1.Owner), (.int .i64 a1.To), (.int .i64 a1.Buffer)] [], h9305, h9309, sg g9803 28 (0, 0) [] [v9303, v9307] [], sg g9901 35 (0, 0) [] [(.int .i64 r9301.2.1.Code), (.int .i64 r9301.2.1.Buffer)] [], sg g6480 45 (0, 0) [] [v0x0, v0x1] [], hF, h7405, h7409, sg g7903 28 (0, 0) [] [v7403, v7407] [], sg g8001 35 (0, 0) [] [(.int .i64 r7401.2.1.Code), (.int .i64 r7401.2.1.Buffer)] []]) := Mem.ung [sg g8467 28 (0, 0) [] [v8456, v8460] [], h8458, h8462, sg g6484 46 (0, 0) [] [(.int .i64 a1.Kind), (.int .i64 a1.Owner), (.int .i64 a1.To), (.int .i64 a1.Buffer)] [], h9305, h9309, sg g9803 28 (0, 0) [] [v9303, v9307] [], sg g9901 35 (0, 0) [] [(.int .i64 r9301.2.1.Code), (.int .i64 r9301.2.1.Buffer)] []] [sg g6480 45 (0, 0) [] [v0x0, v0x1] [], hF, h7405, h7409, sg g7903 28 (0, 0) [] [v7403, v7407] [], sg g8001 35 (0, 0) [] [(.int .i64 r7401.2.1.Code), (.int .i64 r7401.2.1.Buffer)] []] hm10340
  refine nx ?_
  refine wp_seq ?_
  refine wp_seq ?_
  obtain ⟨r10358, hr10358, he⟩ := bindE he
  obtain ⟨r10361, hr10361, he⟩ := bindE he
  refine wp_region_lit ?_
  refine s_val (v := (.agg #[v9303, v9307])) (won rfl) rfl rfl (x_loadN (vs := [v9303, v9307]) rfl tyN_28 (ev (t := 10) (v := (.pointer (some ⟨g9803, 0, none⟩))) rfl z9000x10) (seg_cells (o' := 0) (j := 0) hm10340 (k := 6) rfl rfl rfl)) ?_
  refine s_val (v := (.agg #[v7403, v7407])) (won rfl) rfl rfl (x_loadN (vs := [v7403, v7407]) rfl tyN_28 (ev (t := 6) (v := (.pointer (some ⟨g7903, 0, none⟩))) rfl z9000x6) (seg_cells (o' := 0) (j := 0) hm10340 (k := 12) rfl rfl rfl)) ?_
  refine s_call (won rfl) rfl rfl (x_call rfl rfl cl_22 (map_lit (map_cons (ev (t := 43) rfl rfl) (map_cons (ev (t := 44) rfl rfl) map_nil)))) (laws_eqPool_ok F (hR := (cat [h9305, h9309, h7405, h7409])) (hF := cat [sg g8467 28 (0, 0) [] [v8456, v8460] [], h8458, h8462, sg g6484 46 (0, 0) [] [(.int .i64 a1.Kind), (.int .i64 a1.Owner), (.int .i64 a1.To), (.int .i64 a1.Buffer)] [], h9305, h9309, sg g9803 28 (0, 0) [] [v9303, v9307] [], sg g9901 35 (0, 0) [] [(.int .i64 r9301.2.1.Code), (.int .i64 r9301.2.1.Buffer)] [], sg g6480 45 (0, 0) [] [v0x0, v0x1] [], hF, h7405, h7409, sg g7903 28 (0, 0) [] [v7403, v7407] [], sg g8001 35 (0, 0) [] [(.int .i64 r7401.2.1.Code), (.int .i64 r7401.2.1.Buffer)] []]) r9301.1 r7401.1 ((H9304.rd w0).mono (Sub.at_ (k := 0) rfl)) ((H9308.rd w0).mono (Sub.at_ (k := 1) rfl)) ((H7404.rd w0).mono (Sub.at_ (k := 2) rfl)) ((H7408.rd w0).mono (Sub.at_ (k := 3) rfl)) (subc (Sub.at_ (k := 4) rfl) (subc (Sub.at_ (k := 5) rfl) (subc (Sub.at_ (k := 10) rfl) (subc (Sub.at_ (k := 11) rfl) subn)))) (Mem.one hm10340) hr10358) ?_
  rintro e w10359 ⟨rfl, hm10360⟩
  refine ⟨_, rfl, ?_⟩
  replace hm10360 : Mem w0 w10359 (cat [sg g8467 28 (0, 0) [] [v8456, v8460] [], h8458, h8462, sg g6484 46 (0, 0) [] [(.int .i64 a1.Kind), (.int .i64 a1.Owner), (.int .i64 a1.To), (.int .i64 a1.Buffer)] [], h9305, h9309, sg g9803 28 (0, 0) [] [v9303, v9307] [], sg g9901 35 (0, 0) [] [(.int .i64 r9301.2.1.Code), (.int .i64 r9301.2.1.Buffer)] [], sg g6480 45 (0, 0) [] [v0x0, v0x1] [], hF, h7405, h7409, sg g7903 28 (0, 0) [] [v7403, v7407] [], sg g8001 35 (0, 0) [] [(.int .i64 r7401.2.1.Code), (.int .i64 r7401.2.1.Buffer)] []]) := Mem.un hm10360
  refine s_val (v := (.bool (!r10358))) (won rfl) rfl rfl (x_not rfl (ev (t := 45) rfl rfl)) ?_
  refine s_val (v := (.bool (!r10358))) (won rfl) rfl rfl (x_move rfl (ev (t := 46) rfl rfl)) ?_
  refine s_cval (p := (!(!r10358))) (v := (.agg #[(.int .i64 r9301.2.1.Code), (.int .i64 r9301.2.1.Buffer)])) (won_f (j := 4) (t := 47) (q := (!r10358)) rfl rfl rfl rfl rfl) rfl rfl (fun hp => (x_loadN (vs := [(.int .i64 r9301.2.1.Code), (.int .i64 r9301.2.1.Buffer)]) rfl tyN_35 (ev (t := 11) (v := (.pointer (some ⟨g9901, 0, none⟩))) rfl z9000x11) (seg_cells (o' := 0) (j := 0) hm10360 (k := 7) rfl rfl rfl))) ?_
  refine s_cval (p := (!(!r10358))) (v := (.agg #[(.int .i64 r7401.2.1.Code), (.int .i64 r7401.2.1.Buffer)])) (won_f (j := 4) (t := 47) (q := (!r10358)) rfl rfl rfl rfl rfl) rfl rfl (fun hp => (x_loadN (vs := [(.int .i64 r7401.2.1.Code), (.int .i64 r7401.2.1.Buffer)]) rfl tyN_35 (ev (t := 7) (v := (.pointer (some ⟨g8001, 0, none⟩))) rfl z9000x7) (seg_cells (o' := 0) (j := 0) hm10360 (k := 13) rfl rfl rfl))) ?_
  refine s_ccall (p := (!(!r10358))) (v := (.bool r10361)) (J := fun w' => Mem w0 w' (cat [sg g8467 28 (0, 0) [] [v8456, v8460] [], h8458, h8462, sg g6484 46 (0, 0) [] [(.int .i64 a1.Kind), (.int .i64 a1.Owner), (.int .i64 a1.To), (.int .i64 a1.Buffer)] [], h9305, h9309, sg g9803 28 (0, 0) [] [v9303, v9307] [], sg g9901 35 (0, 0) [] [(.int .i64 r9301.2.1.Code), (.int .i64 r9301.2.1.Buffer)] [], sg g6480 45 (0, 0) [] [v0x0, v0x1] [], hF, h7405, h7409, sg g7903 28 (0, 0) [] [v7403, v7407] [], sg g8001 35 (0, 0) [] [(.int .i64 r7401.2.1.Code), (.int .i64 r7401.2.1.Buffer)] []])) (won_f (j := 4) (t := 47) (q := (!r10358)) rfl rfl rfl rfl rfl) rfl rfl (fun hp => (x_call rfl rfl cl_23 (map_lit (map_cons (ev (t := 48) rfl (Eq.trans (b := cv (!(!r10358)) (.agg #[(.int .i64 r9301.2.1.Code), (.int .i64 r9301.2.1.Buffer)])) rfl (on_c hp))) (map_cons (ev (t := 49) rfl (Eq.trans (b := cv (!(!r10358)) (.agg #[(.int .i64 r7401.2.1.Code), (.int .i64 r7401.2.1.Buffer)])) rfl (on_c hp))) map_nil))))) (fun hp => ((laws_eqPoolReply_ok (hR := (cat [])) (hF := cat [sg g8467 28 (0, 0) [] [v8456, v8460] [], h8458, h8462, sg g6484 46 (0, 0) [] [(.int .i64 a1.Kind), (.int .i64 a1.Owner), (.int .i64 a1.To), (.int .i64 a1.Buffer)] [], h9305, h9309, sg g9803 28 (0, 0) [] [v9303, v9307] [], sg g9901 35 (0, 0) [] [(.int .i64 r9301.2.1.Code), (.int .i64 r9301.2.1.Buffer)] [], sg g6480 45 (0, 0) [] [v0x0, v0x1] [], hF, h7405, h7409, sg g7903 28 (0, 0) [] [v7403, v7407] [], sg g8001 35 (0, 0) [] [(.int .i64 r7401.2.1.Code), (.int .i64 r7401.2.1.Buffer)] []]) r9301.2.1 r7401.2.1  (Mem.one hm10360) (bifT hr10361 hp))).mono fun e w2 h => ⟨h.1, Mem.un h.2⟩) hm10360 ?_
  intro w10362 hm10363
  refine s_cval (p := (!(!r10358))) (v := (.bool (!r10361))) (won_f (j := 4) (t := 47) (q := (!r10358)) rfl rfl rfl rfl rfl) rfl rfl (fun hp => (x_not rfl (ev (t := 50) rfl (Eq.trans (b := cv (!(!r10358)) (.bool r10361)) rfl (on_c hp))))) ?_
  refine s_val (v := (.bool ((!r10358) || (!r10361)))) (won rfl) rfl rfl (x_pick_or rfl (ev (t := 47) rfl rfl) rfl (fun hq => ev rfl (Eq.trans (b := cv (!(!r10358)) (.bool (!r10361))) rfl (on_c (not_i hq))))) ?_
  refine s_val (v := (.bool ((!r10358) || (!r10361)))) (won rfl) rfl rfl (x_move rfl (ev (t := 52) rfl rfl)) ?_
  refine s_cval (p := (!((!r10358) || (!r10361)))) (v := (.int .i64 r9301.2.2)) (won_f (j := 10) (t := 53) (q := ((!r10358) || (!r10361))) rfl rfl rfl rfl rfl) rfl rfl (fun hp => (x_move rfl (ev (t := 12) (v := (.int .i64 r9301.2.2)) rfl z9000x12))) ?_
  refine s_cval (p := (!((!r10358) || (!r10361)))) (v := (.int .i64 r7401.2.2)) (won_f (j := 10) (t := 53) (q := ((!r10358) || (!r10361))) rfl rfl rfl rfl rfl) rfl rfl (fun hp => (x_move rfl (ev (t := 8) (v := (.int .i64 r7401.2.2)) rfl z9000x8))) ?_
  refine s_cval (p := (!((!r10358) || (!r10361)))) (v := (.bool (!decide (r9301.2.2 = r7401.2.2)))) (won_f (j := 10) (t := 53) (q := ((!r10358) || (!r10361))) rfl rfl rfl rfl rfl) rfl rfl (fun hp => (x_neq rfl (ev (t := 54) rfl (Eq.trans (b := cv (!((!r10358) || (!r10361))) (.int .i64 r9301.2.2)) rfl (on_c hp))) (ev (t := 55) rfl (Eq.trans (b := cv (!((!r10358) || (!r10361))) (.int .i64 r7401.2.2)) rfl (on_c hp))))) ?_
  refine s_val (v := (.bool (((!r10358) || (!r10361)) || (!decide (r9301.2.2 = r7401.2.2))))) (won rfl) rfl rfl (x_pick_or rfl (ev (t := 53) rfl rfl) rfl (fun hq => ev rfl (Eq.trans (b := cv (!((!r10358) || (!r10361))) (.bool (!decide (r9301.2.2 = r7401.2.2)))) rfl (on_c (not_i hq))))) ?_
  refine wpList_nil ?_
  refine nx ?_
  rcases Bool.eq_false_or_eq_true ((((!r10358) || (!r10361)) || (!decide (r9301.2.2 = r7401.2.2)))) with hb10364 | hb10364
  ·
   replace he := bifT he hb10364
   refine c_true rfl (p := (((!r10358) || (!r10361)) || (!decide (r9301.2.2 = r7401.2.2)))) rfl rfl hb10364 ?_
   refine wp_seq ?_
   refine wp_region_lit ?_
   refine s_val (v := (.bool false)) (won rfl) rfl rfl (x_assign rfl rfl) ?_
   refine wpList_nil ?_
   have hm10365 : Mem w0 w10362 (cat [hF]) := Mem.pick [9] rfl hm10363
   refine nx ?_
   refine wp_ret ?_
   refine xr ?_
   obtain rfl := Option.some.inj he
   refine r_ret (v := (.bool false)) (rv_one rfl (RVs.tmp (v := (.bool false)) rfl rfl RVs.nil)) rfl ?_
   exact ⟨rfl, Mem.pick [0] rfl hm10365⟩
  ·
   replace he := bifF he hb10364
   refine c_false rfl (p := (((!r10358) || (!r10361)) || (!decide (r9301.2.2 = r7401.2.2)))) rfl rfl hb10364 ?_
   refine wp_skip ?_
   refine nx ?_
   refine wp_seq ?_
   refine wp_seq ?_
   obtain ⟨r10385, hr10385, he⟩ := bindE he
   obtain ⟨r10396, hr10396, he⟩ := bindE he
   refine wp_fit [(0, 0), (1, 1), (2, 2), (3, 2), (4, 1)] (fun w' => Mem w0 w' (cat [sg g8467 28 (0, 0) [] [v8456, v8460] [], h8458, h8462, sg g6484 46 (0, 0) [] [(.int .i64 a1.Kind), (.int .i64 a1.Owner), (.int .i64 a1.To), (.int .i64 a1.Buffer)] [], h9305, h9309, sg g9803 28 (0, 0) [] [v9303, v9307] [], sg g9901 35 (0, 0) [] [(.int .i64 r9301.2.1.Code), (.int .i64 r9301.2.1.Buffer)] [], sg g6480 45 (0, 0) [] [v0x0, v0x1] [], hF, h7405, h7409, sg g7903 28 (0, 0) [] [v7403, v7407] [], sg g8001 35 (0, 0) [] [(.int .i64 r7401.2.1.Code), (.int .i64 r7401.2.1.Buffer)] []])) mixed (by kernel_rfl) (Mem.drew (Mem.pick [0, 1, 2, 3, 4, 5, 6, 7, 8, 9, 10, 11, 12, 13] rfl hm10363)) ?_
   have hm10384 := Mem.drew hm10363
   refine z_q (v := (.agg #[v8456, v8460])) rfl (won rfl) rfl rfl (fun wq hq => (x_loadN (vs := [v8456, v8460]) rfl tyN_28 (ev (t := 9) (v := (.pointer (some ⟨g8467, 0, none⟩))) rfl z9000x9) (seg_cells (o' := 0) (j := 0) hq (k := 0) rfl rfl rfl))) ?_
   refine z_r (v := (.agg #[v0x0, v0x1])) rfl (won rfl) rfl rfl ((x_loadN (vs := [v0x0, v0x1]) rfl tyN_45 (ev (t := 2) (v := (.pointer (some ⟨g6480, 0, none⟩))) rfl z9000x2) (seg_cells (o' := 0) (j := 0) hm10384 (k := 8) rfl rfl rfl))) ?_
   refine z_call rfl (won rfl) rfl rfl (x_call rfl rfl cl_20 (map_lit (map_cons (ev (t := 59) rfl rfl) map_nil))) (laws_toPool_ok F (hR := (cat [hR])) (hF := cat [sg g8467 28 (0, 0) [] [v8456, v8460] [], h8458, h8462, sg g6484 46 (0, 0) [] [(.int .i64 a1.Kind), (.int .i64 a1.Owner), (.int .i64 a1.To), (.int .i64 a1.Buffer)] [], h9305, h9309, sg g9803 28 (0, 0) [] [v9303, v9307] [], sg g9901 35 (0, 0) [] [(.int .i64 r9301.2.1.Code), (.int .i64 r9301.2.1.Buffer)] [], sg g6480 45 (0, 0) [] [v0x0, v0x1] [], hF, h7405, h7409, sg g7903 28 (0, 0) [] [v7403, v7407] [], sg g8001 35 (0, 0) [] [(.int .i64 r7401.2.1.Code), (.int .i64 r7401.2.1.Buffer)] []]) a0 (H0x0.mono (Sub.at_ (k := 0) rfl)) (H0x1.mono (Sub.at_ (k := 0) rfl)) (subc (Sub.trans hs (Sub.at_ (k := 9) rfl)) subn) (Mem.one hm10384) hr10385) ?_
   rintro e w10394 ⟨v10387, h10389, v10391, h10393, rfl, H10388, H10392, hm10395⟩
   refine ⟨_, rfl, ?_⟩
   replace hm10395 : Mem w0 w10394 (cat [h10389, h10393, sg g8467 28 (0, 0) [] [v8456, v8460] [], h8458, h8462, sg g6484 46 (0, 0) [] [(.int .i64 a1.Kind), (.int .i64 a1.Owner), (.int .i64 a1.To), (.int .i64 a1.Buffer)] [], h9305, h9309, sg g9803 28 (0, 0) [] [v9303, v9307] [], sg g9901 35 (0, 0) [] [(.int .i64 r9301.2.1.Code), (.int .i64 r9301.2.1.Buffer)] [], sg g6480 45 (0, 0) [] [v0x0, v0x1] [], hF, h7405, h7409, sg g7903 28 (0, 0) [] [v7403, v7407] [], sg g8001 35 (0, 0) [] [(.int .i64 r7401.2.1.Code), (.int .i64 r7401.2.1.Buffer)] []]) := Mem.ung [h10389, h10393] [sg g8467 28 (0, 0) [] [v8456, v8460] [], h8458, h8462, sg g6484 46 (0, 0) [] [(.int .i64 a1.Kind), (.int .i64 a1.Owner), (.int .i64 a1.To), (.int .i64 a1.Buffer)] [], h9305, h9309, sg g9803 28 (0, 0) [] [v9303, v9307] [], sg g9901 35 (0, 0) [] [(.int .i64 r9301.2.1.Code), (.int .i64 r9301.2.1.Buffer)] [], sg g6480 45 (0, 0) [] [v0x0, v0x1] [], hF, h7405, h7409, sg g7903 28 (0, 0) [] [v7403, v7407] [], sg g8001 35 (0, 0) [] [(.int .i64 r7401.2.1.Code), (.int .i64 r7401.2.1.Buffer)] []] hm10395
   refine ⟨Mem.pick [2, 3, 4, 5, 6, 7, 8, 9, 10, 11, 12, 13, 14, 15] rfl hm10395, ?_⟩
   refine z_call rfl (won rfl) rfl rfl (x_call rfl rfl cl_22 (map_lit (map_cons (ev (t := 58) rfl rfl) (map_cons (ev (t := 60) rfl rfl) map_nil)))) (laws_eqPool_ok F (hR := (cat [h8458, h8462, h10389, h10393])) (hF := cat [h10389, h10393, sg g8467 28 (0, 0) [] [v8456, v8460] [], h8458, h8462, sg g6484 46 (0, 0) [] [(.int .i64 a1.Kind), (.int .i64 a1.Owner), (.int .i64 a1.To), (.int .i64 a1.Buffer)] [], h9305, h9309, sg g9803 28 (0, 0) [] [v9303, v9307] [], sg g9901 35 (0, 0) [] [(.int .i64 r9301.2.1.Code), (.int .i64 r9301.2.1.Buffer)] [], sg g6480 45 (0, 0) [] [v0x0, v0x1] [], hF, h7405, h7409, sg g7903 28 (0, 0) [] [v7403, v7407] [], sg g8001 35 (0, 0) [] [(.int .i64 r7401.2.1.Code), (.int .i64 r7401.2.1.Buffer)] []]) r8454 r10385 ((H8457.rd w0).mono (Sub.at_ (k := 0) rfl)) ((H8461.rd w0).mono (Sub.at_ (k := 1) rfl)) ((H10388.rd w0).mono (Sub.at_ (k := 2) rfl)) ((H10392.rd w0).mono (Sub.at_ (k := 3) rfl)) (subc (Sub.at_ (k := 3) rfl) (subc (Sub.at_ (k := 4) rfl) (subc (Sub.at_ (k := 0) rfl) (subc (Sub.at_ (k := 1) rfl) subn)))) (Mem.one hm10395) hr10396) ?_
   rintro e w10397 ⟨rfl, hm10398⟩
   refine ⟨_, rfl, ?_⟩
   replace hm10398 : Mem w0 w10397 (cat [h10389, h10393, sg g8467 28 (0, 0) [] [v8456, v8460] [], h8458, h8462, sg g6484 46 (0, 0) [] [(.int .i64 a1.Kind), (.int .i64 a1.Owner), (.int .i64 a1.To), (.int .i64 a1.Buffer)] [], h9305, h9309, sg g9803 28 (0, 0) [] [v9303, v9307] [], sg g9901 35 (0, 0) [] [(.int .i64 r9301.2.1.Code), (.int .i64 r9301.2.1.Buffer)] [], sg g6480 45 (0, 0) [] [v0x0, v0x1] [], hF, h7405, h7409, sg g7903 28 (0, 0) [] [v7403, v7407] [], sg g8001 35 (0, 0) [] [(.int .i64 r7401.2.1.Code), (.int .i64 r7401.2.1.Buffer)] []]) := Mem.un hm10398
   refine ⟨Mem.pick [2, 3, 4, 5, 6, 7, 8, 9, 10, 11, 12, 13, 14, 15] rfl hm10398, ?_⟩
   refine z_r (v := (.bool (!r10396))) rfl (won rfl) rfl rfl ((x_not rfl (ev (t := 61) rfl rfl))) ?_
   refine z_nil ?_
   have hm10399 : Mem w0 w10397 (cat [sg g8467 28 (0, 0) [] [v8456, v8460] [], h8458, h8462, sg g6484 46 (0, 0) [] [(.int .i64 a1.Kind), (.int .i64 a1.Owner), (.int .i64 a1.To), (.int .i64 a1.Buffer)] [], h9305, h9309, sg g9803 28 (0, 0) [] [v9303, v9307] [], sg g9901 35 (0, 0) [] [(.int .i64 r9301.2.1.Code), (.int .i64 r9301.2.1.Buffer)] [], sg g6480 45 (0, 0) [] [v0x0, v0x1] [], hF, h7405, h7409, sg g7903 28 (0, 0) [] [v7403, v7407] [], sg g8001 35 (0, 0) [] [(.int .i64 r7401.2.1.Code), (.int .i64 r7401.2.1.Buffer)] []]) := Mem.pick [2, 3, 4, 5, 6, 7, 8, 9, 10, 11, 12, 13, 14, 15] rfl hm10398
   refine nx ?_
   rcases Bool.eq_false_or_eq_true ((!r10396)) with hb10400 | hb10400
   ·
    replace he := bifT he hb10400
    refine c_true rfl (p := (!r10396)) rfl rfl hb10400 ?_
    refine wp_seq ?_
    refine wp_region_lit ?_
    refine s_val (v := (.bool false)) (won rfl) rfl rfl (x_assign rfl rfl) ?_
    refine wpList_nil ?_
    have hm10401 : Mem w0 w10397 (cat [hF]) := Mem.pick [9] rfl hm10399
    refine nx ?_
    refine wp_ret ?_
    refine xr ?_
    obtain rfl := Option.some.inj he
    refine r_ret (v := (.bool false)) (rv_one rfl (RVs.tmp (v := (.bool false)) rfl rfl RVs.nil)) rfl ?_
    exact ⟨rfl, Mem.pick [0] rfl hm10401⟩
   ·
    replace he := bifF he hb10400
    refine c_false rfl (p := (!r10396)) rfl rfl hb10400 ?_
    refine wp_skip ?_
    refine nx ?_
    refine wp_seq ?_
    refine wp_region_lit ?_
    refine s_val (v := (.int .i64 1)) (won rfl) rfl rfl (x_assign rfl rfl) ?_
    refine wpList_nil ?_
    refine nx ?_
    refine wp_seq ?_
    obtain ⟨r10402, hr10402, he⟩ := bindE he
    refine wp_region_lit ?_
    refine s_val (v := (.agg #[v8456, v8460])) (won rfl) rfl rfl (x_loadN (vs := [v8456, v8460]) rfl tyN_28 (ev (t := 9) (v := (.pointer (some ⟨g8467, 0, none⟩))) rfl z9000x9) (seg_cells (o' := 0) (j := 0) hm10399 (k := 0) rfl rfl rfl)) ?_
    refine s_val (v := (.int .i64 1)) (won rfl) rfl rfl (x_move rfl (ev (t := 13) rfl rfl)) ?_
    refine s_call (won rfl) rfl rfl (x_call rfl rfl cl_24 (map_lit (map_cons (ev (t := 63) rfl rfl) (map_cons (ev (t := 64) rfl rfl) map_nil)))) (laws_markPool_ok F (hR := (cat [])) (hF := cat [sg g8467 28 (0, 0) [] [v8456, v8460] [], sg g6484 46 (0, 0) [] [(.int .i64 a1.Kind), (.int .i64 a1.Owner), (.int .i64 a1.To), (.int .i64 a1.Buffer)] [], h9305, h9309, sg g9803 28 (0, 0) [] [v9303, v9307] [], sg g9901 35 (0, 0) [] [(.int .i64 r9301.2.1.Code), (.int .i64 r9301.2.1.Buffer)] [], sg g6480 45 (0, 0) [] [v0x0, v0x1] [], hF, h7405, h7409, sg g7903 28 (0, 0) [] [v7403, v7407] [], sg g8001 35 (0, 0) [] [(.int .i64 r7401.2.1.Code), (.int .i64 r7401.2.1.Buffer)] []]) r8454 1 H8457 H8461 (Mem.grp [h8458, h8462] [sg g8467 28 (0, 0) [] [v8456, v8460] [], sg g6484 46 (0, 0) [] [(.int .i64 a1.Kind), (.int .i64 a1.Owner), (.int .i64 a1.To), (.int .i64 a1.Buffer)] [], h9305, h9309, sg g9803 28 (0, 0) [] [v9303, v9307] [], sg g9901 35 (0, 0) [] [(.int .i64 r9301.2.1.Code), (.int .i64 r9301.2.1.Buffer)] [], sg g6480 45 (0, 0) [] [v0x0, v0x1] [], hF, h7405, h7409, sg g7903 28 (0, 0) [] [v7403, v7407] [], sg g8001 35 (0, 0) [] [(.int .i64 r7401.2.1.Code), (.int .i64 r7401.2.1.Buffer)] []] (Mem.pick [1, 2, 0, 3, 4, 5, 6, 7, 8, 9, 10, 11, 12, 13] rfl hm10399)) hr10402) ?_
    rintro e w10407 ⟨h10403, h10405, rfl, H10404, H10406, hm10408⟩
    refine ⟨_, rfl, ?_⟩
    replace hm10408 : Mem w0 w10407 (cat [h10403, h10405, sg g8467 28 (0, 0) [] [v8456, v8460] [], sg g6484 46 (0, 0) [] [(.int .i64 a1.Kind), (.int .i64 a1.Owner), (.int .i64 a1.To), (.int .i64 a1.Buffer)] [], h9305, h9309, sg g9803 28 (0, 0) [] [v9303, v9307] [], sg g9901 35 (0, 0) [] [(.int .i64 r9301.2.1.Code), (.int .i64 r9301.2.1.Buffer)] [], sg g6480 45 (0, 0) [] [v0x0, v0x1] [], hF, h7405, h7409, sg g7903 28 (0, 0) [] [v7403, v7407] [], sg g8001 35 (0, 0) [] [(.int .i64 r7401.2.1.Code), (.int .i64 r7401.2.1.Buffer)] []]) := Mem.ung [h10403, h10405] [sg g8467 28 (0, 0) [] [v8456, v8460] [], sg g6484 46 (0, 0) [] [(.int .i64 a1.Kind), (.int .i64 a1.Owner), (.int .i64 a1.To), (.int .i64 a1.Buffer)] [], h9305, h9309, sg g9803 28 (0, 0) [] [v9303, v9307] [], sg g9901 35 (0, 0) [] [(.int .i64 r9301.2.1.Code), (.int .i64 r9301.2.1.Buffer)] [], sg g6480 45 (0, 0) [] [v0x0, v0x1] [], hF, h7405, h7409, sg g7903 28 (0, 0) [] [v7403, v7407] [], sg g8001 35 (0, 0) [] [(.int .i64 r7401.2.1.Code), (.int .i64 r7401.2.1.Buffer)] []] hm10408
    refine s_val (v := (.int .i64 r10402.1)) (won rfl) rfl rfl (x_assign rfl (ev (t := 65) rfl rfl)) ?_
    refine wpList_nil ?_
    have hm10409 : Mem w0 w10407 (cat [sg g6484 46 (0, 0) [] [(.int .i64 a1.Kind), (.int .i64 a1.Owner), (.int .i64 a1.To), (.int .i64 a1.Buffer)] [], h9305, h9309, sg g9803 28 (0, 0) [] [v9303, v9307] [], sg g9901 35 (0, 0) [] [(.int .i64 r9301.2.1.Code), (.int .i64 r9301.2.1.Buffer)] [], sg g6480 45 (0, 0) [] [v0x0, v0x1] [], hF, h7405, h7409, sg g7903 28 (0, 0) [] [v7403, v7407] [], sg g8001 35 (0, 0) [] [(.int .i64 r7401.2.1.Code), (.int .i64 r7401.2.1.Buffer)] []]) := Mem.pick [3, 4, 5, 6, 7, 8, 9, 10, 11, 12, 13] rfl hm10408
    refine nx ?_
    refine wp_seq ?_
    refine wp_seq ?_
    obtain ⟨r10419, hr10419, he⟩ := bindE he
    obtain ⟨r10422, hr10422, he⟩ := bindE he
    refine wp_region_lit ?_
    refine s_val (v := (.int .i64 r10402.1)) (won rfl) rfl rfl (x_move rfl (ev (t := 13) rfl rfl)) ?_
    refine s_val (v := (.bool (decide (r10402.1 < 0)))) (won rfl) rfl rfl (x_lss rfl (ev (t := 66) rfl rfl) rfl) ?_
    refine s_val (v := (.bool (decide (r10402.1 < 0)))) (won rfl) rfl rfl (x_move rfl (ev (t := 67) rfl rfl)) ?_
    refine s_cval (p := (!(decide (r10402.1 < 0)))) (v := (.agg #[v9303, v9307])) (won_f (j := 2) (t := 68) (q := (decide (r10402.1 < 0))) rfl rfl rfl rfl rfl) rfl rfl (fun hp => (x_loadN (vs := [v9303, v9307]) rfl tyN_28 (ev (t := 10) (v := (.pointer (some ⟨g9803, 0, none⟩))) rfl z9000x10) (seg_cells (o' := 0) (j := 0) hm10409 (k := 3) rfl rfl rfl))) ?_
    refine s_cval (p := (!(decide (r10402.1 < 0)))) (v := (.agg #[v7403, v7407])) (won_f (j := 2) (t := 68) (q := (decide (r10402.1 < 0))) rfl rfl rfl rfl rfl) rfl rfl (fun hp => (x_loadN (vs := [v7403, v7407]) rfl tyN_28 (ev (t := 6) (v := (.pointer (some ⟨g7903, 0, none⟩))) rfl z9000x6) (seg_cells (o' := 0) (j := 0) hm10409 (k := 9) rfl rfl rfl))) ?_
    refine s_ccall (p := (!(decide (r10402.1 < 0)))) (v := (.bool r10419)) (J := fun w' => Mem w0 w' (cat [sg g6484 46 (0, 0) [] [(.int .i64 a1.Kind), (.int .i64 a1.Owner), (.int .i64 a1.To), (.int .i64 a1.Buffer)] [], h9305, h9309, sg g9803 28 (0, 0) [] [v9303, v9307] [], sg g9901 35 (0, 0) [] [(.int .i64 r9301.2.1.Code), (.int .i64 r9301.2.1.Buffer)] [], sg g6480 45 (0, 0) [] [v0x0, v0x1] [], hF, h7405, h7409, sg g7903 28 (0, 0) [] [v7403, v7407] [], sg g8001 35 (0, 0) [] [(.int .i64 r7401.2.1.Code), (.int .i64 r7401.2.1.Buffer)] []])) (won_f (j := 2) (t := 68) (q := (decide (r10402.1 < 0))) rfl rfl rfl rfl rfl) rfl rfl (fun hp => (x_call rfl rfl cl_22 (map_lit (map_cons (ev (t := 69) rfl (Eq.trans (b := cv (!(decide (r10402.1 < 0))) (.agg #[v9303, v9307])) rfl (on_c hp))) (map_cons (ev (t := 70) rfl (Eq.trans (b := cv (!(decide (r10402.1 < 0))) (.agg #[v7403, v7407])) rfl (on_c hp))) map_nil))))) (fun hp => ((laws_eqPool_ok F (hR := (cat [h9305, h9309, h7405, h7409])) (hF := cat [sg g6484 46 (0, 0) [] [(.int .i64 a1.Kind), (.int .i64 a1.Owner), (.int .i64 a1.To), (.int .i64 a1.Buffer)] [], h9305, h9309, sg g9803 28 (0, 0) [] [v9303, v9307] [], sg g9901 35 (0, 0) [] [(.int .i64 r9301.2.1.Code), (.int .i64 r9301.2.1.Buffer)] [], sg g6480 45 (0, 0) [] [v0x0, v0x1] [], hF, h7405, h7409, sg g7903 28 (0, 0) [] [v7403, v7407] [], sg g8001 35 (0, 0) [] [(.int .i64 r7401.2.1.Code), (.int .i64 r7401.2.1.Buffer)] []]) r9301.1 r7401.1 ((H9304.rd w0).mono (Sub.at_ (k := 0) rfl)) ((H9308.rd w0).mono (Sub.at_ (k := 1) rfl)) ((H7404.rd w0).mono (Sub.at_ (k := 2) rfl)) ((H7408.rd w0).mono (Sub.at_ (k := 3) rfl)) (subc (Sub.at_ (k := 1) rfl) (subc (Sub.at_ (k := 2) rfl) (subc (Sub.at_ (k := 7) rfl) (subc (Sub.at_ (k := 8) rfl) subn)))) (Mem.one hm10409) (bifT hr10419 hp))).mono fun e w2 h => ⟨h.1, Mem.un h.2⟩) hm10409 ?_
    intro w10420 hm10421
    refine s_cval (p := (!(decide (r10402.1 < 0)))) (v := (.bool (!r10419))) (won_f (j := 2) (t := 68) (q := (decide (r10402.1 < 0))) rfl rfl rfl rfl rfl) rfl rfl (fun hp => (x_not rfl (ev (t := 71) rfl (Eq.trans (b := cv (!(decide (r10402.1 < 0))) (.bool r10419)) rfl (on_c hp))))) ?_
    refine s_val (v := (.bool ((decide (r10402.1 < 0)) || (!r10419)))) (won rfl) rfl rfl (x_pick_or rfl (ev (t := 68) rfl rfl) rfl (fun hq => ev rfl (Eq.trans (b := cv (!(decide (r10402.1 < 0))) (.bool (!r10419))) rfl (on_c (not_i hq))))) ?_
    refine s_val (v := (.bool ((decide (r10402.1 < 0)) || (!r10419)))) (won rfl) rfl rfl (x_move rfl (ev (t := 73) rfl rfl)) ?_
    refine s_cval (p := (!((decide (r10402.1 < 0)) || (!r10419)))) (v := (.agg #[(.int .i64 r9301.2.1.Code), (.int .i64 r9301.2.1.Buffer)])) (won_f (j := 8) (t := 74) (q := ((decide (r10402.1 < 0)) || (!r10419))) rfl rfl rfl rfl rfl) rfl rfl (fun hp => (x_loadN (vs := [(.int .i64 r9301.2.1.Code), (.int .i64 r9301.2.1.Buffer)]) rfl tyN_35 (ev (t := 11) (v := (.pointer (some ⟨g9901, 0, none⟩))) rfl z9000x11) (seg_cells (o' := 0) (j := 0) hm10421 (k := 4) rfl rfl rfl))) ?_
    refine s_cval (p := (!((decide (r10402.1 < 0)) || (!r10419)))) (v := (.agg #[(.int .i64 r7401.2.1.Code), (.int .i64 r7401.2.1.Buffer)])) (won_f (j := 8) (t := 74) (q := ((decide (r10402.1 < 0)) || (!r10419))) rfl rfl rfl rfl rfl) rfl rfl (fun hp => (x_loadN (vs := [(.int .i64 r7401.2.1.Code), (.int .i64 r7401.2.1.Buffer)]) rfl tyN_35 (ev (t := 7) (v := (.pointer (some ⟨g8001, 0, none⟩))) rfl z9000x7) (seg_cells (o' := 0) (j := 0) hm10421 (k := 10) rfl rfl rfl))) ?_
    refine s_ccall (p := (!((decide (r10402.1 < 0)) || (!r10419)))) (v := (.bool r10422)) (J := fun w' => Mem w0 w' (cat [sg g6484 46 (0, 0) [] [(.int .i64 a1.Kind), (.int .i64 a1.Owner), (.int .i64 a1.To), (.int .i64 a1.Buffer)] [], h9305, h9309, sg g9803 28 (0, 0) [] [v9303, v9307] [], sg g9901 35 (0, 0) [] [(.int .i64 r9301.2.1.Code), (.int .i64 r9301.2.1.Buffer)] [], sg g6480 45 (0, 0) [] [v0x0, v0x1] [], hF, h7405, h7409, sg g7903 28 (0, 0) [] [v7403, v7407] [], sg g8001 35 (0, 0) [] [(.int .i64 r7401.2.1.Code), (.int .i64 r7401.2.1.Buffer)] []])) (won_f (j := 8) (t := 74) (q := ((decide (r10402.1 < 0)) || (!r10419))) rfl rfl rfl rfl rfl) rfl rfl (fun hp => (x_call rfl rfl cl_23 (map_lit (map_cons (ev (t := 75) rfl (Eq.trans (b := cv (!((decide (r10402.1 < 0)) || (!r10419))) (.agg #[(.int .i64 r9301.2.1.Code), (.int .i64 r9301.2.1.Buffer)])) rfl (on_c hp))) (map_cons (ev (t := 76) rfl (Eq.trans (b := cv (!((decide (r10402.1 < 0)) || (!r10419))) (.agg #[(.int .i64 r7401.2.1.Code), (.int .i64 r7401.2.1.Buffer)])) rfl (on_c hp))) map_nil))))) (fun hp => ((laws_eqPoolReply_ok (hR := (cat [])) (hF := cat [sg g6484 46 (0, 0) [] [(.int .i64 a1.Kind), (.int .i64 a1.Owner), (.int .i64 a1.To), (.int .i64 a1.Buffer)] [], h9305, h9309, sg g9803 28 (0, 0) [] [v9303, v9307] [], sg g9901 35 (0, 0) [] [(.int .i64 r9301.2.1.Code), (.int .i64 r9301.2.1.Buffer)] [], sg g6480 45 (0, 0) [] [v0x0, v0x1] [], hF, h7405, h7409, sg g7903 28 (0, 0) [] [v7403, v7407] [], sg g8001 35 (0, 0) [] [(.int .i64 r7401.2.1.Code), (.int .i64 r7401.2.1.Buffer)] []]) r9301.2.1 r7401.2.1  (Mem.one hm10421) (bifT hr10422 hp))).mono fun e w2 h => ⟨h.1, Mem.un h.2⟩) hm10421 ?_
    intro w10423 hm10424
    refine s_cval (p := (!((decide (r10402.1 < 0)) || (!r10419)))) (v := (.bool (!r10422))) (won_f (j := 8) (t := 74) (q := ((decide (r10402.1 < 0)) || (!r10419))) rfl rfl rfl rfl rfl) rfl rfl (fun hp => (x_not rfl (ev (t := 77) rfl (Eq.trans (b := cv (!((decide (r10402.1 < 0)) || (!r10419))) (.bool r10422)) rfl (on_c hp))))) ?_
    refine s_val (v := (.bool (((decide (r10402.1 < 0)) || (!r10419)) || (!r10422)))) (won rfl) rfl rfl (x_pick_or rfl (ev (t := 74) rfl rfl) rfl (fun hq => ev rfl (Eq.trans (b := cv (!((decide (r10402.1 < 0)) || (!r10419))) (.bool (!r10422))) rfl (on_c (not_i hq))))) ?_
    refine s_val (v := (.bool (((decide (r10402.1 < 0)) || (!r10419)) || (!r10422)))) (won rfl) rfl rfl (x_move rfl (ev (t := 79) rfl rfl)) ?_
    refine s_cval (p := (!(((decide (r10402.1 < 0)) || (!r10419)) || (!r10422)))) (v := (.int .i64 r9301.2.2)) (won_f (j := 14) (t := 80) (q := (((decide (r10402.1 < 0)) || (!r10419)) || (!r10422))) rfl rfl rfl rfl rfl) rfl rfl (fun hp => (x_move rfl (ev (t := 12) (v := (.int .i64 r9301.2.2)) rfl z9000x12))) ?_
    refine s_cval (p := (!(((decide (r10402.1 < 0)) || (!r10419)) || (!r10422)))) (v := (.int .i64 r7401.2.2)) (won_f (j := 14) (t := 80) (q := (((decide (r10402.1 < 0)) || (!r10419)) || (!r10422))) rfl rfl rfl rfl rfl) rfl rfl (fun hp => (x_move rfl (ev (t := 8) (v := (.int .i64 r7401.2.2)) rfl z9000x8))) ?_
    refine s_cval (p := (!(((decide (r10402.1 < 0)) || (!r10419)) || (!r10422)))) (v := (.bool (!decide (r9301.2.2 = r7401.2.2)))) (won_f (j := 14) (t := 80) (q := (((decide (r10402.1 < 0)) || (!r10419)) || (!r10422))) rfl rfl rfl rfl rfl) rfl rfl (fun hp => (x_neq rfl (ev (t := 81) rfl (Eq.trans (b := cv (!(((decide (r10402.1 < 0)) || (!r10419)) || (!r10422))) (.int .i64 r9301.2.2)) rfl (on_c hp))) (ev (t := 82) rfl (Eq.trans (b := cv (!(((decide (r10402.1 < 0)) || (!r10419)) || (!r10422))) (.int .i64 r7401.2.2)) rfl (on_c hp))))) ?_
    refine s_val (v := (.bool ((((decide (r10402.1 < 0)) || (!r10419)) || (!r10422)) || (!decide (r9301.2.2 = r7401.2.2))))) (won rfl) rfl rfl (x_pick_or rfl (ev (t := 80) rfl rfl) rfl (fun hq => ev rfl (Eq.trans (b := cv (!(((decide (r10402.1 < 0)) || (!r10419)) || (!r10422))) (.bool (!decide (r9301.2.2 = r7401.2.2)))) rfl (on_c (not_i hq))))) ?_
    refine wpList_nil ?_
    have hm10425 : Mem w0 w10423 (cat [sg g6484 46 (0, 0) [] [(.int .i64 a1.Kind), (.int .i64 a1.Owner), (.int .i64 a1.To), (.int .i64 a1.Buffer)] [], h9305, h9309, sg g9803 28 (0, 0) [] [v9303, v9307] [], sg g6480 45 (0, 0) [] [v0x0, v0x1] [], hF, h7405, h7409, sg g7903 28 (0, 0) [] [v7403, v7407] [], sg g8001 35 (0, 0) [] [(.int .i64 r7401.2.1.Code), (.int .i64 r7401.2.1.Buffer)] []]) := Mem.pick [0, 1, 2, 3, 5, 6, 7, 8, 9, 10] rfl hm10424
    refine nx ?_
    rcases Bool.eq_false_or_eq_true (((((decide (r10402.1 < 0)) || (!r10419)) || (!r10422)) || (!decide (r9301.2.2 = r7401.2.2)))) with hb10426 | hb10426
    ·
     replace he := bifT he hb10426
     refine c_true rfl (p := ((((decide (r10402.1 < 0)) || (!r10419)) || (!r10422)) || (!decide (r9301.2.2 = r7401.2.2)))) rfl rfl hb10426 ?_
     refine wp_seq ?_
     refine wp_region_lit ?_
     refine s_val (v := (.bool false)) (won rfl) rfl rfl (x_assign rfl rfl) ?_
     refine wpList_nil ?_
     have hm10427 : Mem w0 w10423 (cat [hF]) := Mem.pick [5] rfl hm10425
     refine nx ?_
     refine wp_ret ?_
     refine xr ?_
     obtain rfl := Option.some.inj he
     refine r_ret (v := (.bool false)) (rv_one rfl (RVs.tmp (v := (.bool false)) rfl rfl RVs.nil)) rfl ?_
     exact ⟨rfl, Mem.pick [0] rfl hm10427⟩
    ·
     replace he := bifF he hb10426
     refine c_false rfl (p := ((((decide (r10402.1 < 0)) || (!r10419)) || (!r10422)) || (!decide (r9301.2.2 = r7401.2.2)))) rfl rfl hb10426 ?_
     refine wp_skip ?_
     refine nx ?_
     refine wp_seq ?_
     refine wp_region_lit ?_
     refine s_val (v := (.int .i64 1)) (won rfl) rfl rfl (x_assign rfl rfl) ?_
     refine wpList_nil ?_
     refine nx ?_
     refine wp_seq ?_
     obtain ⟨r10428, hr10428, he⟩ := bindE he
     refine wp_region_lit ?_
     refine s_val (v := (.agg #[v9303, v9307])) (won rfl) rfl rfl (x_loadN (vs := [v9303, v9307]) rfl tyN_28 (ev (t := 10) (v := (.pointer (some ⟨g9803, 0, none⟩))) rfl z9000x10) (seg_cells (o' := 0) (j := 0) hm10425 (k := 3) rfl rfl rfl)) ?_
     refine s_val (v := (.int .i64 1)) (won rfl) rfl rfl (x_move rfl (ev (t := 14) rfl rfl)) ?_
     refine s_call (won rfl) rfl rfl (x_call rfl rfl cl_24 (map_lit (map_cons (ev (t := 85) rfl rfl) (map_cons (ev (t := 86) rfl rfl) map_nil)))) (laws_markPool_ok F (hR := (cat [])) (hF := cat [sg g6484 46 (0, 0) [] [(.int .i64 a1.Kind), (.int .i64 a1.Owner), (.int .i64 a1.To), (.int .i64 a1.Buffer)] [], sg g9803 28 (0, 0) [] [v9303, v9307] [], sg g6480 45 (0, 0) [] [v0x0, v0x1] [], hF, h7405, h7409, sg g7903 28 (0, 0) [] [v7403, v7407] [], sg g8001 35 (0, 0) [] [(.int .i64 r7401.2.1.Code), (.int .i64 r7401.2.1.Buffer)] []]) r9301.1 1 H9304 H9308 (Mem.grp [h9305, h9309] [sg g6484 46 (0, 0) [] [(.int .i64 a1.Kind), (.int .i64 a1.Owner), (.int .i64 a1.To), (.int .i64 a1.Buffer)] [], sg g9803 28 (0, 0) [] [v9303, v9307] [], sg g6480 45 (0, 0) [] [v0x0, v0x1] [], hF, h7405, h7409, sg g7903 28 (0, 0) [] [v7403, v7407] [], sg g8001 35 (0, 0) [] [(.int .i64 r7401.2.1.Code), (.int .i64 r7401.2.1.Buffer)] []] (Mem.pick [1, 2, 0, 3, 4, 5, 6, 7, 8, 9] rfl hm10425)) hr10428) ?_
     rintro e w10433 ⟨h10429, h10431, rfl, H10430, H10432, hm10434⟩
     refine ⟨_, rfl, ?_⟩
     replace hm10434 : Mem w0 w10433 (cat [h10429, h10431, sg g6484 46 (0, 0) [] [(.int .i64 a1.Kind), (.int .i64 a1.Owner), (.int .i64 a1.To), (.int .i64 a1.Buffer)] [], sg g9803 28 (0, 0) [] [v9303, v9307] [], sg g6480 45 (0, 0) [] [v0x0, v0x1] [], hF, h7405, h7409, sg g7903 28 (0, 0) [] [v7403, v7407] [], sg g8001 35 (0, 0) [] [(.int .i64 r7401.2.1.Code), (.int .i64 r7401.2.1.Buffer)] []]) := Mem.ung [h10429, h10431] [sg g6484 46 (0, 0) [] [(.int .i64 a1.Kind), (.int .i64 a1.Owner), (.int .i64 a1.To), (.int .i64 a1.Buffer)] [], sg g9803 28 (0, 0) [] [v9303, v9307] [], sg g6480 45 (0, 0) [] [v0x0, v0x1] [], hF, h7405, h7409, sg g7903 28 (0, 0) [] [v7403, v7407] [], sg g8001 35 (0, 0) [] [(.int .i64 r7401.2.1.Code), (.int .i64 r7401.2.1.Buffer)] []] hm10434
     refine s_val (v := (.int .i64 r10428.1)) (won rfl) rfl rfl (x_assign rfl (ev (t := 87) rfl rfl)) ?_
     refine wpList_nil ?_
     refine nx ?_
     refine wp_seq ?_
     refine wp_region_lit ?_
     refine s_val (v := (.int .i64 1)) (won rfl) rfl rfl (x_assign rfl rfl) ?_
     refine wpList_nil ?_
     refine nx ?_
     refine wp_seq ?_
     obtain ⟨r10435, hr10435, he⟩ := bindE he
     refine wp_region_lit ?_
     refine s_val (v := (.agg #[v9303, v9307])) (won rfl) rfl rfl (x_loadN (vs := [v9303, v9307]) rfl tyN_28 (ev (t := 10) (v := (.pointer (some ⟨g9803, 0, none⟩))) rfl z9000x10) (seg_cells (o' := 0) (j := 0) hm10434 (k := 3) rfl rfl rfl)) ?_
     refine s_val (v := (.int .i64 1)) (won rfl) rfl rfl (x_move rfl (ev (t := 15) rfl rfl)) ?_
     refine s_call (won rfl) rfl rfl (x_call rfl rfl cl_25 (map_lit (map_cons (ev (t := 88) rfl rfl) (map_cons (ev (t := 89) rfl rfl) map_nil)))) (laws_heldPool_ok F (hR := (cat [h10429, h10431])) (hF := cat [h10429, h10431, sg g6484 46 (0, 0) [] [(.int .i64 a1.Kind), (.int .i64 a1.Owner), (.int .i64 a1.To), (.int .i64 a1.Buffer)] [], sg g9803 28 (0, 0) [] [v9303, v9307] [], sg g6480 45 (0, 0) [] [v0x0, v0x1] [], hF, h7405, h7409, sg g7903 28 (0, 0) [] [v7403, v7407] [], sg g8001 35 (0, 0) [] [(.int .i64 r7401.2.1.Code), (.int .i64 r7401.2.1.Buffer)] []]) (impl_Pool.mk r10428.2.1 r10428.2.2) 1 ((H10430.rd w0).mono (Sub.at_ (k := 0) rfl)) ((H10432.rd w0).mono (Sub.at_ (k := 1) rfl)) (subc (Sub.at_ (k := 0) rfl) (subc (Sub.at_ (k := 1) rfl) subn)) (Mem.one hm10434) hr10435) ?_
     rintro e w10436 ⟨rfl, hm10437⟩
     refine ⟨_, rfl, ?_⟩
     replace hm10437 : Mem w0 w10436 (cat [h10429, h10431, sg g6484 46 (0, 0) [] [(.int .i64 a1.Kind), (.int .i64 a1.Owner), (.int .i64 a1.To), (.int .i64 a1.Buffer)] [], sg g9803 28 (0, 0) [] [v9303, v9307] [], sg g6480 45 (0, 0) [] [v0x0, v0x1] [], hF, h7405, h7409, sg g7903 28 (0, 0) [] [v7403, v7407] [], sg g8001 35 (0, 0) [] [(.int .i64 r7401.2.1.Code), (.int .i64 r7401.2.1.Buffer)] []]) := Mem.un hm10437
     refine s_val (v := (.int .i64 r10435)) (won rfl) rfl rfl (x_assign rfl (ev (t := 90) rfl rfl)) ?_
     refine wpList_nil ?_
     refine nx ?_
     refine wp_seq ?_
     refine wp_seq ?_
     refine wp_region_lit ?_
     refine s_val (v := (.int .i64 r10435)) (won rfl) rfl rfl (x_move rfl (ev (t := 15) rfl rfl)) ?_
     refine s_val (v := (.bool (decide (r10435 < 0)))) (won rfl) rfl rfl (x_lss rfl (ev (t := 91) rfl rfl) rfl) ?_
     refine wpList_nil ?_
     refine nx ?_
     rcases Bool.eq_false_or_eq_true ((decide (r10435 < 0))) with hb10440 | hb10440
     ·
      replace he := bifT he hb10440
      refine c_true rfl (p := (decide (r10435 < 0))) rfl rfl hb10440 ?_
      refine wp_seq ?_
      refine wp_region_lit ?_
      refine s_val (v := (.bool false)) (won rfl) rfl rfl (x_assign rfl rfl) ?_
      refine wpList_nil ?_
      have hm10441 : Mem w0 w10436 (cat [hF]) := Mem.pick [5] rfl hm10437
      refine nx ?_
      refine wp_ret ?_
      refine xr ?_
      obtain rfl := Option.some.inj he
      refine r_ret (v := (.bool false)) (rv_one rfl (RVs.tmp (v := (.bool false)) rfl rfl RVs.nil)) rfl ?_
      exact ⟨rfl, Mem.pick [0] rfl hm10441⟩
     ·
      replace he := bifF he hb10440
      refine c_false rfl (p := (decide (r10435 < 0))) rfl rfl hb10440 ?_
      refine wp_skip ?_
      refine nx ?_
      refine wp_seq ?_
      refine wp_seq ?_
      refine wp_region_lit ?_
      refine s_val (v := (.int .i64 r10435)) (won rfl) rfl rfl (x_move rfl (ev (t := 15) rfl rfl)) ?_
      refine s_val (v := (.int .i64 r10428.1)) (won rfl) rfl rfl (x_move rfl (ev (t := 14) rfl rfl)) ?_
      refine s_val (v := (.bool (!decide (r10435 = r10428.1)))) (won rfl) rfl rfl (x_neq rfl (ev (t := 93) rfl rfl) (ev (t := 94) rfl rfl)) ?_
      refine wpList_nil ?_
      refine nx ?_
      rcases Bool.eq_false_or_eq_true ((!decide (r10435 = r10428.1))) with hb10444 | hb10444
      ·
       replace he := bifT he hb10444
       refine c_true rfl (p := (!decide (r10435 = r10428.1))) rfl rfl hb10444 ?_
       refine wp_seq ?_
       refine wp_region_lit ?_
       refine s_val (v := (.bool false)) (won rfl) rfl rfl (x_assign rfl rfl) ?_
       refine wpList_nil ?_
       have hm10445 : Mem w0 w10436 (cat [hF]) := Mem.pick [5] rfl hm10437
       refine nx ?_
       refine wp_ret ?_
       refine xr ?_
       obtain rfl := Option.some.inj he
       refine r_ret (v := (.bool false)) (rv_one rfl (RVs.tmp (v := (.bool false)) rfl rfl RVs.nil)) rfl ?_
       exact ⟨rfl, Mem.pick [0] rfl hm10445⟩
      ·
       replace he := bifF he hb10444
       refine c_false rfl (p := (!decide (r10435 = r10428.1))) rfl rfl hb10444 ?_
       refine wp_skip ?_
       refine nx ?_
       refine wp_seq ?_
       obtain ⟨r11101, hr11101, he⟩ := bindE he
       obtain ⟨r11301, hr11301, he⟩ := bindE he
       obtain ⟨r11401, hr11401, he⟩ := bindE he
       obtain ⟨hz11000, hze11000⟩ : ∃ hz : Hp, hz = cat [h10429, h10431, sg g9803 28 (0, 0) [] [v9303, v9307] [], h7405, h7409, sg g7903 28 (0, 0) [] [v7403, v7407] [], sg g8001 35 (0, 0) [] [(.int .i64 r7401.2.1.Code), (.int .i64 r7401.2.1.Buffer)] []] := ⟨_, rfl⟩
       have hm11000 : Mem w0 w10436 (cat [sg g6484 46 (0, 0) [] [(.int .i64 a1.Kind), (.int .i64 a1.Owner), (.int .i64 a1.To), (.int .i64 a1.Buffer)] [], sg g6480 45 (0, 0) [] [v0x0, v0x1] [], hF, hz11000]) := by rw [hze11000]; exact Mem.grp [sg g6484 46 (0, 0) [] [(.int .i64 a1.Kind), (.int .i64 a1.Owner), (.int .i64 a1.To), (.int .i64 a1.Buffer)] [], sg g6480 45 (0, 0) [] [v0x0, v0x1] [], hF] [h10429, h10431, sg g9803 28 (0, 0) [] [v9303, v9307] [], h7405, h7409, sg g7903 28 (0, 0) [] [v7403, v7407] [], sg g8001 35 (0, 0) [] [(.int .i64 r7401.2.1.Code), (.int .i64 r7401.2.1.Buffer)] []] (Mem.pick [2, 4, 5, 0, 1, 3, 6, 7, 8, 9] rfl hm10437)
       refine wp_drawF (I := fun f b a w => ∃ (vs : Nat → Value) (v11103 : Value) (h11105 : Hp) (v11107 : Value) (h11109 : Hp) (v11403 : Value) (h11405 : Hp) (v11407 : Value) (h11409 : Hp) (g11903 : Nat) (g12001 : Nat), a = fr 128 (sel b [(0, 97), (1, 98), (2, 99), (3, 100), (4, 101), (5, 96), (6, 102), (7, 103), (8, 104), (9, 16), (10, 17), (13, 18)] vs f) ∧ (b 0 = true → vs 0 = (.agg #[v0x0, v0x1])) ∧ (b 1 = true → vs 1 = (.agg #[v11103, v11107])) ∧ (b 2 = true → vs 2 = (.agg #[(.int .i64 a1.Kind), (.int .i64 a1.Owner), (.int .i64 a1.To), (.int .i64 a1.Buffer)])) ∧ (b 3 = true → vs 3 = (.agg #[(.int .i64 r11301.Kind), (.int .i64 r11301.Owner), (.int .i64 r11301.To), (.int .i64 r11301.Buffer)])) ∧ (b 4 = true → vs 4 = (.tuple #[(.agg #[v11403, v11407]), (.agg #[(.int .i64 r11401.2.1.Code), (.int .i64 r11401.2.1.Buffer)]), (.int .i64 r11401.2.2)])) ∧ (b 5 = true → vs 5 = (.tuple #[(.agg #[v11403, v11407]), (.agg #[(.int .i64 r11401.2.1.Code), (.int .i64 r11401.2.1.Buffer)]), (.int .i64 r11401.2.2)])) ∧ (b 6 = true → vs 6 = (.agg #[v11403, v11407])) ∧ (b 7 = true → vs 7 = (.agg #[(.int .i64 r11401.2.1.Code), (.int .i64 r11401.2.1.Buffer)])) ∧ (b 8 = true → vs 8 = (.int .i64 r11401.2.2)) ∧ (b 9 = true → vs 9 = (.pointer (some ⟨g11903, 0, none⟩))) ∧ (b 10 = true → vs 10 = (.pointer (some ⟨g12001, 0, none⟩))) ∧ (b 13 = true → vs 13 = (.int .i64 r11401.2.2)) ∧ (b 1 = true → OwF 3 (FK.int .i64) v11103 r11101.Free h11105) ∧ (b 1 = true → OwF 3 (FK.int .i64) v11107 r11101.Owner h11109) ∧ (b 4 = true → OwF 3 (FK.int .i64) v11403 r11401.1.Free h11405) ∧ (b 4 = true → OwF 3 (FK.int .i64) v11407 r11401.1.Owner h11409) ∧ Mem w0 w (cat [sg g6484 46 (0, 0) [] [(.int .i64 a1.Kind), (.int .i64 a1.Owner), (.int .i64 a1.To), (.int .i64 a1.Buffer)] [], sg g6480 45 (0, 0) [] [v0x0, v0x1] [], hF, hz11000, (bif b 1 then h11105 else []), (bif b 1 then h11109 else []), (bif b 4 then h11405 else []), (bif b 4 then h11409 else []), (bif b 11 then sg g11903 28 (0, 0) [] [v11403, v11407] [] else (bif b 9 then sg g11903 28 (0, 0) [] [(.slice none 0 0), (.slice none 0 0)] [] else [])), (bif b 12 then sg g12001 35 (0, 0) [] [(.int .i64 r11401.2.1.Code), (.int .i64 r11401.2.1.Buffer)] [] else (bif b 10 then sg g12001 35 (0, 0) [] [(.int .i64 0), (.int .i64 0)] [] else []))])) mixed (by kernel_rfl) ⟨fun _ => undef, undef, [], undef, [], undef, [], undef, [], 0, 0, (by rw [sel_false]), fun h => fno h, fun h => fno h, fun h => fno h, fun h => fno h, fun h => fno h, fun h => fno h, fun h => fno h, fun h => fno h, fun h => fno h, fun h => fno h, fun h => fno h, fun h => fno h, fun h => fno h, fun h => fno h, fun h => fno h, fun h => fno h, Mem.drew (Mem.pick [0, 1, 2, 3, 1000, 1001, 1002, 1003, 1004, 1005] rfl hm11000)⟩ (steps_cons (i := 0) ?_ (steps_cons (i := 1) ?_ (steps_cons (i := 2) ?_ (steps_cons (i := 3) ?_ (steps_cons (i := 4) ?_ (steps_cons (i := 5) ?_ (steps_cons (i := 6) ?_ (steps_cons (i := 7) ?_ (steps_cons (i := 8) ?_ (steps_cons (i := 9) ?_ (steps_cons (i := 10) ?_ (steps_cons (i := 11) ?_ (steps_cons (i := 12) ?_ (steps_cons (i := 13) ?_ steps_nil)))))))))))))) ?_
       ·
        intro b a w hI hbi hn hc K hK
        obtain ⟨vs, v11103, h11105, v11107, h11109, v11403, h11405, v11407, h11409, g11903, g12001, ha, y0, y1, y2, y3, y4, y5, y6, y7, y8, y9, y10, y13, H11104, H11108, H11404, H11408, hm⟩ := hI
        subst ha
        have b1 : b 1 = false := later (j := 1) hc rfl (i := 0) (da rfl) hbi
        have b3 : b 3 = false := later (j := 3) hc rfl (i := 1) (da rfl) b1
        have b4 : b 4 = false := later (j := 4) hc rfl (i := 1) (da rfl) b1
        have b5 : b 5 = false := later (j := 5) hc rfl (i := 4) (da rfl) b4
        have b6 : b 6 = false := later (j := 6) hc rfl (i := 5) (da rfl) b5
        have b7 : b 7 = false := later (j := 7) hc rfl (i := 5) (da rfl) b5
        have b8 : b 8 = false := later (j := 8) hc rfl (i := 5) (da rfl) b5
        have b11 : b 11 = false := later (j := 11) hc rfl (i := 0) (da rfl) hbi
        have b12 : b 12 = false := later (j := 12) hc rfl (i := 0) (da rfl) hbi
        have b13 : b 13 = false := later (j := 13) hc rfl (i := 0) (da rfl) hbi
        have hm12401 : Mem w0 w (cat [sg g6484 46 (0, 0) [] [(.int .i64 a1.Kind), (.int .i64 a1.Owner), (.int .i64 a1.To), (.int .i64 a1.Buffer)] [], sg g6480 45 (0, 0) [] [v0x0, v0x1] [], hF, hz11000, (bif b 9 then sg g11903 28 (0, 0) [] [(.slice none 0 0), (.slice none 0 0)] [] else []), (bif b 10 then sg g12001 35 (0, 0) [] [(.int .i64 0), (.int .i64 0)] [] else [])]) := Mem.pick [0, 1, 2, 3, 8, 9] rfl (Mem.cg (B := [sg g6484 46 (0, 0) [] [(.int .i64 a1.Kind), (.int .i64 a1.Owner), (.int .i64 a1.To), (.int .i64 a1.Buffer)] [], sg g6480 45 (0, 0) [] [v0x0, v0x1] [], hF, hz11000, [], [], [], [], (bif b 9 then sg g11903 28 (0, 0) [] [(.slice none 0 0), (.slice none 0 0)] [] else []), (bif b 10 then sg g12001 35 (0, 0) [] [(.int .i64 0), (.int .i64 0)] [] else [])]) (cat_cons rfl (cat_cons rfl (cat_cons rfl (cat_cons rfl (cat_cons (off_ b1 rfl) (cat_cons (off_ b1 rfl) (cat_cons (off_ b4 rfl) (cat_cons (off_ b4 rfl) (cat_cons (off_ b11 rfl) (cat_cons (off_ b12 rfl) rfl)))))))))) hm)
        refine e_val (i := 0) hbi rfl rfl (v := (.agg #[v0x0, v0x1])) (won rfl) rfl rfl (x_loadN (vs := [v0x0, v0x1]) rfl tyN_45 (ev (t := 2) (v := (.pointer (some ⟨g6480, 0, none⟩))) rfl ((sel_no rfl).trans z9000x2)) (seg_cells (o' := 0) (j := 0) hm12401 (k := 1) rfl rfl rfl)) ?_
        exact hK _ _ ⟨_, v11103, h11105, v11107, h11109, v11403, h11405, v11407, h11409, g11903, g12001, rfl, fun _ => rfl, y1, y2, y3, y4, y5, y6, y7, y8, y9, y10, y13, H11104, H11108, H11404, H11408, Mem.gc (A := [sg g6484 46 (0, 0) [] [(.int .i64 a1.Kind), (.int .i64 a1.Owner), (.int .i64 a1.To), (.int .i64 a1.Buffer)] [], sg g6480 45 (0, 0) [] [v0x0, v0x1] [], hF, hz11000, [], [], [], [], (bif b 9 then sg g11903 28 (0, 0) [] [(.slice none 0 0), (.slice none 0 0)] [] else []), (bif b 10 then sg g12001 35 (0, 0) [] [(.int .i64 0), (.int .i64 0)] [] else [])]) (cat_cons rfl (cat_cons rfl (cat_cons rfl (cat_cons rfl (cat_cons (off_ b1 rfl) (cat_cons (off_ b1 rfl) (cat_cons (off_ b4 rfl) (cat_cons (off_ b4 rfl) (cat_cons (off_ b11 rfl) (cat_cons (off_ b12 rfl) rfl)))))))))) (Mem.pick [0, 1, 2, 3, 1004, 1005, 1006, 1007, 4, 5] rfl hm12401)⟩
       ·
        intro b a w hI hbi hn hc K hK
        obtain ⟨vs, v11103, h11105, v11107, h11109, v11403, h11405, v11407, h11409, g11903, g12001, ha, y0, y1, y2, y3, y4, y5, y6, y7, y8, y9, y10, y13, H11104, H11108, H11404, H11408, hm⟩ := hI
        subst ha
        have b0 : b 0 = true := hn 0 (da rfl)
        have b3 : b 3 = false := later (j := 3) hc rfl (i := 1) (da rfl) hbi
        have b4 : b 4 = false := later (j := 4) hc rfl (i := 1) (da rfl) hbi
        have b5 : b 5 = false := later (j := 5) hc rfl (i := 4) (da rfl) b4
        have b6 : b 6 = false := later (j := 6) hc rfl (i := 5) (da rfl) b5
        have b7 : b 7 = false := later (j := 7) hc rfl (i := 5) (da rfl) b5
        have b8 : b 8 = false := later (j := 8) hc rfl (i := 5) (da rfl) b5
        have b11 : b 11 = false := later (j := 11) hc rfl (i := 1) (da rfl) hbi
        have b12 : b 12 = false := later (j := 12) hc rfl (i := 1) (da rfl) hbi
        have b13 : b 13 = false := later (j := 13) hc rfl (i := 1) (da rfl) hbi
        have hm12404 : Mem w0 w (cat [sg g6484 46 (0, 0) [] [(.int .i64 a1.Kind), (.int .i64 a1.Owner), (.int .i64 a1.To), (.int .i64 a1.Buffer)] [], sg g6480 45 (0, 0) [] [v0x0, v0x1] [], hF, hz11000, (bif b 9 then sg g11903 28 (0, 0) [] [(.slice none 0 0), (.slice none 0 0)] [] else []), (bif b 10 then sg g12001 35 (0, 0) [] [(.int .i64 0), (.int .i64 0)] [] else [])]) := Mem.pick [0, 1, 2, 3, 8, 9] rfl (Mem.cg (B := [sg g6484 46 (0, 0) [] [(.int .i64 a1.Kind), (.int .i64 a1.Owner), (.int .i64 a1.To), (.int .i64 a1.Buffer)] [], sg g6480 45 (0, 0) [] [v0x0, v0x1] [], hF, hz11000, [], [], [], [], (bif b 9 then sg g11903 28 (0, 0) [] [(.slice none 0 0), (.slice none 0 0)] [] else []), (bif b 10 then sg g12001 35 (0, 0) [] [(.int .i64 0), (.int .i64 0)] [] else [])]) (cat_cons rfl (cat_cons rfl (cat_cons rfl (cat_cons rfl (cat_cons (off_ hbi rfl) (cat_cons (off_ hbi rfl) (cat_cons (off_ b4 rfl) (cat_cons (off_ b4 rfl) (cat_cons (off_ b11 rfl) (cat_cons (off_ b12 rfl) rfl)))))))))) hm)
        refine e_call (i := 1) hbi rfl rfl (won rfl) rfl rfl (x_call rfl rfl cl_20 (map_lit (map_cons (ev (t := 97) (v := (.agg #[v0x0, v0x1])) rfl ((sel_on (p := (0, 97)) rfl b0).trans (y0 b0))) map_nil))) (laws_toPool_ok F (hR := (cat [hR])) (hF := cat [sg g6484 46 (0, 0) [] [(.int .i64 a1.Kind), (.int .i64 a1.Owner), (.int .i64 a1.To), (.int .i64 a1.Buffer)] [], sg g6480 45 (0, 0) [] [v0x0, v0x1] [], hF, hz11000, (bif b 9 then sg g11903 28 (0, 0) [] [(.slice none 0 0), (.slice none 0 0)] [] else []), (bif b 10 then sg g12001 35 (0, 0) [] [(.int .i64 0), (.int .i64 0)] [] else [])]) a0 (H0x0.mono (Sub.at_ (k := 0) rfl)) (H0x1.mono (Sub.at_ (k := 0) rfl)) (subc (Sub.trans hs (Sub.at_ (k := 2) rfl)) subn) (Mem.one hm12404) hr11101) ?_
        rintro e w11110 ⟨v11103, h11105, v11107, h11109, rfl, H11104, H11108, hm11111⟩
        refine ⟨_, rfl, ?_⟩
        replace hm11111 : Mem w0 w11110 (cat [h11105, h11109, sg g6484 46 (0, 0) [] [(.int .i64 a1.Kind), (.int .i64 a1.Owner), (.int .i64 a1.To), (.int .i64 a1.Buffer)] [], sg g6480 45 (0, 0) [] [v0x0, v0x1] [], hF, hz11000, (bif b 9 then sg g11903 28 (0, 0) [] [(.slice none 0 0), (.slice none 0 0)] [] else []), (bif b 10 then sg g12001 35 (0, 0) [] [(.int .i64 0), (.int .i64 0)] [] else [])]) := Mem.ung [h11105, h11109] [sg g6484 46 (0, 0) [] [(.int .i64 a1.Kind), (.int .i64 a1.Owner), (.int .i64 a1.To), (.int .i64 a1.Buffer)] [], sg g6480 45 (0, 0) [] [v0x0, v0x1] [], hF, hz11000, (bif b 9 then sg g11903 28 (0, 0) [] [(.slice none 0 0), (.slice none 0 0)] [] else []), (bif b 10 then sg g12001 35 (0, 0) [] [(.int .i64 0), (.int .i64 0)] [] else [])] hm11111
        exact hK _ _ ⟨_, v11103, h11105, v11107, h11109, v11403, h11405, v11407, h11409, g11903, g12001, rfl, y0, fun _ => rfl, y2, y3, y4, y5, y6, y7, y8, y9, y10, y13, fun _ => H11104, fun _ => H11108, H11404, H11408, Mem.gc (A := [sg g6484 46 (0, 0) [] [(.int .i64 a1.Kind), (.int .i64 a1.Owner), (.int .i64 a1.To), (.int .i64 a1.Buffer)] [], sg g6480 45 (0, 0) [] [v0x0, v0x1] [], hF, hz11000, h11105, h11109, [], [], (bif b 9 then sg g11903 28 (0, 0) [] [(.slice none 0 0), (.slice none 0 0)] [] else []), (bif b 10 then sg g12001 35 (0, 0) [] [(.int .i64 0), (.int .i64 0)] [] else [])]) (cat_cons rfl (cat_cons rfl (cat_cons rfl (cat_cons rfl (cat_cons (on_ rfl rfl) (cat_cons (on_ rfl rfl) (cat_cons (off_ b4 rfl) (cat_cons (off_ b4 rfl) (cat_cons (off_ b11 rfl) (cat_cons (off_ b12 rfl) rfl)))))))))) (Mem.pick [2, 3, 4, 5, 0, 1, 1006, 1007, 6, 7] rfl hm11111)⟩
       ·
        intro b a w hI hbi hn hc K hK
        obtain ⟨vs, v11103, h11105, v11107, h11109, v11403, h11405, v11407, h11409, g11903, g12001, ha, y0, y1, y2, y3, y4, y5, y6, y7, y8, y9, y10, y13, H11104, H11108, H11404, H11408, hm⟩ := hI
        subst ha
        have b3 : b 3 = false := later (j := 3) hc rfl (i := 2) (da rfl) hbi
        have b4 : b 4 = false := later (j := 4) hc rfl (i := 3) (da rfl) b3
        have b5 : b 5 = false := later (j := 5) hc rfl (i := 4) (da rfl) b4
        have b6 : b 6 = false := later (j := 6) hc rfl (i := 5) (da rfl) b5
        have b7 : b 7 = false := later (j := 7) hc rfl (i := 5) (da rfl) b5
        have b8 : b 8 = false := later (j := 8) hc rfl (i := 5) (da rfl) b5
        have b11 : b 11 = false := later (j := 11) hc rfl (i := 2) (da rfl) hbi
        have b12 : b 12 = false := later (j := 12) hc rfl (i := 2) (da rfl) hbi
        have b13 : b 13 = false := later (j := 13) hc rfl (i := 2) (da rfl) hbi
        have hm12407 : Mem w0 w (cat [sg g6484 46 (0, 0) [] [(.int .i64 a1.Kind), (.int .i64 a1.Owner), (.int .i64 a1.To), (.int .i64 a1.Buffer)] [], sg g6480 45 (0, 0) [] [v0x0, v0x1] [], hF, hz11000, (bif b 1 then h11105 else []), (bif b 1 then h11109 else []), (bif b 9 then sg g11903 28 (0, 0) [] [(.slice none 0 0), (.slice none 0 0)] [] else []), (bif b 10 then sg g12001 35 (0, 0) [] [(.int .i64 0), (.int .i64 0)] [] else [])]) := Mem.pick [0, 1, 2, 3, 4, 5, 8, 9] rfl (Mem.cg (B := [sg g6484 46 (0, 0) [] [(.int .i64 a1.Kind), (.int .i64 a1.Owner), (.int .i64 a1.To), (.int .i64 a1.Buffer)] [], sg g6480 45 (0, 0) [] [v0x0, v0x1] [], hF, hz11000, (bif b 1 then h11105 else []), (bif b 1 then h11109 else []), [], [], (bif b 9 then sg g11903 28 (0, 0) [] [(.slice none 0 0), (.slice none 0 0)] [] else []), (bif b 10 then sg g12001 35 (0, 0) [] [(.int .i64 0), (.int .i64 0)] [] else [])]) (cat_cons rfl (cat_cons rfl (cat_cons rfl (cat_cons rfl (cat_cons rfl (cat_cons rfl (cat_cons (off_ b4 rfl) (cat_cons (off_ b4 rfl) (cat_cons (off_ b11 rfl) (cat_cons (off_ b12 rfl) rfl)))))))))) hm)
        refine e_val (i := 2) hbi rfl rfl (v := (.agg #[(.int .i64 a1.Kind), (.int .i64 a1.Owner), (.int .i64 a1.To), (.int .i64 a1.Buffer)])) (won rfl) rfl rfl (x_loadN (vs := [(.int .i64 a1.Kind), (.int .i64 a1.Owner), (.int .i64 a1.To), (.int .i64 a1.Buffer)]) rfl tyN_46 (ev (t := 3) (v := (.pointer (some ⟨g6484, 0, none⟩))) rfl ((sel_no rfl).trans z9000x3)) (seg_cells (o' := 0) (j := 0) hm12407 (k := 0) rfl rfl rfl)) ?_
        exact hK _ _ ⟨_, v11103, h11105, v11107, h11109, v11403, h11405, v11407, h11409, g11903, g12001, rfl, y0, y1, fun _ => rfl, y3, y4, y5, y6, y7, y8, y9, y10, y13, H11104, H11108, H11404, H11408, Mem.gc (A := [sg g6484 46 (0, 0) [] [(.int .i64 a1.Kind), (.int .i64 a1.Owner), (.int .i64 a1.To), (.int .i64 a1.Buffer)] [], sg g6480 45 (0, 0) [] [v0x0, v0x1] [], hF, hz11000, (bif b 1 then h11105 else []), (bif b 1 then h11109 else []), [], [], (bif b 9 then sg g11903 28 (0, 0) [] [(.slice none 0 0), (.slice none 0 0)] [] else []), (bif b 10 then sg g12001 35 (0, 0) [] [(.int .i64 0), (.int .i64 0)] [] else [])]) (cat_cons rfl (cat_cons rfl (cat_cons rfl (cat_cons rfl (cat_cons rfl (cat_cons rfl (cat_cons (off_ b4 rfl) (cat_cons (off_ b4 rfl) (cat_cons (off_ b11 rfl) (cat_cons (off_ b12 rfl) rfl)))))))))) (Mem.pick [0, 1, 2, 3, 4, 5, 1006, 1007, 6, 7] rfl hm12407)⟩
       ·
        intro b a w hI hbi hn hc K hK
        obtain ⟨vs, v11103, h11105, v11107, h11109, v11403, h11405, v11407, h11409, g11903, g12001, ha, y0, y1, y2, y3, y4, y5, y6, y7, y8, y9, y10, y13, H11104, H11108, H11404, H11408, hm⟩ := hI
        subst ha
        have b1 : b 1 = true := hn 1 (da rfl)
        have b2 : b 2 = true := hn 2 (da rfl)
        have b0 : b 0 = true := hc 1 _ rfl b1 0 (da rfl)
        have b4 : b 4 = false := later (j := 4) hc rfl (i := 3) (da rfl) hbi
        have b5 : b 5 = false := later (j := 5) hc rfl (i := 4) (da rfl) b4
        have b6 : b 6 = false := later (j := 6) hc rfl (i := 5) (da rfl) b5
        have b7 : b 7 = false := later (j := 7) hc rfl (i := 5) (da rfl) b5
        have b8 : b 8 = false := later (j := 8) hc rfl (i := 5) (da rfl) b5
        have b11 : b 11 = false := later (j := 11) hc rfl (i := 3) (da rfl) hbi
        have b12 : b 12 = false := later (j := 12) hc rfl (i := 3) (da rfl) hbi
        have b13 : b 13 = false := later (j := 13) hc rfl (i := 3) (da rfl) hbi
        have H11104 := H11104 b1
        have H11108 := H11108 b1
        have hm12410 : Mem w0 w (cat [sg g6484 46 (0, 0) [] [(.int .i64 a1.Kind), (.int .i64 a1.Owner), (.int .i64 a1.To), (.int .i64 a1.Buffer)] [], sg g6480 45 (0, 0) [] [v0x0, v0x1] [], hF, hz11000, h11105, h11109, (bif b 9 then sg g11903 28 (0, 0) [] [(.slice none 0 0), (.slice none 0 0)] [] else []), (bif b 10 then sg g12001 35 (0, 0) [] [(.int .i64 0), (.int .i64 0)] [] else [])]) := Mem.pick [0, 1, 2, 3, 4, 5, 8, 9] rfl (Mem.cg (B := [sg g6484 46 (0, 0) [] [(.int .i64 a1.Kind), (.int .i64 a1.Owner), (.int .i64 a1.To), (.int .i64 a1.Buffer)] [], sg g6480 45 (0, 0) [] [v0x0, v0x1] [], hF, hz11000, h11105, h11109, [], [], (bif b 9 then sg g11903 28 (0, 0) [] [(.slice none 0 0), (.slice none 0 0)] [] else []), (bif b 10 then sg g12001 35 (0, 0) [] [(.int .i64 0), (.int .i64 0)] [] else [])]) (cat_cons rfl (cat_cons rfl (cat_cons rfl (cat_cons rfl (cat_cons (on_ b1 rfl) (cat_cons (on_ b1 rfl) (cat_cons (off_ b4 rfl) (cat_cons (off_ b4 rfl) (cat_cons (off_ b11 rfl) (cat_cons (off_ b12 rfl) rfl)))))))))) hm)
        refine e_call (i := 3) hbi rfl rfl (won rfl) rfl rfl (x_call rfl rfl cl_21 (map_lit (map_cons (ev (t := 99) (v := (.agg #[(.int .i64 a1.Kind), (.int .i64 a1.Owner), (.int .i64 a1.To), (.int .i64 a1.Buffer)])) rfl ((sel_on (p := (2, 99)) rfl b2).trans (y2 b2))) map_nil))) (laws_toPoolAct_ok (hR := (cat [])) (hF := cat [sg g6484 46 (0, 0) [] [(.int .i64 a1.Kind), (.int .i64 a1.Owner), (.int .i64 a1.To), (.int .i64 a1.Buffer)] [], sg g6480 45 (0, 0) [] [v0x0, v0x1] [], hF, hz11000, h11105, h11109, (bif b 9 then sg g11903 28 (0, 0) [] [(.slice none 0 0), (.slice none 0 0)] [] else []), (bif b 10 then sg g12001 35 (0, 0) [] [(.int .i64 0), (.int .i64 0)] [] else [])]) a1  (Mem.one hm12410) hr11301) ?_
        rintro e w11302 ⟨rfl, hm11303⟩
        refine ⟨_, rfl, ?_⟩
        replace hm11303 : Mem w0 w11302 (cat [sg g6484 46 (0, 0) [] [(.int .i64 a1.Kind), (.int .i64 a1.Owner), (.int .i64 a1.To), (.int .i64 a1.Buffer)] [], sg g6480 45 (0, 0) [] [v0x0, v0x1] [], hF, hz11000, h11105, h11109, (bif b 9 then sg g11903 28 (0, 0) [] [(.slice none 0 0), (.slice none 0 0)] [] else []), (bif b 10 then sg g12001 35 (0, 0) [] [(.int .i64 0), (.int .i64 0)] [] else [])]) := Mem.un hm11303
        exact hK _ _ ⟨_, v11103, h11105, v11107, h11109, v11403, h11405, v11407, h11409, g11903, g12001, rfl, y0, y1, y2, fun _ => rfl, y4, y5, y6, y7, y8, y9, y10, y13, fun _ => H11104, fun _ => H11108, H11404, H11408, Mem.gc (A := [sg g6484 46 (0, 0) [] [(.int .i64 a1.Kind), (.int .i64 a1.Owner), (.int .i64 a1.To), (.int .i64 a1.Buffer)] [], sg g6480 45 (0, 0) [] [v0x0, v0x1] [], hF, hz11000, h11105, h11109, [], [], (bif b 9 then sg g11903 28 (0, 0) [] [(.slice none 0 0), (.slice none 0 0)] [] else []), (bif b 10 then sg g12001 35 (0, 0) [] [(.int .i64 0), (.int .i64 0)] [] else [])]) (cat_cons rfl (cat_cons rfl (cat_cons rfl (cat_cons rfl (cat_cons (on_ b1 rfl) (cat_cons (on_ b1 rfl) (cat_cons (off_ b4 rfl) (cat_cons (off_ b4 rfl) (cat_cons (off_ b11 rfl) (cat_cons (off_ b12 rfl) rfl)))))))))) (Mem.pick [0, 1, 2, 3, 4, 5, 1006, 1007, 6, 7] rfl hm11303)⟩
       ·
        intro b a w hI hbi hn hc K hK
        obtain ⟨vs, v11103, h11105, v11107, h11109, v11403, h11405, v11407, h11409, g11903, g12001, ha, y0, y1, y2, y3, y4, y5, y6, y7, y8, y9, y10, y13, H11104, H11108, H11404, H11408, hm⟩ := hI
        subst ha
        have b1 : b 1 = true := hn 1 (da rfl)
        have b3 : b 3 = true := hn 3 (da rfl)
        have b0 : b 0 = true := hc 1 _ rfl b1 0 (da rfl)
        have b2 : b 2 = true := hc 3 _ rfl b3 2 (da rfl)
        have b5 : b 5 = false := later (j := 5) hc rfl (i := 4) (da rfl) hbi
        have b6 : b 6 = false := later (j := 6) hc rfl (i := 5) (da rfl) b5
        have b7 : b 7 = false := later (j := 7) hc rfl (i := 5) (da rfl) b5
        have b8 : b 8 = false := later (j := 8) hc rfl (i := 5) (da rfl) b5
        have b11 : b 11 = false := later (j := 11) hc rfl (i := 4) (da rfl) hbi
        have b12 : b 12 = false := later (j := 12) hc rfl (i := 4) (da rfl) hbi
        have b13 : b 13 = false := later (j := 13) hc rfl (i := 4) (da rfl) hbi
        have H11104 := H11104 b1
        have H11108 := H11108 b1
        have hm12413 : Mem w0 w (cat [sg g6484 46 (0, 0) [] [(.int .i64 a1.Kind), (.int .i64 a1.Owner), (.int .i64 a1.To), (.int .i64 a1.Buffer)] [], sg g6480 45 (0, 0) [] [v0x0, v0x1] [], hF, hz11000, h11105, h11109, (bif b 9 then sg g11903 28 (0, 0) [] [(.slice none 0 0), (.slice none 0 0)] [] else []), (bif b 10 then sg g12001 35 (0, 0) [] [(.int .i64 0), (.int .i64 0)] [] else [])]) := Mem.pick [0, 1, 2, 3, 4, 5, 8, 9] rfl (Mem.cg (B := [sg g6484 46 (0, 0) [] [(.int .i64 a1.Kind), (.int .i64 a1.Owner), (.int .i64 a1.To), (.int .i64 a1.Buffer)] [], sg g6480 45 (0, 0) [] [v0x0, v0x1] [], hF, hz11000, h11105, h11109, [], [], (bif b 9 then sg g11903 28 (0, 0) [] [(.slice none 0 0), (.slice none 0 0)] [] else []), (bif b 10 then sg g12001 35 (0, 0) [] [(.int .i64 0), (.int .i64 0)] [] else [])]) (cat_cons rfl (cat_cons rfl (cat_cons rfl (cat_cons rfl (cat_cons (on_ b1 rfl) (cat_cons (on_ b1 rfl) (cat_cons (off_ hbi rfl) (cat_cons (off_ hbi rfl) (cat_cons (off_ b11 rfl) (cat_cons (off_ b12 rfl) rfl)))))))))) hm)
        refine e_call (i := 4) hbi rfl rfl (won rfl) rfl rfl (x_call rfl rfl cl_14 (map_lit (map_cons (ev (t := 98) (v := (.agg #[v11103, v11107])) rfl ((sel_on (p := (1, 98)) rfl b1).trans (y1 b1))) (map_cons (ev (t := 100) (v := (.agg #[(.int .i64 r11301.Kind), (.int .i64 r11301.Owner), (.int .i64 r11301.To), (.int .i64 r11301.Buffer)])) rfl ((sel_on (p := (3, 100)) rfl b3).trans (y3 b3))) map_nil)))) (impl_PoolStep_ok F (hR := (cat [h11105, h11109])) (hF := cat [sg g6484 46 (0, 0) [] [(.int .i64 a1.Kind), (.int .i64 a1.Owner), (.int .i64 a1.To), (.int .i64 a1.Buffer)] [], sg g6480 45 (0, 0) [] [v0x0, v0x1] [], hF, hz11000, h11105, h11109, (bif b 9 then sg g11903 28 (0, 0) [] [(.slice none 0 0), (.slice none 0 0)] [] else []), (bif b 10 then sg g12001 35 (0, 0) [] [(.int .i64 0), (.int .i64 0)] [] else [])]) r11101 r11301 ((H11104.rd w0).mono (Sub.at_ (k := 0) rfl)) ((H11108.rd w0).mono (Sub.at_ (k := 1) rfl)) (subc (Sub.at_ (k := 4) rfl) (subc (Sub.at_ (k := 5) rfl) subn)) (Mem.one hm12413) hr11401) ?_
        rintro e w11410 ⟨v11403, h11405, v11407, h11409, rfl, H11404, H11408, hm11411⟩
        refine ⟨_, rfl, ?_⟩
        replace hm11411 : Mem w0 w11410 (cat [h11405, h11409, sg g6484 46 (0, 0) [] [(.int .i64 a1.Kind), (.int .i64 a1.Owner), (.int .i64 a1.To), (.int .i64 a1.Buffer)] [], sg g6480 45 (0, 0) [] [v0x0, v0x1] [], hF, hz11000, h11105, h11109, (bif b 9 then sg g11903 28 (0, 0) [] [(.slice none 0 0), (.slice none 0 0)] [] else []), (bif b 10 then sg g12001 35 (0, 0) [] [(.int .i64 0), (.int .i64 0)] [] else [])]) := Mem.ung [h11405, h11409] [sg g6484 46 (0, 0) [] [(.int .i64 a1.Kind), (.int .i64 a1.Owner), (.int .i64 a1.To), (.int .i64 a1.Buffer)] [], sg g6480 45 (0, 0) [] [v0x0, v0x1] [], hF, hz11000, h11105, h11109, (bif b 9 then sg g11903 28 (0, 0) [] [(.slice none 0 0), (.slice none 0 0)] [] else []), (bif b 10 then sg g12001 35 (0, 0) [] [(.int .i64 0), (.int .i64 0)] [] else [])] hm11411
        exact hK _ _ ⟨_, v11103, h11105, v11107, h11109, v11403, h11405, v11407, h11409, g11903, g12001, rfl, y0, y1, y2, y3, fun _ => rfl, fun hb => ab b5 hb, fun hb => ab b6 hb, y7, y8, y9, y10, y13, fun _ => H11104, fun _ => H11108, fun _ => H11404, fun _ => H11408, Mem.gc (A := [sg g6484 46 (0, 0) [] [(.int .i64 a1.Kind), (.int .i64 a1.Owner), (.int .i64 a1.To), (.int .i64 a1.Buffer)] [], sg g6480 45 (0, 0) [] [v0x0, v0x1] [], hF, hz11000, h11105, h11109, h11405, h11409, (bif b 9 then sg g11903 28 (0, 0) [] [(.slice none 0 0), (.slice none 0 0)] [] else []), (bif b 10 then sg g12001 35 (0, 0) [] [(.int .i64 0), (.int .i64 0)] [] else [])]) (cat_cons rfl (cat_cons rfl (cat_cons rfl (cat_cons rfl (cat_cons (on_ b1 rfl) (cat_cons (on_ b1 rfl) (cat_cons (on_ rfl rfl) (cat_cons (on_ rfl rfl) (cat_cons (off_ b11 rfl) (cat_cons (off_ b12 rfl) rfl)))))))))) (Mem.pick [2, 3, 4, 5, 6, 7, 0, 1, 8, 9] rfl hm11411)⟩
       ·
        intro b a w hI hbi hn hc K hK
        obtain ⟨vs, v11103, h11105, v11107, h11109, v11403, h11405, v11407, h11409, g11903, g12001, ha, y0, y1, y2, y3, y4, y5, y6, y7, y8, y9, y10, y13, H11104, H11108, H11404, H11408, hm⟩ := hI
        subst ha
        have b4 : b 4 = true := hn 4 (da rfl)
        have b1 : b 1 = true := hc 4 _ rfl b4 1 (da rfl)
        have b3 : b 3 = true := hc 4 _ rfl b4 3 (da rfl)
        have b0 : b 0 = true := hc 1 _ rfl b1 0 (da rfl)
        have b2 : b 2 = true := hc 3 _ rfl b3 2 (da rfl)
        have b6 : b 6 = false := later (j := 6) hc rfl (i := 5) (da rfl) hbi
        have b7 : b 7 = false := later (j := 7) hc rfl (i := 5) (da rfl) hbi
        have b8 : b 8 = false := later (j := 8) hc rfl (i := 5) (da rfl) hbi
        have b11 : b 11 = false := later (j := 11) hc rfl (i := 5) (da rfl) hbi
        have b12 : b 12 = false := later (j := 12) hc rfl (i := 5) (da rfl) hbi
        have b13 : b 13 = false := later (j := 13) hc rfl (i := 5) (da rfl) hbi
        have H11104 := H11104 b1
        have H11108 := H11108 b1
        have H11404 := H11404 b4
        have H11408 := H11408 b4
        have hm12416 : Mem w0 w (cat [sg g6484 46 (0, 0) [] [(.int .i64 a1.Kind), (.int .i64 a1.Owner), (.int .i64 a1.To), (.int .i64 a1.Buffer)] [], sg g6480 45 (0, 0) [] [v0x0, v0x1] [], hF, hz11000, h11105, h11109, h11405, h11409, (bif b 9 then sg g11903 28 (0, 0) [] [(.slice none 0 0), (.slice none 0 0)] [] else []), (bif b 10 then sg g12001 35 (0, 0) [] [(.int .i64 0), (.int .i64 0)] [] else [])]) := Mem.pick [0, 1, 2, 3, 4, 5, 6, 7, 8, 9] rfl (Mem.cg (B := [sg g6484 46 (0, 0) [] [(.int .i64 a1.Kind), (.int .i64 a1.Owner), (.int .i64 a1.To), (.int .i64 a1.Buffer)] [], sg g6480 45 (0, 0) [] [v0x0, v0x1] [], hF, hz11000, h11105, h11109, h11405, h11409, (bif b 9 then sg g11903 28 (0, 0) [] [(.slice none 0 0), (.slice none 0 0)] [] else []), (bif b 10 then sg g12001 35 (0, 0) [] [(.int .i64 0), (.int .i64 0)] [] else [])]) (cat_cons rfl (cat_cons rfl (cat_cons rfl (cat_cons rfl (cat_cons (on_ b1 rfl) (cat_cons (on_ b1 rfl) (cat_cons (on_ b4 rfl) (cat_cons (on_ b4 rfl) (cat_cons (off_ b11 rfl) (cat_cons (off_ b12 rfl) rfl)))))))))) hm)
        refine e_val (i := 5) hbi rfl rfl (v := (.tuple #[(.agg #[v11403, v11407]), (.agg #[(.int .i64 r11401.2.1.Code), (.int .i64 r11401.2.1.Buffer)]), (.int .i64 r11401.2.2)])) (won rfl) rfl rfl (x_move rfl (ev (t := 101) (v := (.tuple #[(.agg #[v11403, v11407]), (.agg #[(.int .i64 r11401.2.1.Code), (.int .i64 r11401.2.1.Buffer)]), (.int .i64 r11401.2.2)])) rfl ((sel_on (p := (4, 101)) rfl b4).trans (y4 b4)))) ?_
        exact hK _ _ ⟨_, v11103, h11105, v11107, h11109, v11403, h11405, v11407, h11409, g11903, g12001, rfl, y0, y1, y2, y3, y4, fun _ => rfl, y6, y7, y8, y9, y10, y13, fun _ => H11104, fun _ => H11108, fun _ => H11404, fun _ => H11408, Mem.gc (A := [sg g6484 46 (0, 0) [] [(.int .i64 a1.Kind), (.int .i64 a1.Owner), (.int .i64 a1.To), (.int .i64 a1.Buffer)] [], sg g6480 45 (0, 0) [] [v0x0, v0x1] [], hF, hz11000, h11105, h11109, h11405, h11409, (bif b 9 then sg g11903 28 (0, 0) [] [(.slice none 0 0), (.slice none 0 0)] [] else []), (bif b 10 then sg g12001 35 (0, 0) [] [(.int .i64 0), (.int .i64 0)] [] else [])]) (cat_cons rfl (cat_cons rfl (cat_cons rfl (cat_cons rfl (cat_cons (on_ b1 rfl) (cat_cons (on_ b1 rfl) (cat_cons (on_ b4 rfl) (cat_cons (on_ b4 rfl) (cat_cons (off_ b11 rfl) (cat_cons (off_ b12 rfl) rfl)))))))))) (Mem.pick [0, 1, 2, 3, 4, 5, 6, 7, 8, 9] rfl hm12416)⟩
       ·
        intro b a w hI hbi hn hc K hK
        obtain ⟨vs, v11103, h11105, v11107, h11109, v11403, h11405, v11407, h11409, g11903, g12001, ha, y0, y1, y2, y3, y4, y5, y6, y7, y8, y9, y10, y13, H11104, H11108, H11404, H11408, hm⟩ := hI
        subst ha
        have b5 : b 5 = true := hn 5 (da rfl)
        have b4 : b 4 = true := hc 5 _ rfl b5 4 (da rfl)
        have b1 : b 1 = true := hc 4 _ rfl b4 1 (da rfl)
        have b3 : b 3 = true := hc 4 _ rfl b4 3 (da rfl)
        have b0 : b 0 = true := hc 1 _ rfl b1 0 (da rfl)
        have b2 : b 2 = true := hc 3 _ rfl b3 2 (da rfl)
        have b11 : b 11 = false := later (j := 11) hc rfl (i := 6) (da rfl) hbi
        have b12 : b 12 = false := later (j := 12) hc rfl (i := 6) (da rfl) hbi
        have b13 : b 13 = false := later (j := 13) hc rfl (i := 6) (da rfl) hbi
        have H11104 := H11104 b1
        have H11108 := H11108 b1
        have H11404 := H11404 b4
        have H11408 := H11408 b4
        have hm12419 : Mem w0 w (cat [sg g6484 46 (0, 0) [] [(.int .i64 a1.Kind), (.int .i64 a1.Owner), (.int .i64 a1.To), (.int .i64 a1.Buffer)] [], sg g6480 45 (0, 0) [] [v0x0, v0x1] [], hF, hz11000, h11105, h11109, h11405, h11409, (bif b 9 then sg g11903 28 (0, 0) [] [(.slice none 0 0), (.slice none 0 0)] [] else []), (bif b 10 then sg g12001 35 (0, 0) [] [(.int .i64 0), (.int .i64 0)] [] else [])]) := Mem.pick [0, 1, 2, 3, 4, 5, 6, 7, 8, 9] rfl (Mem.cg (B := [sg g6484 46 (0, 0) [] [(.int .i64 a1.Kind), (.int .i64 a1.Owner), (.int .i64 a1.To), (.int .i64 a1.Buffer)] [], sg g6480 45 (0, 0) [] [v0x0, v0x1] [], hF, hz11000, h11105, h11109, h11405, h11409, (bif b 9 then sg g11903 28 (0, 0) [] [(.slice none 0 0), (.slice none 0 0)] [] else []), (bif b 10 then sg g12001 35 (0, 0) [] [(.int .i64 0), (.int .i64 0)] [] else [])]) (cat_cons rfl (cat_cons rfl (cat_cons rfl (cat_cons rfl (cat_cons (on_ b1 rfl) (cat_cons (on_ b1 rfl) (cat_cons (on_ b4 rfl) (cat_cons (on_ b4 rfl) (cat_cons (off_ b11 rfl) (cat_cons (off_ b12 rfl) rfl)))))))))) hm)
        refine e_val (i := 6) hbi rfl rfl (v := (.agg #[v11403, v11407])) (won rfl) rfl rfl (x_extract rfl (ev (t := 96) (v := (.tuple #[(.agg #[v11403, v11407]), (.agg #[(.int .i64 r11401.2.1.Code), (.int .i64 r11401.2.1.Buffer)]), (.int .i64 r11401.2.2)])) rfl ((sel_on (p := (5, 96)) rfl b5).trans (y5 b5))) rfl) ?_
        exact hK _ _ ⟨_, v11103, h11105, v11107, h11109, v11403, h11405, v11407, h11409, g11903, g12001, rfl, y0, y1, y2, y3, y4, y5, fun _ => rfl, y7, y8, y9, y10, y13, fun _ => H11104, fun _ => H11108, fun _ => H11404, fun _ => H11408, Mem.gc (A := [sg g6484 46 (0, 0) [] [(.int .i64 a1.Kind), (.int .i64 a1.Owner), (.int .i64 a1.To), (.int .i64 a1.Buffer)] [], sg g6480 45 (0, 0) [] [v0x0, v0x1] [], hF, hz11000, h11105, h11109, h11405, h11409, (bif b 9 then sg g11903 28 (0, 0) [] [(.slice none 0 0), (.slice none 0 0)] [] else []), (bif b 10 then sg g12001 35 (0, 0) [] [(.int .i64 0), (.int .i64 0)] [] else [])]) (cat_cons rfl (cat_cons rfl (cat_cons rfl (cat_cons rfl (cat_cons (on_ b1 rfl) (cat_cons (on_ b1 rfl) (cat_cons (on_ b4 rfl) (cat_cons (on_ b4 rfl) (cat_cons (off_ b11 rfl) (cat_cons (off_ b12 rfl) rfl)))))))))) (Mem.pick [0, 1, 2, 3, 4, 5, 6, 7, 8, 9] rfl hm12419)⟩
       ·
        intro b a w hI hbi hn hc K hK
        obtain ⟨vs, v11103, h11105, v11107, h11109, v11403, h11405, v11407, h11409, g11903, g12001, ha, y0, y1, y2, y3, y4, y5, y6, y7, y8, y9, y10, y13, H11104, H11108, H11404, H11408, hm⟩ := hI
        subst ha
        have b5 : b 5 = true := hn 5 (da rfl)
        have b4 : b 4 = true := hc 5 _ rfl b5 4 (da rfl)
        have b1 : b 1 = true := hc 4 _ rfl b4 1 (da rfl)
        have b3 : b 3 = true := hc 4 _ rfl b4 3 (da rfl)
        have b0 : b 0 = true := hc 1 _ rfl b1 0 (da rfl)
        have b2 : b 2 = true := hc 3 _ rfl b3 2 (da rfl)
        have b12 : b 12 = false := later (j := 12) hc rfl (i := 7) (da rfl) hbi
        have b13 : b 13 = false := later (j := 13) hc rfl (i := 7) (da rfl) hbi
        have H11104 := H11104 b1
        have H11108 := H11108 b1
        have H11404 := H11404 b4
        have H11408 := H11408 b4
        have hm12422 : Mem w0 w (cat [sg g6484 46 (0, 0) [] [(.int .i64 a1.Kind), (.int .i64 a1.Owner), (.int .i64 a1.To), (.int .i64 a1.Buffer)] [], sg g6480 45 (0, 0) [] [v0x0, v0x1] [], hF, hz11000, h11105, h11109, h11405, h11409, (bif b 11 then sg g11903 28 (0, 0) [] [v11403, v11407] [] else (bif b 9 then sg g11903 28 (0, 0) [] [(.slice none 0 0), (.slice none 0 0)] [] else [])), (bif b 10 then sg g12001 35 (0, 0) [] [(.int .i64 0), (.int .i64 0)] [] else [])]) := Mem.pick [0, 1, 2, 3, 4, 5, 6, 7, 8, 9] rfl (Mem.cg (B := [sg g6484 46 (0, 0) [] [(.int .i64 a1.Kind), (.int .i64 a1.Owner), (.int .i64 a1.To), (.int .i64 a1.Buffer)] [], sg g6480 45 (0, 0) [] [v0x0, v0x1] [], hF, hz11000, h11105, h11109, h11405, h11409, (bif b 11 then sg g11903 28 (0, 0) [] [v11403, v11407] [] else (bif b 9 then sg g11903 28 (0, 0) [] [(.slice none 0 0), (.slice none 0 0)] [] else [])), (bif b 10 then sg g12001 35 (0, 0) [] [(.int .i64 0), (.int .i64 0)] [] else [])]) (cat_cons rfl (cat_cons rfl (cat_cons rfl (cat_cons rfl (cat_cons (on_ b1 rfl) (cat_cons (on_ b1 rfl) (cat_cons (on_ b4 rfl) (cat_cons (on_ b4 rfl) (cat_cons rfl (cat_cons (off_ b12 rfl) rfl)))))))))) hm)
        refine e_val (i := 7) hbi rfl rfl (v := (.agg #[(.int .i64 r11401.2.1.Code), (.int .i64 r11401.2.1.Buffer)])) (won rfl) rfl rfl (x_extract rfl (ev (t := 96) (v := (.tuple #[(.agg #[v11403, v11407]), (.agg #[(.int .i64 r11401.2.1.Code), (.int .i64 r11401.2.1.Buffer)]), (.int .i64 r11401.2.2)])) rfl ((sel_on (p := (5, 96)) rfl b5).trans (y5 b5))) rfl) ?_
        exact hK _ _ ⟨_, v11103, h11105, v11107, h11109, v11403, h11405, v11407, h11409, g11903, g12001, rfl, y0, y1, y2, y3, y4, y5, y6, fun _ => rfl, y8, y9, y10, y13, fun _ => H11104, fun _ => H11108, fun _ => H11404, fun _ => H11408, Mem.gc (A := [sg g6484 46 (0, 0) [] [(.int .i64 a1.Kind), (.int .i64 a1.Owner), (.int .i64 a1.To), (.int .i64 a1.Buffer)] [], sg g6480 45 (0, 0) [] [v0x0, v0x1] [], hF, hz11000, h11105, h11109, h11405, h11409, (bif b 11 then sg g11903 28 (0, 0) [] [v11403, v11407] [] else (bif b 9 then sg g11903 28 (0, 0) [] [(.slice none 0 0), (.slice none 0 0)] [] else [])), (bif b 10 then sg g12001 35 (0, 0) [] [(.int .i64 0), (.int .i64 0)] [] else [])]) (cat_cons rfl (cat_cons rfl (cat_cons rfl (cat_cons rfl (cat_cons (on_ b1 rfl) (cat_cons (on_ b1 rfl) (cat_cons (on_ b4 rfl) (cat_cons (on_ b4 rfl) (cat_cons rfl (cat_cons (off_ b12 rfl) rfl)))))))))) (Mem.pick [0, 1, 2, 3, 4, 5, 6, 7, 8, 9] rfl hm12422)⟩
       ·
        intro b a w hI hbi hn hc K hK
        obtain ⟨vs, v11103, h11105, v11107, h11109, v11403, h11405, v11407, h11409, g11903, g12001, ha, y0, y1, y2, y3, y4, y5, y6, y7, y8, y9, y10, y13, H11104, H11108, H11404, H11408, hm⟩ := hI
        subst ha
        have b5 : b 5 = true := hn 5 (da rfl)
        have b4 : b 4 = true := hc 5 _ rfl b5 4 (da rfl)
        have b1 : b 1 = true := hc 4 _ rfl b4 1 (da rfl)
        have b3 : b 3 = true := hc 4 _ rfl b4 3 (da rfl)
        have b0 : b 0 = true := hc 1 _ rfl b1 0 (da rfl)
        have b2 : b 2 = true := hc 3 _ rfl b3 2 (da rfl)
        have b13 : b 13 = false := later (j := 13) hc rfl (i := 8) (da rfl) hbi
        have H11104 := H11104 b1
        have H11108 := H11108 b1
        have H11404 := H11404 b4
        have H11408 := H11408 b4
        have hm12425 : Mem w0 w (cat [sg g6484 46 (0, 0) [] [(.int .i64 a1.Kind), (.int .i64 a1.Owner), (.int .i64 a1.To), (.int .i64 a1.Buffer)] [], sg g6480 45 (0, 0) [] [v0x0, v0x1] [], hF, hz11000, h11105, h11109, h11405, h11409, (bif b 11 then sg g11903 28 (0, 0) [] [v11403, v11407] [] else (bif b 9 then sg g11903 28 (0, 0) [] [(.slice none 0 0), (.slice none 0 0)] [] else [])), (bif b 12 then sg g12001 35 (0, 0) [] [(.int .i64 r11401.2.1.Code), (.int .i64 r11401.2.1.Buffer)] [] else (bif b 10 then sg g12001 35 (0, 0) [] [(.int .i64 0), (.int .i64 0)] [] else []))]) := Mem.pick [0, 1, 2, 3, 4, 5, 6, 7, 8, 9] rfl (Mem.cg (B := [sg g6484 46 (0, 0) [] [(.int .i64 a1.Kind), (.int .i64 a1.Owner), (.int .i64 a1.To), (.int .i64 a1.Buffer)] [], sg g6480 45 (0, 0) [] [v0x0, v0x1] [], hF, hz11000, h11105, h11109, h11405, h11409, (bif b 11 then sg g11903 28 (0, 0) [] [v11403, v11407] [] else (bif b 9 then sg g11903 28 (0, 0) [] [(.slice none 0 0), (.slice none 0 0)] [] else [])), (bif b 12 then sg g12001 35 (0, 0) [] [(.int .i64 r11401.2.1.Code), (.int .i64 r11401.2.1.Buffer)] [] else (bif b 10 then sg g12001 35 (0, 0) [] [(.int .i64 0), (.int .i64 0)] [] else []))]) (cat_cons rfl (cat_cons rfl (cat_cons rfl (cat_cons rfl (cat_cons (on_ b1 rfl) (cat_cons (on_ b1 rfl) (cat_cons (on_ b4 rfl) (cat_cons (on_ b4 rfl) (cat_cons rfl (cat_cons rfl rfl)))))))))) hm)
        refine e_val (i := 8) hbi rfl rfl (v := (.int .i64 r11401.2.2)) (won rfl) rfl rfl (x_extract rfl (ev (t := 96) (v := (.tuple #[(.agg #[v11403, v11407]), (.agg #[(.int .i64 r11401.2.1.Code), (.int .i64 r11401.2.1.Buffer)]), (.int .i64 r11401.2.2)])) rfl ((sel_on (p := (5, 96)) rfl b5).trans (y5 b5))) rfl) ?_
        exact hK _ _ ⟨_, v11103, h11105, v11107, h11109, v11403, h11405, v11407, h11409, g11903, g12001, rfl, y0, y1, y2, y3, y4, y5, y6, y7, fun _ => rfl, y9, y10, y13, fun _ => H11104, fun _ => H11108, fun _ => H11404, fun _ => H11408, Mem.gc (A := [sg g6484 46 (0, 0) [] [(.int .i64 a1.Kind), (.int .i64 a1.Owner), (.int .i64 a1.To), (.int .i64 a1.Buffer)] [], sg g6480 45 (0, 0) [] [v0x0, v0x1] [], hF, hz11000, h11105, h11109, h11405, h11409, (bif b 11 then sg g11903 28 (0, 0) [] [v11403, v11407] [] else (bif b 9 then sg g11903 28 (0, 0) [] [(.slice none 0 0), (.slice none 0 0)] [] else [])), (bif b 12 then sg g12001 35 (0, 0) [] [(.int .i64 r11401.2.1.Code), (.int .i64 r11401.2.1.Buffer)] [] else (bif b 10 then sg g12001 35 (0, 0) [] [(.int .i64 0), (.int .i64 0)] [] else []))]) (cat_cons rfl (cat_cons rfl (cat_cons rfl (cat_cons rfl (cat_cons (on_ b1 rfl) (cat_cons (on_ b1 rfl) (cat_cons (on_ b4 rfl) (cat_cons (on_ b4 rfl) (cat_cons rfl (cat_cons rfl rfl)))))))))) (Mem.pick [0, 1, 2, 3, 4, 5, 6, 7, 8, 9] rfl hm12425)⟩
       ·
        intro b a w hI hbi hn hc K hK
        obtain ⟨vs, v11103, h11105, v11107, h11109, v11403, h11405, v11407, h11409, g11903, g12001, ha, y0, y1, y2, y3, y4, y5, y6, y7, y8, y9, y10, y13, H11104, H11108, H11404, H11408, hm⟩ := hI
        subst ha
        have b11 : b 11 = false := later (j := 11) hc rfl (i := 9) (da rfl) hbi
        have b12 : b 12 = false := later (j := 12) hc rfl (i := 9) (da rfl) hbi
        have b13 : b 13 = false := later (j := 13) hc rfl (i := 9) (da rfl) hbi
        have hm12428 : Mem w0 w (cat [sg g6484 46 (0, 0) [] [(.int .i64 a1.Kind), (.int .i64 a1.Owner), (.int .i64 a1.To), (.int .i64 a1.Buffer)] [], sg g6480 45 (0, 0) [] [v0x0, v0x1] [], hF, hz11000, (bif b 1 then h11105 else []), (bif b 1 then h11109 else []), (bif b 4 then h11405 else []), (bif b 4 then h11409 else []), (bif b 10 then sg g12001 35 (0, 0) [] [(.int .i64 0), (.int .i64 0)] [] else [])]) := Mem.pick [0, 1, 2, 3, 4, 5, 6, 7, 9] rfl (Mem.cg (B := [sg g6484 46 (0, 0) [] [(.int .i64 a1.Kind), (.int .i64 a1.Owner), (.int .i64 a1.To), (.int .i64 a1.Buffer)] [], sg g6480 45 (0, 0) [] [v0x0, v0x1] [], hF, hz11000, (bif b 1 then h11105 else []), (bif b 1 then h11109 else []), (bif b 4 then h11405 else []), (bif b 4 then h11409 else []), [], (bif b 10 then sg g12001 35 (0, 0) [] [(.int .i64 0), (.int .i64 0)] [] else [])]) (cat_cons rfl (cat_cons rfl (cat_cons rfl (cat_cons rfl (cat_cons rfl (cat_cons rfl (cat_cons rfl (cat_cons rfl (cat_cons (off_ b11 (off_ hbi rfl)) (cat_cons (off_ b12 rfl) rfl)))))))))) hm)
        refine e_exv (i := 9) hbi rfl rfl (won rfl) rfl rfl (e_alloc (vs := [(.slice none 0 0), (.slice none 0 0)]) rfl zt_28 rfl hm12428) ?_
        rintro g11903 w11904 hm11905
        exact hK _ _ ⟨_, v11103, h11105, v11107, h11109, v11403, h11405, v11407, h11409, g11903, g12001, rfl, y0, y1, y2, y3, y4, y5, y6, y7, y8, fun _ => rfl, y10, y13, H11104, H11108, H11404, H11408, Mem.gc (A := [sg g6484 46 (0, 0) [] [(.int .i64 a1.Kind), (.int .i64 a1.Owner), (.int .i64 a1.To), (.int .i64 a1.Buffer)] [], sg g6480 45 (0, 0) [] [v0x0, v0x1] [], hF, hz11000, (bif b 1 then h11105 else []), (bif b 1 then h11109 else []), (bif b 4 then h11405 else []), (bif b 4 then h11409 else []), sg g11903 28 (0, 0) [] [(.slice none 0 0), (.slice none 0 0)] [], (bif b 10 then sg g12001 35 (0, 0) [] [(.int .i64 0), (.int .i64 0)] [] else [])]) (cat_cons rfl (cat_cons rfl (cat_cons rfl (cat_cons rfl (cat_cons rfl (cat_cons rfl (cat_cons rfl (cat_cons rfl (cat_cons (off_ b11 (on_ rfl rfl)) (cat_cons (off_ b12 rfl) rfl)))))))))) (Mem.pick [1, 2, 3, 4, 5, 6, 7, 8, 0, 9] rfl hm11905)⟩
       ·
        intro b a w hI hbi hn hc K hK
        obtain ⟨vs, v11103, h11105, v11107, h11109, v11403, h11405, v11407, h11409, g11903, g12001, ha, y0, y1, y2, y3, y4, y5, y6, y7, y8, y9, y10, y13, H11104, H11108, H11404, H11408, hm⟩ := hI
        subst ha
        have b11 : b 11 = false := later (j := 11) hc rfl (i := 10) (da rfl) hbi
        have b12 : b 12 = false := later (j := 12) hc rfl (i := 10) (da rfl) hbi
        have b13 : b 13 = false := later (j := 13) hc rfl (i := 10) (da rfl) hbi
        have hm12431 : Mem w0 w (cat [sg g6484 46 (0, 0) [] [(.int .i64 a1.Kind), (.int .i64 a1.Owner), (.int .i64 a1.To), (.int .i64 a1.Buffer)] [], sg g6480 45 (0, 0) [] [v0x0, v0x1] [], hF, hz11000, (bif b 1 then h11105 else []), (bif b 1 then h11109 else []), (bif b 4 then h11405 else []), (bif b 4 then h11409 else []), (bif b 9 then sg g11903 28 (0, 0) [] [(.slice none 0 0), (.slice none 0 0)] [] else [])]) := Mem.pick [0, 1, 2, 3, 4, 5, 6, 7, 8] rfl (Mem.cg (B := [sg g6484 46 (0, 0) [] [(.int .i64 a1.Kind), (.int .i64 a1.Owner), (.int .i64 a1.To), (.int .i64 a1.Buffer)] [], sg g6480 45 (0, 0) [] [v0x0, v0x1] [], hF, hz11000, (bif b 1 then h11105 else []), (bif b 1 then h11109 else []), (bif b 4 then h11405 else []), (bif b 4 then h11409 else []), (bif b 9 then sg g11903 28 (0, 0) [] [(.slice none 0 0), (.slice none 0 0)] [] else []), []]) (cat_cons rfl (cat_cons rfl (cat_cons rfl (cat_cons rfl (cat_cons rfl (cat_cons rfl (cat_cons rfl (cat_cons rfl (cat_cons (off_ b11 rfl) (cat_cons (off_ b12 (off_ hbi rfl)) rfl)))))))))) hm)
        refine e_exv (i := 10) hbi rfl rfl (won rfl) rfl rfl (e_alloc (vs := [(.int .i64 0), (.int .i64 0)]) rfl zt_35 rfl hm12431) ?_
        rintro g12001 w12002 hm12003
        exact hK _ _ ⟨_, v11103, h11105, v11107, h11109, v11403, h11405, v11407, h11409, g11903, g12001, rfl, y0, y1, y2, y3, y4, y5, y6, y7, y8, y9, fun _ => rfl, y13, H11104, H11108, H11404, H11408, Mem.gc (A := [sg g6484 46 (0, 0) [] [(.int .i64 a1.Kind), (.int .i64 a1.Owner), (.int .i64 a1.To), (.int .i64 a1.Buffer)] [], sg g6480 45 (0, 0) [] [v0x0, v0x1] [], hF, hz11000, (bif b 1 then h11105 else []), (bif b 1 then h11109 else []), (bif b 4 then h11405 else []), (bif b 4 then h11409 else []), (bif b 9 then sg g11903 28 (0, 0) [] [(.slice none 0 0), (.slice none 0 0)] [] else []), sg g12001 35 (0, 0) [] [(.int .i64 0), (.int .i64 0)] []]) (cat_cons rfl (cat_cons rfl (cat_cons rfl (cat_cons rfl (cat_cons rfl (cat_cons rfl (cat_cons rfl (cat_cons rfl (cat_cons (off_ b11 rfl) (cat_cons (off_ b12 (on_ rfl rfl)) rfl)))))))))) (Mem.pick [1, 2, 3, 4, 5, 6, 7, 8, 9, 0] rfl hm12003)⟩
       ·
        intro b a w hI hbi hn hc K hK
        obtain ⟨vs, v11103, h11105, v11107, h11109, v11403, h11405, v11407, h11409, g11903, g12001, ha, y0, y1, y2, y3, y4, y5, y6, y7, y8, y9, y10, y13, H11104, H11108, H11404, H11408, hm⟩ := hI
        subst ha
        have b0 : b 0 = true := hn 0 (da rfl)
        have b1 : b 1 = true := hn 1 (da rfl)
        have b2 : b 2 = true := hn 2 (da rfl)
        have b3 : b 3 = true := hn 3 (da rfl)
        have b4 : b 4 = true := hn 4 (da rfl)
        have b5 : b 5 = true := hn 5 (da rfl)
        have b6 : b 6 = true := hn 6 (da rfl)
        have b9 : b 9 = true := hn 9 (da rfl)
        have b10 : b 10 = true := hn 10 (da rfl)
        have b12 : b 12 = false := later (j := 12) hc rfl (i := 11) (da rfl) hbi
        have b13 : b 13 = false := later (j := 13) hc rfl (i := 11) (da rfl) hbi
        have H11104 := H11104 b1
        have H11108 := H11108 b1
        have H11404 := H11404 b4
        have H11408 := H11408 b4
        have hm12434 : Mem w0 w (cat [sg g6484 46 (0, 0) [] [(.int .i64 a1.Kind), (.int .i64 a1.Owner), (.int .i64 a1.To), (.int .i64 a1.Buffer)] [], sg g6480 45 (0, 0) [] [v0x0, v0x1] [], hF, hz11000, h11105, h11109, h11405, h11409, sg g11903 28 (0, 0) [] [(.slice none 0 0), (.slice none 0 0)] [], sg g12001 35 (0, 0) [] [(.int .i64 0), (.int .i64 0)] []]) := Mem.pick [0, 1, 2, 3, 4, 5, 6, 7, 8, 9] rfl (Mem.cg (B := [sg g6484 46 (0, 0) [] [(.int .i64 a1.Kind), (.int .i64 a1.Owner), (.int .i64 a1.To), (.int .i64 a1.Buffer)] [], sg g6480 45 (0, 0) [] [v0x0, v0x1] [], hF, hz11000, h11105, h11109, h11405, h11409, sg g11903 28 (0, 0) [] [(.slice none 0 0), (.slice none 0 0)] [], sg g12001 35 (0, 0) [] [(.int .i64 0), (.int .i64 0)] []]) (cat_cons rfl (cat_cons rfl (cat_cons rfl (cat_cons rfl (cat_cons (on_ b1 rfl) (cat_cons (on_ b1 rfl) (cat_cons (on_ b4 rfl) (cat_cons (on_ b4 rfl) (cat_cons (off_ hbi (on_ b9 rfl)) (cat_cons (off_ b12 (on_ b10 rfl)) rfl)))))))))) hm)
        refine e_exs (i := 11) hbi rfl (won rfl) rfl (e_store (vs := [v11403, v11407]) (o' := 0) (j := 0) rfl sz_28 (ev (t := 16) (v := (.pointer (some ⟨g11903, 0, none⟩))) rfl ((sel_on (p := (9, 16)) rfl b9).trans (y9 b9))) (ev (t := 102) (v := (.agg #[v11403, v11407])) rfl ((sel_on (p := (6, 102)) rfl b6).trans (y6 b6))) rfl (one_cons (IsSl.one (H11404).sl) (one_cons (IsSl.one (H11408).sl) one_nil)) hm12434 (k := 8) rfl rfl rfl) ?_
        intro w12101 hm12102
        replace hm12102 : Mem w0 w12101 (cat [sg g6484 46 (0, 0) [] [(.int .i64 a1.Kind), (.int .i64 a1.Owner), (.int .i64 a1.To), (.int .i64 a1.Buffer)] [], sg g6480 45 (0, 0) [] [v0x0, v0x1] [], hF, hz11000, h11105, h11109, h11405, h11409, sg g11903 28 (0, 0) [] [v11403, v11407] [], sg g12001 35 (0, 0) [] [(.int .i64 0), (.int .i64 0)] []]) := hm12102
        exact hK _ _ ⟨_, v11103, h11105, v11107, h11109, v11403, h11405, v11407, h11409, g11903, g12001, rfl, y0, y1, y2, y3, y4, y5, y6, y7, y8, y9, y10, y13, fun _ => H11104, fun _ => H11108, fun _ => H11404, fun _ => H11408, Mem.gc (A := [sg g6484 46 (0, 0) [] [(.int .i64 a1.Kind), (.int .i64 a1.Owner), (.int .i64 a1.To), (.int .i64 a1.Buffer)] [], sg g6480 45 (0, 0) [] [v0x0, v0x1] [], hF, hz11000, h11105, h11109, h11405, h11409, sg g11903 28 (0, 0) [] [v11403, v11407] [], sg g12001 35 (0, 0) [] [(.int .i64 0), (.int .i64 0)] []]) (cat_cons rfl (cat_cons rfl (cat_cons rfl (cat_cons rfl (cat_cons (on_ b1 rfl) (cat_cons (on_ b1 rfl) (cat_cons (on_ b4 rfl) (cat_cons (on_ b4 rfl) (cat_cons (on_ rfl rfl) (cat_cons (off_ b12 (on_ b10 rfl)) rfl)))))))))) (Mem.pick [0, 1, 2, 3, 4, 5, 6, 7, 8, 9] rfl hm12102)⟩
       ·
        intro b a w hI hbi hn hc K hK
        obtain ⟨vs, v11103, h11105, v11107, h11109, v11403, h11405, v11407, h11409, g11903, g12001, ha, y0, y1, y2, y3, y4, y5, y6, y7, y8, y9, y10, y13, H11104, H11108, H11404, H11408, hm⟩ := hI
        subst ha
        have b0 : b 0 = true := hn 0 (da rfl)
        have b1 : b 1 = true := hn 1 (da rfl)
        have b2 : b 2 = true := hn 2 (da rfl)
        have b3 : b 3 = true := hn 3 (da rfl)
        have b4 : b 4 = true := hn 4 (da rfl)
        have b5 : b 5 = true := hn 5 (da rfl)
        have b6 : b 6 = true := hn 6 (da rfl)
        have b7 : b 7 = true := hn 7 (da rfl)
        have b9 : b 9 = true := hn 9 (da rfl)
        have b10 : b 10 = true := hn 10 (da rfl)
        have b11 : b 11 = true := hn 11 (da rfl)
        have b13 : b 13 = false := later (j := 13) hc rfl (i := 12) (da rfl) hbi
        have H11104 := H11104 b1
        have H11108 := H11108 b1
        have H11404 := H11404 b4
        have H11408 := H11408 b4
        have hm12437 : Mem w0 w (cat [sg g6484 46 (0, 0) [] [(.int .i64 a1.Kind), (.int .i64 a1.Owner), (.int .i64 a1.To), (.int .i64 a1.Buffer)] [], sg g6480 45 (0, 0) [] [v0x0, v0x1] [], hF, hz11000, h11105, h11109, h11405, h11409, sg g11903 28 (0, 0) [] [v11403, v11407] [], sg g12001 35 (0, 0) [] [(.int .i64 0), (.int .i64 0)] []]) := Mem.pick [0, 1, 2, 3, 4, 5, 6, 7, 8, 9] rfl (Mem.cg (B := [sg g6484 46 (0, 0) [] [(.int .i64 a1.Kind), (.int .i64 a1.Owner), (.int .i64 a1.To), (.int .i64 a1.Buffer)] [], sg g6480 45 (0, 0) [] [v0x0, v0x1] [], hF, hz11000, h11105, h11109, h11405, h11409, sg g11903 28 (0, 0) [] [v11403, v11407] [], sg g12001 35 (0, 0) [] [(.int .i64 0), (.int .i64 0)] []]) (cat_cons rfl (cat_cons rfl (cat_cons rfl (cat_cons rfl (cat_cons (on_ b1 rfl) (cat_cons (on_ b1 rfl) (cat_cons (on_ b4 rfl) (cat_cons (on_ b4 rfl) (cat_cons (on_ b11 rfl) (cat_cons (off_ hbi (on_ b10 rfl)) rfl)))))))))) hm)
        refine e_exs (i := 12) hbi rfl (won rfl) rfl (e_store (vs := [(.int .i64 r11401.2.1.Code), (.int .i64 r11401.2.1.Buffer)]) (o' := 0) (j := 0) rfl sz_35 (ev (t := 17) (v := (.pointer (some ⟨g12001, 0, none⟩))) rfl ((sel_on (p := (10, 17)) rfl b10).trans (y10 b10))) (ev (t := 103) (v := (.agg #[(.int .i64 r11401.2.1.Code), (.int .i64 r11401.2.1.Buffer)])) rfl ((sel_on (p := (7, 103)) rfl b7).trans (y7 b7))) rfl rfl hm12437 (k := 9) rfl rfl rfl) ?_
        intro w12201 hm12202
        replace hm12202 : Mem w0 w12201 (cat [sg g6484 46 (0, 0) [] [(.int .i64 a1.Kind), (.int .i64 a1.Owner), (.int .i64 a1.To), (.int .i64 a1.Buffer)] [], sg g6480 45 (0, 0) [] [v0x0, v0x1] [], hF, hz11000, h11105, h11109, h11405, h11409, sg g11903 28 (0, 0) [] [v11403, v11407] [], sg g12001 35 (0, 0) [] [(.int .i64 r11401.2.1.Code), (.int .i64 r11401.2.1.Buffer)] []]) := hm12202
        exact hK _ _ ⟨_, v11103, h11105, v11107, h11109, v11403, h11405, v11407, h11409, g11903, g12001, rfl, y0, y1, y2, y3, y4, y5, y6, y7, y8, y9, y10, y13, fun _ => H11104, fun _ => H11108, fun _ => H11404, fun _ => H11408, Mem.gc (A := [sg g6484 46 (0, 0) [] [(.int .i64 a1.Kind), (.int .i64 a1.Owner), (.int .i64 a1.To), (.int .i64 a1.Buffer)] [], sg g6480 45 (0, 0) [] [v0x0, v0x1] [], hF, hz11000, h11105, h11109, h11405, h11409, sg g11903 28 (0, 0) [] [v11403, v11407] [], sg g12001 35 (0, 0) [] [(.int .i64 r11401.2.1.Code), (.int .i64 r11401.2.1.Buffer)] []]) (cat_cons rfl (cat_cons rfl (cat_cons rfl (cat_cons rfl (cat_cons (on_ b1 rfl) (cat_cons (on_ b1 rfl) (cat_cons (on_ b4 rfl) (cat_cons (on_ b4 rfl) (cat_cons (on_ b11 rfl) (cat_cons (on_ rfl rfl) rfl)))))))))) (Mem.pick [0, 1, 2, 3, 4, 5, 6, 7, 8, 9] rfl hm12202)⟩
       ·
        intro b a w hI hbi hn hc K hK
        obtain ⟨vs, v11103, h11105, v11107, h11109, v11403, h11405, v11407, h11409, g11903, g12001, ha, y0, y1, y2, y3, y4, y5, y6, y7, y8, y9, y10, y13, H11104, H11108, H11404, H11408, hm⟩ := hI
        subst ha
        have b0 : b 0 = true := hn 0 (da rfl)
        have b1 : b 1 = true := hn 1 (da rfl)
        have b2 : b 2 = true := hn 2 (da rfl)
        have b3 : b 3 = true := hn 3 (da rfl)
        have b4 : b 4 = true := hn 4 (da rfl)
        have b5 : b 5 = true := hn 5 (da rfl)
        have b6 : b 6 = true := hn 6 (da rfl)
        have b7 : b 7 = true := hn 7 (da rfl)
        have b8 : b 8 = true := hn 8 (da rfl)
        have b9 : b 9 = true := hn 9 (da rfl)
        have b10 : b 10 = true := hn 10 (da rfl)
        have b11 : b 11 = true := hn 11 (da rfl)
        have b12 : b 12 = true := hn 12 (da rfl)
        have H11104 := H11104 b1
        have H11108 := H11108 b1
        have H11404 := H11404 b4
        have H11408 := H11408 b4
        have hm12440 : Mem w0 w (cat [sg g6484 46 (0, 0) [] [(.int .i64 a1.Kind), (.int .i64 a1.Owner), (.int .i64 a1.To), (.int .i64 a1.Buffer)] [], sg g6480 45 (0, 0) [] [v0x0, v0x1] [], hF, hz11000, h11105, h11109, h11405, h11409, sg g11903 28 (0, 0) [] [v11403, v11407] [], sg g12001 35 (0, 0) [] [(.int .i64 r11401.2.1.Code), (.int .i64 r11401.2.1.Buffer)] []]) := Mem.pick [0, 1, 2, 3, 4, 5, 6, 7, 8, 9] rfl (Mem.cg (B := [sg g6484 46 (0, 0) [] [(.int .i64 a1.Kind), (.int .i64 a1.Owner), (.int .i64 a1.To), (.int .i64 a1.Buffer)] [], sg g6480 45 (0, 0) [] [v0x0, v0x1] [], hF, hz11000, h11105, h11109, h11405, h11409, sg g11903 28 (0, 0) [] [v11403, v11407] [], sg g12001 35 (0, 0) [] [(.int .i64 r11401.2.1.Code), (.int .i64 r11401.2.1.Buffer)] []]) (cat_cons rfl (cat_cons rfl (cat_cons rfl (cat_cons rfl (cat_cons (on_ b1 rfl) (cat_cons (on_ b1 rfl) (cat_cons (on_ b4 rfl) (cat_cons (on_ b4 rfl) (cat_cons (on_ b11 rfl) (cat_cons (on_ b12 rfl) rfl)))))))))) hm)
        refine e_val (i := 13) hbi rfl rfl (v := (.int .i64 r11401.2.2)) (won rfl) rfl rfl (x_assign rfl (ev (t := 104) (v := (.int .i64 r11401.2.2)) rfl ((sel_on (p := (8, 104)) rfl b8).trans (y8 b8)))) ?_
        exact hK _ _ ⟨_, v11103, h11105, v11107, h11109, v11403, h11405, v11407, h11409, g11903, g12001, rfl, y0, y1, y2, y3, y4, y5, y6, y7, y8, y9, y10, fun _ => rfl, fun _ => H11104, fun _ => H11108, fun _ => H11404, fun _ => H11408, Mem.gc (A := [sg g6484 46 (0, 0) [] [(.int .i64 a1.Kind), (.int .i64 a1.Owner), (.int .i64 a1.To), (.int .i64 a1.Buffer)] [], sg g6480 45 (0, 0) [] [v0x0, v0x1] [], hF, hz11000, h11105, h11109, h11405, h11409, sg g11903 28 (0, 0) [] [v11403, v11407] [], sg g12001 35 (0, 0) [] [(.int .i64 r11401.2.1.Code), (.int .i64 r11401.2.1.Buffer)] []]) (cat_cons rfl (cat_cons rfl (cat_cons rfl (cat_cons rfl (cat_cons (on_ b1 rfl) (cat_cons (on_ b1 rfl) (cat_cons (on_ b4 rfl) (cat_cons (on_ b4 rfl) (cat_cons (on_ b11 rfl) (cat_cons (on_ b12 rfl) rfl)))))))))) (Mem.pick [0, 1, 2, 3, 4, 5, 6, 7, 8, 9] rfl hm12440)⟩
       intro b a w hall hI
       obtain ⟨vs, v11103, h11105, v11107, h11109, v11403, h11405, v11407, h11409, g11903, g12001, ha, y0, y1, y2, y3, y4, y5, y6, y7, y8, y9, y10, y13, H11104, H11108, H11404, H11408, hm⟩ := hI
       have b0 : b 0 = true := hall 0 rfl
       have b1 : b 1 = true := hall 1 rfl
       have b2 : b 2 = true := hall 2 rfl
       have b3 : b 3 = true := hall 3 rfl
       have b4 : b 4 = true := hall 4 rfl
       have b5 : b 5 = true := hall 5 rfl
       have b6 : b 6 = true := hall 6 rfl
       have b7 : b 7 = true := hall 7 rfl
       have b8 : b 8 = true := hall 8 rfl
       have b9 : b 9 = true := hall 9 rfl
       have b10 : b 10 = true := hall 10 rfl
       have b11 : b 11 = true := hall 11 rfl
       have b12 : b 12 = true := hall 12 rfl
       have b13 : b 13 = true := hall 13 rfl
       replace H11104 := H11104 b1
       replace H11108 := H11108 b1
       replace H11404 := H11404 b4
       replace H11408 := H11408 b4
       have hm12443 : Mem w0 w (cat [sg g6484 46 (0, 0) [] [(.int .i64 a1.Kind), (.int .i64 a1.Owner), (.int .i64 a1.To), (.int .i64 a1.Buffer)] [], sg g6480 45 (0, 0) [] [v0x0, v0x1] [], hF, h11105, h11109, h11405, h11409, sg g11903 28 (0, 0) [] [v11403, v11407] [], sg g12001 35 (0, 0) [] [(.int .i64 r11401.2.1.Code), (.int .i64 r11401.2.1.Buffer)] [], hz11000]) := Mem.pick [0, 1, 2, 4, 5, 6, 7, 8, 9, 3] rfl (Mem.cg (B := [sg g6484 46 (0, 0) [] [(.int .i64 a1.Kind), (.int .i64 a1.Owner), (.int .i64 a1.To), (.int .i64 a1.Buffer)] [], sg g6480 45 (0, 0) [] [v0x0, v0x1] [], hF, hz11000, h11105, h11109, h11405, h11409, sg g11903 28 (0, 0) [] [v11403, v11407] [], sg g12001 35 (0, 0) [] [(.int .i64 r11401.2.1.Code), (.int .i64 r11401.2.1.Buffer)] []]) (cat_cons rfl (cat_cons rfl (cat_cons rfl (cat_cons rfl (cat_cons (on_ b1 rfl) (cat_cons (on_ b1 rfl) (cat_cons (on_ b4 rfl) (cat_cons (on_ b4 rfl) (cat_cons (on_ b11 rfl) (cat_cons (on_ b12 rfl) rfl)))))))))) hm)
       obtain ⟨f11000, ha', z11000x6, z11000x7, z11000x8, z11000x10, z11000x14, z11000x16, z11000x17, z11000x18⟩ : ∃ f' : Nat → Value, a = fr 128 f' ∧ f' 6 = (.pointer (some ⟨g7903, 0, none⟩)) ∧ f' 7 = (.pointer (some ⟨g8001, 0, none⟩)) ∧ f' 8 = (.int .i64 r7401.2.2) ∧ f' 10 = (.pointer (some ⟨g9803, 0, none⟩)) ∧ f' 14 = (.int .i64 r10428.1) ∧ f' 16 = (.pointer (some ⟨g11903, 0, none⟩)) ∧ f' 17 = (.pointer (some ⟨g12001, 0, none⟩)) ∧ f' 18 = (.int .i64 r11401.2.2) := ⟨_, ha, (sel_no rfl).trans z9000x6, (sel_no rfl).trans z9000x7, (sel_no rfl).trans z9000x8, (sel_no rfl).trans z9000x10, (sel_no rfl).trans rfl, (sel_on (p := (9, 16)) rfl b9).trans (y9 b9), (sel_on (p := (10, 17)) rfl b10).trans (y10 b10), (sel_on (p := (13, 18)) rfl b13).trans (y13 b13)⟩
       subst ha'
       subst hze11000
       replace hm12443 : Mem w0 w (cat [sg g6484 46 (0, 0) [] [(.int .i64 a1.Kind), (.int .i64 a1.Owner), (.int .i64 a1.To), (.int .i64 a1.Buffer)] [], sg g6480 45 (0, 0) [] [v0x0, v0x1] [], hF, h11105, h11109, h11405, h11409, sg g11903 28 (0, 0) [] [v11403, v11407] [], sg g12001 35 (0, 0) [] [(.int .i64 r11401.2.1.Code), (.int .i64 r11401.2.1.Buffer)] [], h10429, h10431, sg g9803 28 (0, 0) [] [v9303, v9307] [], h7405, h7409, sg g7903 28 (0, 0) [] [v7403, v7407] [], sg g8001 35 (0, 0) [] [(.int .i64 r7401.2.1.Code), (.int .i64 r7401.2.1.Buffer)] []]) := Mem.ung [sg g6484 46 (0, 0) [] [(.int .i64 a1.Kind), (.int .i64 a1.Owner), (.int .i64 a1.To), (.int .i64 a1.Buffer)] [], sg g6480 45 (0, 0) [] [v0x0, v0x1] [], hF, h11105, h11109, h11405, h11409, sg g11903 28 (0, 0) [] [v11403, v11407] [], sg g12001 35 (0, 0) [] [(.int .i64 r11401.2.1.Code), (.int .i64 r11401.2.1.Buffer)] []] [h10429, h10431, sg g9803 28 (0, 0) [] [v9303, v9307] [], h7405, h7409, sg g7903 28 (0, 0) [] [v7403, v7407] [], sg g8001 35 (0, 0) [] [(.int .i64 r7401.2.1.Code), (.int .i64 r7401.2.1.Buffer)] []] hm12443
       have hm12453 : Mem w0 w (cat [hF, h11405, h11409, sg g11903 28 (0, 0) [] [v11403, v11407] [], sg g12001 35 (0, 0) [] [(.int .i64 r11401.2.1.Code), (.int .i64 r11401.2.1.Buffer)] [], h10429, h10431, sg g9803 28 (0, 0) [] [v9303, v9307] [], h7405, h7409, sg g7903 28 (0, 0) [] [v7403, v7407] [], sg g8001 35 (0, 0) [] [(.int .i64 r7401.2.1.Code), (.int .i64 r7401.2.1.Buffer)] []]) := Mem.pick [2, 5, 6, 7, 8, 9, 10, 11, 12, 13, 14, 15] rfl hm12443
       refine nx ?_
       refine wp_seq ?_
       refine wp_seq ?_
       obtain ⟨r12463, hr12463, he⟩ := bindE he
       obtain ⟨r12466, hr12466, he⟩ := bindE he
       refine wp_region_lit ?_
       refine s_val (v := (.agg #[v11403, v11407])) (won rfl) rfl rfl (x_loadN (vs := [v11403, v11407]) rfl tyN_28 (ev (t := 16) (v := (.pointer (some ⟨g11903, 0, none⟩))) rfl z11000x16) (seg_cells (o' := 0) (j := 0) hm12453 (k := 3) rfl rfl rfl)) ?_
       refine s_val (v := (.agg #[v7403, v7407])) (won rfl) rfl rfl (x_loadN (vs := [v7403, v7407]) rfl tyN_28 (ev (t := 6) (v := (.pointer (some ⟨g7903, 0, none⟩))) rfl z11000x6) (seg_cells (o' := 0) (j := 0) hm12453 (k := 10) rfl rfl rfl)) ?_
       refine s_call (won rfl) rfl rfl (x_call rfl rfl cl_22 (map_lit (map_cons (ev (t := 105) rfl rfl) (map_cons (ev (t := 106) rfl rfl) map_nil)))) (laws_eqPool_ok F (hR := (cat [h11405, h11409, h7405, h7409])) (hF := cat [hF, h11405, h11409, sg g11903 28 (0, 0) [] [v11403, v11407] [], sg g12001 35 (0, 0) [] [(.int .i64 r11401.2.1.Code), (.int .i64 r11401.2.1.Buffer)] [], h10429, h10431, sg g9803 28 (0, 0) [] [v9303, v9307] [], h7405, h7409, sg g7903 28 (0, 0) [] [v7403, v7407] [], sg g8001 35 (0, 0) [] [(.int .i64 r7401.2.1.Code), (.int .i64 r7401.2.1.Buffer)] []]) r11401.1 r7401.1 ((H11404.rd w0).mono (Sub.at_ (k := 0) rfl)) ((H11408.rd w0).mono (Sub.at_ (k := 1) rfl)) ((H7404.rd w0).mono (Sub.at_ (k := 2) rfl)) ((H7408.rd w0).mono (Sub.at_ (k := 3) rfl)) (subc (Sub.at_ (k := 1) rfl) (subc (Sub.at_ (k := 2) rfl) (subc (Sub.at_ (k := 8) rfl) (subc (Sub.at_ (k := 9) rfl) subn)))) (Mem.one hm12453) hr12463) ?_
       rintro e w12464 ⟨rfl, hm12465⟩
       refine ⟨_, rfl, ?_⟩
       replace hm12465 : Mem w0 w12464 (cat [hF, h11405, h11409, sg g11903 28 (0, 0) [] [v11403, v11407] [], sg g12001 35 (0, 0) [] [(.int .i64 r11401.2.1.Code), (.int .i64 r11401.2.1.Buffer)] [], h10429, h10431, sg g9803 28 (0, 0) [] [v9303, v9307] [], h7405, h7409, sg g7903 28 (0, 0) [] [v7403, v7407] [], sg g8001 35 (0, 0) [] [(.int .i64 r7401.2.1.Code), (.int .i64 r7401.2.1.Buffer)] []]) := Mem.un hm12465
       refine s_val (v := (.bool (!r12463))) (won rfl) rfl rfl (x_not rfl (ev (t := 107) rfl rfl)) ?_
       refine s_val (v := (.bool (!r12463))) (won rfl) rfl rfl (x_move rfl (ev (t := 108) rfl rfl)) ?_
       refine s_cval (p := (!(!r12463))) (v := (.agg #[(.int .i64 r11401.2.1.Code), (.int .i64 r11401.2.1.Buffer)])) (won_f (j := 4) (t := 109) (q := (!r12463)) rfl rfl rfl rfl rfl) rfl rfl (fun hp => (x_loadN (vs := [(.int .i64 r11401.2.1.Code), (.int .i64 r11401.2.1.Buffer)]) rfl tyN_35 (ev (t := 17) (v := (.pointer (some ⟨g12001, 0, none⟩))) rfl z11000x17) (seg_cells (o' := 0) (j := 0) hm12465 (k := 4) rfl rfl rfl))) ?_
       refine s_cval (p := (!(!r12463))) (v := (.agg #[(.int .i64 r7401.2.1.Code), (.int .i64 r7401.2.1.Buffer)])) (won_f (j := 4) (t := 109) (q := (!r12463)) rfl rfl rfl rfl rfl) rfl rfl (fun hp => (x_loadN (vs := [(.int .i64 r7401.2.1.Code), (.int .i64 r7401.2.1.Buffer)]) rfl tyN_35 (ev (t := 7) (v := (.pointer (some ⟨g8001, 0, none⟩))) rfl z11000x7) (seg_cells (o' := 0) (j := 0) hm12465 (k := 11) rfl rfl rfl))) ?_
       refine s_ccall (p := (!(!r12463))) (v := (.bool r12466)) (J := fun w' => Mem w0 w' (cat [hF, h11405, h11409, sg g11903 28 (0, 0) [] [v11403, v11407] [], sg g12001 35 (0, 0) [] [(.int .i64 r11401.2.1.Code), (.int .i64 r11401.2.1.Buffer)] [], h10429, h10431, sg g9803 28 (0, 0) [] [v9303, v9307] [], h7405, h7409, sg g7903 28 (0, 0) [] [v7403, v7407] [], sg g8001 35 (0, 0) [] [(.int .i64 r7401.2.1.Code), (.int .i64 r7401.2.1.Buffer)] []])) (won_f (j := 4) (t := 109) (q := (!r12463)) rfl rfl rfl rfl rfl) rfl rfl (fun hp => (x_call rfl rfl cl_23 (map_lit (map_cons (ev (t := 110) rfl (Eq.trans (b := cv (!(!r12463)) (.agg #[(.int .i64 r11401.2.1.Code), (.int .i64 r11401.2.1.Buffer)])) rfl (on_c hp))) (map_cons (ev (t := 111) rfl (Eq.trans (b := cv (!(!r12463)) (.agg #[(.int .i64 r7401.2.1.Code), (.int .i64 r7401.2.1.Buffer)])) rfl (on_c hp))) map_nil))))) (fun hp => ((laws_eqPoolReply_ok (hR := (cat [])) (hF := cat [hF, h11405, h11409, sg g11903 28 (0, 0) [] [v11403, v11407] [], sg g12001 35 (0, 0) [] [(.int .i64 r11401.2.1.Code), (.int .i64 r11401.2.1.Buffer)] [], h10429, h10431, sg g9803 28 (0, 0) [] [v9303, v9307] [], h7405, h7409, sg g7903 28 (0, 0) [] [v7403, v7407] [], sg g8001 35 (0, 0) [] [(.int .i64 r7401.2.1.Code), (.int .i64 r7401.2.1.Buffer)] []]) r11401.2.1 r7401.2.1  (Mem.one hm12465) (bifT hr12466 hp))).mono fun e w2 h => ⟨h.1, Mem.un h.2⟩) hm12465 ?_
       intro w12467 hm12468
       refine s_cval (p := (!(!r12463))) (v := (.bool (!r12466))) (won_f (j := 4) (t := 109) (q := (!r12463)) rfl rfl rfl rfl rfl) rfl rfl (fun hp => (x_not rfl (ev (t := 112) rfl (Eq.trans (b := cv (!(!r12463)) (.bool r12466)) rfl (on_c hp))))) ?_
       refine s_val (v := (.bool ((!r12463) || (!r12466)))) (won rfl) rfl rfl (x_pick_or rfl (ev (t := 109) rfl rfl) rfl (fun hq => ev rfl (Eq.trans (b := cv (!(!r12463)) (.bool (!r12466))) rfl (on_c (not_i hq))))) ?_
       refine s_val (v := (.bool ((!r12463) || (!r12466)))) (won rfl) rfl rfl (x_move rfl (ev (t := 114) rfl rfl)) ?_
       refine s_cval (p := (!((!r12463) || (!r12466)))) (v := (.int .i64 r11401.2.2)) (won_f (j := 10) (t := 115) (q := ((!r12463) || (!r12466))) rfl rfl rfl rfl rfl) rfl rfl (fun hp => (x_move rfl (ev (t := 18) (v := (.int .i64 r11401.2.2)) rfl z11000x18))) ?_
       refine s_cval (p := (!((!r12463) || (!r12466)))) (v := (.int .i64 r7401.2.2)) (won_f (j := 10) (t := 115) (q := ((!r12463) || (!r12466))) rfl rfl rfl rfl rfl) rfl rfl (fun hp => (x_move rfl (ev (t := 8) (v := (.int .i64 r7401.2.2)) rfl z11000x8))) ?_
       refine s_cval (p := (!((!r12463) || (!r12466)))) (v := (.bool (!decide (r11401.2.2 = r7401.2.2)))) (won_f (j := 10) (t := 115) (q := ((!r12463) || (!r12466))) rfl rfl rfl rfl rfl) rfl rfl (fun hp => (x_neq rfl (ev (t := 116) rfl (Eq.trans (b := cv (!((!r12463) || (!r12466))) (.int .i64 r11401.2.2)) rfl (on_c hp))) (ev (t := 117) rfl (Eq.trans (b := cv (!((!r12463) || (!r12466))) (.int .i64 r7401.2.2)) rfl (on_c hp))))) ?_
       refine s_val (v := (.bool (((!r12463) || (!r12466)) || (!decide (r11401.2.2 = r7401.2.2))))) (won rfl) rfl rfl (x_pick_or rfl (ev (t := 115) rfl rfl) rfl (fun hq => ev rfl (Eq.trans (b := cv (!((!r12463) || (!r12466))) (.bool (!decide (r11401.2.2 = r7401.2.2)))) rfl (on_c (not_i hq))))) ?_
       refine wpList_nil ?_
       have hm12469 : Mem w0 w12467 (cat [hF, h10429, h10431, sg g9803 28 (0, 0) [] [v9303, v9307] []]) := Mem.pick [0, 5, 6, 7] rfl hm12468
       refine nx ?_
       rcases Bool.eq_false_or_eq_true ((((!r12463) || (!r12466)) || (!decide (r11401.2.2 = r7401.2.2)))) with hb12470 | hb12470
       ·
        replace he := bifT he hb12470
        refine c_true rfl (p := (((!r12463) || (!r12466)) || (!decide (r11401.2.2 = r7401.2.2)))) rfl rfl hb12470 ?_
        refine wp_seq ?_
        refine wp_region_lit ?_
        refine s_val (v := (.bool false)) (won rfl) rfl rfl (x_assign rfl rfl) ?_
        refine wpList_nil ?_
        have hm12471 : Mem w0 w12467 (cat [hF]) := Mem.pick [0] rfl hm12469
        refine nx ?_
        refine wp_ret ?_
        refine xr ?_
        obtain rfl := Option.some.inj he
        refine r_ret (v := (.bool false)) (rv_one rfl (RVs.tmp (v := (.bool false)) rfl rfl RVs.nil)) rfl ?_
        exact ⟨rfl, Mem.pick [0] rfl hm12471⟩
       ·
        replace he := bifF he hb12470
        refine c_false rfl (p := (((!r12463) || (!r12466)) || (!decide (r11401.2.2 = r7401.2.2)))) rfl rfl hb12470 ?_
        refine wp_skip ?_
        refine nx ?_
        refine wp_seq ?_
        refine wp_region_lit ?_
        refine s_val (v := (.int .i64 1)) (won rfl) rfl rfl (x_assign rfl rfl) ?_
        refine wpList_nil ?_
        refine nx ?_
        refine wp_seq ?_
        obtain ⟨r12472, hr12472, he⟩ := bindE he
        refine wp_region_lit ?_
        refine s_val (v := (.agg #[v9303, v9307])) (won rfl) rfl rfl (x_loadN (vs := [v9303, v9307]) rfl tyN_28 (ev (t := 10) (v := (.pointer (some ⟨g9803, 0, none⟩))) rfl z11000x10) (seg_cells (o' := 0) (j := 0) hm12469 (k := 3) rfl rfl rfl)) ?_
        refine s_val (v := (.int .i64 1)) (won rfl) rfl rfl (x_move rfl (ev (t := 15) rfl rfl)) ?_
        refine s_call (won rfl) rfl rfl (x_call rfl rfl cl_25 (map_lit (map_cons (ev (t := 120) rfl rfl) (map_cons (ev (t := 121) rfl rfl) map_nil)))) (laws_heldPool_ok F (hR := (cat [h10429, h10431])) (hF := cat [hF, h10429, h10431, sg g9803 28 (0, 0) [] [v9303, v9307] []]) (impl_Pool.mk r10428.2.1 r10428.2.2) 1 ((H10430.rd w0).mono (Sub.at_ (k := 0) rfl)) ((H10432.rd w0).mono (Sub.at_ (k := 1) rfl)) (subc (Sub.at_ (k := 1) rfl) (subc (Sub.at_ (k := 2) rfl) subn)) (Mem.one hm12469) hr12472) ?_
        rintro e w12473 ⟨rfl, hm12474⟩
        refine ⟨_, rfl, ?_⟩
        replace hm12474 : Mem w0 w12473 (cat [hF, h10429, h10431, sg g9803 28 (0, 0) [] [v9303, v9307] []]) := Mem.un hm12474
        refine s_val (v := (.int .i64 r12472)) (won rfl) rfl rfl (x_assign rfl (ev (t := 122) rfl rfl)) ?_
        refine wpList_nil ?_
        have hm12475 : Mem w0 w12473 (cat [hF]) := Mem.pick [0] rfl hm12474
        refine nx ?_
        refine wp_seq ?_
        refine wp_seq ?_
        refine wp_region_lit ?_
        refine s_val (v := (.int .i64 r12472)) (won rfl) rfl rfl (x_move rfl (ev (t := 15) rfl rfl)) ?_
        refine s_val (v := (.bool (decide (r12472 < 0)))) (won rfl) rfl rfl (x_lss rfl (ev (t := 123) rfl rfl) rfl) ?_
        refine wpList_nil ?_
        refine nx ?_
        rcases Bool.eq_false_or_eq_true ((decide (r12472 < 0))) with hb12477 | hb12477
        ·
         replace he := bifT he hb12477
         refine c_true rfl (p := (decide (r12472 < 0))) rfl rfl hb12477 ?_
         refine wp_seq ?_
         refine wp_region_lit ?_
         refine s_val (v := (.bool false)) (won rfl) rfl rfl (x_assign rfl rfl) ?_
         refine wpList_nil ?_
         refine nx ?_
         refine wp_ret ?_
         refine xr ?_
         obtain rfl := Option.some.inj he
         refine r_ret (v := (.bool false)) (rv_one rfl (RVs.tmp (v := (.bool false)) rfl rfl RVs.nil)) rfl ?_
         exact ⟨rfl, Mem.pick [0] rfl hm12475⟩
        ·
         replace he := bifF he hb12477
         refine c_false rfl (p := (decide (r12472 < 0))) rfl rfl hb12477 ?_
         refine wp_skip ?_
         refine nx ?_
         refine wp_seq ?_
         refine wp_seq ?_
         refine wp_region_lit ?_
         refine s_val (v := (.int .i64 r12472)) (won rfl) rfl rfl (x_move rfl (ev (t := 15) rfl rfl)) ?_
         refine s_val (v := (.int .i64 r10428.1)) (won rfl) rfl rfl (x_move rfl (ev (t := 14) (v := (.int .i64 r10428.1)) rfl z11000x14)) ?_
         refine s_val (v := (.bool (!decide (r12472 = r10428.1)))) (won rfl) rfl rfl (x_neq rfl (ev (t := 125) rfl rfl) (ev (t := 126) rfl rfl)) ?_
         refine wpList_nil ?_
         refine nx ?_
         rcases Bool.eq_false_or_eq_true ((!decide (r12472 = r10428.1))) with hb12479 | hb12479
         ·
          replace he := bifT he hb12479
          refine c_true rfl (p := (!decide (r12472 = r10428.1))) rfl rfl hb12479 ?_
          refine wp_seq ?_
          refine wp_region_lit ?_
          refine s_val (v := (.bool false)) (won rfl) rfl rfl (x_assign rfl rfl) ?_
          refine wpList_nil ?_
          refine nx ?_
          refine wp_ret ?_
          refine xr ?_
          obtain rfl := Option.some.inj he
          refine r_ret (v := (.bool false)) (rv_one rfl (RVs.tmp (v := (.bool false)) rfl rfl RVs.nil)) rfl ?_
          exact ⟨rfl, Mem.pick [0] rfl hm12475⟩
         ·
          replace he := bifF he hb12479
          refine c_false rfl (p := (!decide (r12472 = r10428.1))) rfl rfl hb12479 ?_
          refine wp_skip ?_
          refine nx ?_
          refine wp_seq ?_
          refine wp_region_lit ?_
          refine s_val (v := (.bool true)) (won rfl) rfl rfl (x_assign rfl rfl) ?_
          refine wpList_nil ?_
          refine nx ?_
          refine wp_ret ?_
          obtain rfl := Option.some.inj he
          refine r_ret (v := (.bool true)) (rv_one rfl (RVs.tmp (v := (.bool true)) rfl rfl RVs.nil)) rfl ?_
          exact ⟨rfl, Mem.pick [0] rfl hm12475⟩
end Go.Proofs.Ytpkdolmbhfmjcaa.FnExactPoolStep
