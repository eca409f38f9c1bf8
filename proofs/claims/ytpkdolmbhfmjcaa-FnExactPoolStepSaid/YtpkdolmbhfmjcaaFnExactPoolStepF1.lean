/- What functions of the program compute, and their walks: printed. -/
import Derived.Test.YtpkdolmbhfmjcaaFnExactPoolStepT
import Derived.Test.YtpkdolmbhfmjcaaFnExactPoolStepF0
set_option linter.unusedVariables false
set_option linter.unusedSimpArgs false
set_option linter.unusedSectionVars false
namespace Go.Proofs.Ytpkdolmbhfmjcaa.FnExactPoolStep
open Go.RowKit Go.Proofs.Gw
attribute [local irreducible] wpList DG wpQuiet wl
def impl_clonePool (a0 : impl_Pool) : Option (impl_Pool) := gd ((([] : List Int).length + a0.Free.length) * 8 ≤ 140737488355328) (gd ((([] : List Int).length + a0.Owner.length) * 8 ≤ 140737488355328) ((some (impl_Pool.mk (([] : List Int) ++ a0.Free) (([] : List Int) ++ a0.Owner)))))
set_option maxHeartbeats 400000 in
set_option maxRecDepth 100000 in
theorem impl_clonePool_ok {w0 w : World} {hR hF : Hp} {v0x0 : Value} {v0x1 : Value} (a0 : impl_Pool) {r : (impl_Pool)} (H0x0 : RdF w0 (FK.int .i64) v0x0 a0.Free hR) (H0x1 : RdF w0 (FK.int .i64) v0x1 a0.Owner hR) (hs : Sub hR hF) (hm : Mem w0 w (cat [hF])) (he : impl_clonePool a0 = some r) :
    Calls Try.prog 63 #[(.agg #[v0x0, v0x1])] w (fun e w' => ∃ (v'0 : Value) (h'0 : Hp) (v'1 : Value) (h'1 : Hp), e = .returned (.agg #[v'0, v'1]) ∧ OwF 3 (FK.int .i64) v'0 r.Free h'0 ∧ OwF 3 (FK.int .i64) v'1 r.Owner h'1 ∧ Mem w0 w' (cat [h'0, h'1, hF])) := by
 refine calls_fr (n := 12) Try.func63 rfl rfl rfl ?_
 unfold impl_clonePool at he
 refine wp_seq ?_
 refine wp_region_lit ?_
 refine s_exv (won rfl) rfl rfl (e_box (vs := [v0x0, v0x1]) rfl (ev (t := 0) rfl rfl) rfl hm) ?_
 rintro g2042 w2043 hm2044
 refine s_exv (won rfl) rfl rfl (e_alloc (vs := [(.slice none 0 0), (.slice none 0 0)]) rfl zt_28 rfl hm2044) ?_
 rintro g2048 w2049 hm2050
 refine wpList_nil ?_
 refine nx ?_
 refine wp_seq ?_
 obtain ⟨hg3301, he⟩ := gdE he
 obtain ⟨hg3701, he⟩ := gdE he
 refine wp_drawF (I := fun f b a w => ∃ (vs : Nat → Value) (g3003 : Nat) (p3303 : Value × Hp) (g3403 : Nat) (p3703 : Value × Hp), a = fr 12 (sel b [(0, 3), (1, 4), (2, 5), (3, 6), (4, 7), (5, 8), (6, 9), (7, 10), (8, 11)] vs f) ∧ (b 0 = true → vs 0 = (.slice (some ⟨g3003, 0, none⟩) 0 0)) ∧ (b 1 = true → vs 1 = (.pointer (some ⟨g2042, 0, none⟩))) ∧ (b 2 = true → vs 2 = v0x0) ∧ (b 3 = true → vs 3 = p3303.1) ∧ (b 4 = true → vs 4 = (.slice (some ⟨g3403, 0, none⟩) 0 0)) ∧ (b 5 = true → vs 5 = (.pointer (some ⟨g2042, 1, none⟩))) ∧ (b 6 = true → vs 6 = v0x1) ∧ (b 7 = true → vs 7 = p3703.1) ∧ (b 8 = true → vs 8 = (.agg #[p3303.1, p3703.1])) ∧ (b 0 = true → OwF 3 (FK.int .i64) (.slice (some ⟨g3003, 0, none⟩) 0 0) ([] : List Int) (sg g3003 3 (0, 0) [] (encs (FK.int .i64) ([] : List Int)) [])) ∧ (b 3 = true → OwF 3 (FK.int .i64) p3303.1 (([] : List Int) ++ a0.Free) p3303.2) ∧ (b 4 = true → OwF 3 (FK.int .i64) (.slice (some ⟨g3403, 0, none⟩) 0 0) ([] : List Int) (sg g3403 3 (0, 0) [] (encs (FK.int .i64) ([] : List Int)) [])) ∧ (b 7 = true → OwF 3 (FK.int .i64) p3703.1 (([] : List Int) ++ a0.Owner) p3703.2) ∧ Mem w0 w (cat [(bif b 9 then sg g2048 28 (0, 0) [] [p3303.1, p3703.1] [] else sg g2048 28 (0, 0) [] [(.slice none 0 0), (.slice none 0 0)] []), sg g2042 28 (0, 0) [] [v0x0, v0x1] [], hF, (bif b 3 then [] else (bif b 0 then (sg g3003 3 (0, 0) [] (encs (FK.int .i64) ([] : List Int)) []) else [])), (bif b 3 then p3303.2 else []), (bif b 7 then [] else (bif b 4 then (sg g3403 3 (0, 0) [] (encs (FK.int .i64) ([] : List Int)) []) else [])), (bif b 7 then p3703.2 else [])])) mixed (by kernel_rfl) ⟨fun _ => undef, 0, (undef, []), 0, (undef, []), (by rw [sel_false]), fun h => fno h, fun h => fno h, fun h => fno h, fun h => fno h, fun h => fno h, fun h => fno h, fun h => fno h, fun h => fno h, fun h => fno h, fun h => fno h, fun h => fno h, fun h => fno h, fun h => fno h, Mem.drew (Mem.pick [0, 1, 2, 1000, 1001, 1002, 1003] rfl hm2050)⟩ (steps_cons (i := 0) ?_ (steps_cons (i := 1) ?_ (steps_cons (i := 2) ?_ (steps_cons (i := 3) ?_ (steps_cons (i := 4) ?_ (steps_cons (i := 5) ?_ (steps_cons (i := 6) ?_ (steps_cons (i := 7) ?_ (steps_cons (i := 8) ?_ (steps_cons (i := 9) ?_ steps_nil)))))))))) ?_
 ·
  intro b a w hI hbi hn hc K hK
  obtain ⟨vs, g3003, p3303, g3403, p3703, ha, y0, y1, y2, y3, y4, y5, y6, y7, y8, H3004, H3304, H3404, H3704, hm⟩ := hI
  subst ha
  have b3 : b 3 = false := later (j := 3) hc rfl (i := 0) (da rfl) hbi
  have b7 : b 7 = false := later (j := 7) hc rfl (i := 3) (da rfl) b3
  have b8 : b 8 = false := later (j := 8) hc rfl (i := 3) (da rfl) b3
  have b9 : b 9 = false := later (j := 9) hc rfl (i := 0) (da rfl) hbi
  have hm4001 : Mem w0 w (cat [sg g2048 28 (0, 0) [] [(.slice none 0 0), (.slice none 0 0)] [], sg g2042 28 (0, 0) [] [v0x0, v0x1] [], hF, (bif b 4 then (sg g3403 3 (0, 0) [] (encs (FK.int .i64) ([] : List Int)) []) else [])]) := Mem.pick [0, 1, 2, 5] rfl (Mem.cg (B := [sg g2048 28 (0, 0) [] [(.slice none 0 0), (.slice none 0 0)] [], sg g2042 28 (0, 0) [] [v0x0, v0x1] [], hF, [], [], (bif b 4 then (sg g3403 3 (0, 0) [] (encs (FK.int .i64) ([] : List Int)) []) else []), []]) (cat_cons (off_ b9 rfl) (cat_cons rfl (cat_cons rfl (cat_cons (off_ b3 (off_ hbi rfl)) (cat_cons (off_ b3 rfl) (cat_cons (off_ b7 rfl) (cat_cons (off_ b7 rfl) rfl))))))) hm)
  refine e_exv (i := 0) hbi rfl rfl (won rfl) rfl rfl (e_litp (cells := []) (ps := []) rfl slt_26 (pmap_lit pmap_nil) (fun w1 => run_bslice0 slt_26) hm4001) ?_
  rintro g3003 w3001 hm3002
  have H3004 : OwF 3 (FK.int .i64) (.slice (some ⟨g3003, 0, none⟩) 0 0) ([] : List Int) (sg g3003 3 (0, 0) [] (encs (FK.int .i64) ([] : List Int)) []) := OwF.lit g3003 ([] : List Int) 0 rfl (by decide)
  replace hm3002 : Mem w0 w3001 (cat [(sg g3003 3 (0, 0) [] (encs (FK.int .i64) ([] : List Int)) []), sg g2048 28 (0, 0) [] [(.slice none 0 0), (.slice none 0 0)] [], sg g2042 28 (0, 0) [] [v0x0, v0x1] [], hF, (bif b 4 then (sg g3403 3 (0, 0) [] (encs (FK.int .i64) ([] : List Int)) []) else [])]) := hm3002
  exact hK _ _ ⟨_, g3003, p3303, g3403, p3703, rfl, fun _ => rfl, y1, y2, y3, y4, y5, y6, y7, y8, fun _ => H3004, H3304, H3404, H3704, Mem.gc (A := [sg g2048 28 (0, 0) [] [(.slice none 0 0), (.slice none 0 0)] [], sg g2042 28 (0, 0) [] [v0x0, v0x1] [], hF, (sg g3003 3 (0, 0) [] (encs (FK.int .i64) ([] : List Int)) []), [], (bif b 4 then (sg g3403 3 (0, 0) [] (encs (FK.int .i64) ([] : List Int)) []) else []), []]) (cat_cons (off_ b9 rfl) (cat_cons rfl (cat_cons rfl (cat_cons (off_ b3 (on_ rfl rfl)) (cat_cons (off_ b3 rfl) (cat_cons (off_ b7 rfl) (cat_cons (off_ b7 rfl) rfl))))))) (Mem.pick [1, 2, 3, 0, 1004, 4, 1006] rfl hm3002)⟩
 ·
  intro b a w hI hbi hn hc K hK
  obtain ⟨vs, g3003, p3303, g3403, p3703, ha, y0, y1, y2, y3, y4, y5, y6, y7, y8, H3004, H3304, H3404, H3704, hm⟩ := hI
  subst ha
  have b2 : b 2 = false := later (j := 2) hc rfl (i := 1) (da rfl) hbi
  have b3 : b 3 = false := later (j := 3) hc rfl (i := 2) (da rfl) b2
  have b7 : b 7 = false := later (j := 7) hc rfl (i := 3) (da rfl) b3
  have b8 : b 8 = false := later (j := 8) hc rfl (i := 3) (da rfl) b3
  have b9 : b 9 = false := later (j := 9) hc rfl (i := 1) (da rfl) hbi
  have hm4004 : Mem w0 w (cat [sg g2048 28 (0, 0) [] [(.slice none 0 0), (.slice none 0 0)] [], sg g2042 28 (0, 0) [] [v0x0, v0x1] [], hF, (bif b 0 then (sg g3003 3 (0, 0) [] (encs (FK.int .i64) ([] : List Int)) []) else []), (bif b 4 then (sg g3403 3 (0, 0) [] (encs (FK.int .i64) ([] : List Int)) []) else [])]) := Mem.pick [0, 1, 2, 3, 5] rfl (Mem.cg (B := [sg g2048 28 (0, 0) [] [(.slice none 0 0), (.slice none 0 0)] [], sg g2042 28 (0, 0) [] [v0x0, v0x1] [], hF, (bif b 0 then (sg g3003 3 (0, 0) [] (encs (FK.int .i64) ([] : List Int)) []) else []), [], (bif b 4 then (sg g3403 3 (0, 0) [] (encs (FK.int .i64) ([] : List Int)) []) else []), []]) (cat_cons (off_ b9 rfl) (cat_cons rfl (cat_cons rfl (cat_cons (off_ b3 rfl) (cat_cons (off_ b3 rfl) (cat_cons (off_ b7 rfl) (cat_cons (off_ b7 rfl) rfl))))))) hm)
  refine e_val (i := 1) hbi rfl rfl (v := (.pointer (some ⟨g2042, 0, none⟩))) (won rfl) rfl rfl (x_field rfl fa_28x0 (ev (t := 1) (v := (.pointer (some ⟨g2042, 0, none⟩))) rfl ((sel_no rfl).trans rfl))) ?_
  exact hK _ _ ⟨_, g3003, p3303, g3403, p3703, rfl, y0, fun _ => rfl, y2, y3, y4, y5, y6, y7, y8, H3004, H3304, H3404, H3704, Mem.gc (A := [sg g2048 28 (0, 0) [] [(.slice none 0 0), (.slice none 0 0)] [], sg g2042 28 (0, 0) [] [v0x0, v0x1] [], hF, (bif b 0 then (sg g3003 3 (0, 0) [] (encs (FK.int .i64) ([] : List Int)) []) else []), [], (bif b 4 then (sg g3403 3 (0, 0) [] (encs (FK.int .i64) ([] : List Int)) []) else []), []]) (cat_cons (off_ b9 rfl) (cat_cons rfl (cat_cons rfl (cat_cons (off_ b3 rfl) (cat_cons (off_ b3 rfl) (cat_cons (off_ b7 rfl) (cat_cons (off_ b7 rfl) rfl))))))) (Mem.pick [0, 1, 2, 3, 1004, 4, 1006] rfl hm4004)⟩
 ·
  intro b a w hI hbi hn hc K hK
  obtain ⟨vs, g3003, p3303, g3403, p3703, ha, y0, y1, y2, y3, y4, y5, y6, y7, y8, H3004, H3304, H3404, H3704, hm⟩ := hI
  subst ha
  have b1 : b 1 = true := hn 1 (da rfl)
  have b3 : b 3 = false := later (j := 3) hc rfl (i := 2) (da rfl) hbi
  have b7 : b 7 = false := later (j := 7) hc rfl (i := 3) (da rfl) b3
  have b8 : b 8 = false := later (j := 8) hc rfl (i := 3) (da rfl) b3
  have b9 : b 9 = false := later (j := 9) hc rfl (i := 2) (da rfl) hbi
  have hm4007 : Mem w0 w (cat [sg g2048 28 (0, 0) [] [(.slice none 0 0), (.slice none 0 0)] [], sg g2042 28 (0, 0) [] [v0x0, v0x1] [], hF, (bif b 0 then (sg g3003 3 (0, 0) [] (encs (FK.int .i64) ([] : List Int)) []) else []), (bif b 4 then (sg g3403 3 (0, 0) [] (encs (FK.int .i64) ([] : List Int)) []) else [])]) := Mem.pick [0, 1, 2, 3, 5] rfl (Mem.cg (B := [sg g2048 28 (0, 0) [] [(.slice none 0 0), (.slice none 0 0)] [], sg g2042 28 (0, 0) [] [v0x0, v0x1] [], hF, (bif b 0 then (sg g3003 3 (0, 0) [] (encs (FK.int .i64) ([] : List Int)) []) else []), [], (bif b 4 then (sg g3403 3 (0, 0) [] (encs (FK.int .i64) ([] : List Int)) []) else []), []]) (cat_cons (off_ b9 rfl) (cat_cons rfl (cat_cons rfl (cat_cons (off_ b3 rfl) (cat_cons (off_ b3 rfl) (cat_cons (off_ b7 rfl) (cat_cons (off_ b7 rfl) rfl))))))) hm)
  refine e_val (i := 2) hbi rfl rfl (v := v0x0) (won rfl) rfl rfl (x_load rfl ty1x26 (ev (t := 4) (v := (.pointer (some ⟨g2042, 0, none⟩))) rfl ((sel_on (p := (1, 4)) rfl b1).trans (y1 b1))) (seg_cell (o' := 0) (j := 0) hm4007 (k := 1) rfl rfl rfl)) ?_
  exact hK _ _ ⟨_, g3003, p3303, g3403, p3703, rfl, y0, y1, fun _ => rfl, y3, y4, y5, y6, y7, y8, H3004, H3304, H3404, H3704, Mem.gc (A := [sg g2048 28 (0, 0) [] [(.slice none 0 0), (.slice none 0 0)] [], sg g2042 28 (0, 0) [] [v0x0, v0x1] [], hF, (bif b 0 then (sg g3003 3 (0, 0) [] (encs (FK.int .i64) ([] : List Int)) []) else []), [], (bif b 4 then (sg g3403 3 (0, 0) [] (encs (FK.int .i64) ([] : List Int)) []) else []), []]) (cat_cons (off_ b9 rfl) (cat_cons rfl (cat_cons rfl (cat_cons (off_ b3 rfl) (cat_cons (off_ b3 rfl) (cat_cons (off_ b7 rfl) (cat_cons (off_ b7 rfl) rfl))))))) (Mem.pick [0, 1, 2, 3, 1004, 4, 1006] rfl hm4007)⟩
 ·
  intro b a w hI hbi hn hc K hK
  obtain ⟨vs, g3003, p3303, g3403, p3703, ha, y0, y1, y2, y3, y4, y5, y6, y7, y8, H3004, H3304, H3404, H3704, hm⟩ := hI
  subst ha
  have b0 : b 0 = true := hn 0 (da rfl)
  have b2 : b 2 = true := hn 2 (da rfl)
  have b1 : b 1 = true := hc 2 _ rfl b2 1 (da rfl)
  have b7 : b 7 = false := later (j := 7) hc rfl (i := 3) (da rfl) hbi
  have b8 : b 8 = false := later (j := 8) hc rfl (i := 3) (da rfl) hbi
  have b9 : b 9 = false := later (j := 9) hc rfl (i := 3) (da rfl) hbi
  have H3004 := H3004 b0
  have hm4010 : Mem w0 w (cat [sg g2048 28 (0, 0) [] [(.slice none 0 0), (.slice none 0 0)] [], sg g2042 28 (0, 0) [] [v0x0, v0x1] [], hF, (sg g3003 3 (0, 0) [] (encs (FK.int .i64) ([] : List Int)) []), (bif b 4 then (sg g3403 3 (0, 0) [] (encs (FK.int .i64) ([] : List Int)) []) else [])]) := Mem.pick [0, 1, 2, 3, 5] rfl (Mem.cg (B := [sg g2048 28 (0, 0) [] [(.slice none 0 0), (.slice none 0 0)] [], sg g2042 28 (0, 0) [] [v0x0, v0x1] [], hF, (sg g3003 3 (0, 0) [] (encs (FK.int .i64) ([] : List Int)) []), [], (bif b 4 then (sg g3403 3 (0, 0) [] (encs (FK.int .i64) ([] : List Int)) []) else []), []]) (cat_cons (off_ b9 rfl) (cat_cons rfl (cat_cons rfl (cat_cons (off_ hbi (on_ b0 rfl)) (cat_cons (off_ hbi rfl) (cat_cons (off_ b7 rfl) (cat_cons (off_ b7 rfl) rfl))))))) hm)
  refine e_exv (i := 3) hbi rfl rfl (won rfl) rfl rfl (e_append (bytes := 8) rfl slt_26 rfl (ev (t := 3) (v := (.slice (some ⟨g3003, 0, none⟩) 0 0)) rfl ((sel_on (p := (0, 3)) rfl b0).trans (y0 b0))) (ev (t := 5) (v := v0x0) rfl ((sel_on (p := (2, 5)) rfl b2).trans (y2 b2))) H3004 (k := 3) rfl H0x0 (Sub.trans hs (Sub.at_ (k := 2) rfl)) hm4010 hg3301 (len63 hg3301 rfl)) ?_
  rintro p3303 w3305 ⟨H3304, hm3306⟩
  replace hm3306 : Mem w0 w3305 (cat [sg g2048 28 (0, 0) [] [(.slice none 0 0), (.slice none 0 0)] [], sg g2042 28 (0, 0) [] [v0x0, v0x1] [], hF, p3303.2, (bif b 4 then (sg g3403 3 (0, 0) [] (encs (FK.int .i64) ([] : List Int)) []) else [])]) := hm3306
  exact hK _ _ ⟨_, g3003, p3303, g3403, p3703, rfl, y0, y1, y2, fun _ => rfl, y4, y5, y6, y7, fun hb => ab b8 hb, fun _ => H3004, fun _ => H3304, H3404, H3704, Mem.gc (A := [sg g2048 28 (0, 0) [] [(.slice none 0 0), (.slice none 0 0)] [], sg g2042 28 (0, 0) [] [v0x0, v0x1] [], hF, [], p3303.2, (bif b 4 then (sg g3403 3 (0, 0) [] (encs (FK.int .i64) ([] : List Int)) []) else []), []]) (cat_cons (off_ b9 rfl) (cat_cons rfl (cat_cons rfl (cat_cons (on_ rfl rfl) (cat_cons (on_ rfl rfl) (cat_cons (off_ b7 rfl) (cat_cons (off_ b7 rfl) rfl))))))) (Mem.pick [0, 1, 2, 1003, 3, 4, 1006] rfl hm3306)⟩
 ·
  intro b a w hI hbi hn hc K hK
  obtain ⟨vs, g3003, p3303, g3403, p3703, ha, y0, y1, y2, y3, y4, y5, y6, y7, y8, H3004, H3304, H3404, H3704, hm⟩ := hI
  subst ha
  have b7 : b 7 = false := later (j := 7) hc rfl (i := 4) (da rfl) hbi
  have b8 : b 8 = false := later (j := 8) hc rfl (i := 7) (da rfl) b7
  have b9 : b 9 = false := later (j := 9) hc rfl (i := 4) (da rfl) hbi
  have hm4013 : Mem w0 w (cat [sg g2048 28 (0, 0) [] [(.slice none 0 0), (.slice none 0 0)] [], sg g2042 28 (0, 0) [] [v0x0, v0x1] [], hF, (bif b 3 then [] else (bif b 0 then (sg g3003 3 (0, 0) [] (encs (FK.int .i64) ([] : List Int)) []) else [])), (bif b 3 then p3303.2 else [])]) := Mem.pick [0, 1, 2, 3, 4] rfl (Mem.cg (B := [sg g2048 28 (0, 0) [] [(.slice none 0 0), (.slice none 0 0)] [], sg g2042 28 (0, 0) [] [v0x0, v0x1] [], hF, (bif b 3 then [] else (bif b 0 then (sg g3003 3 (0, 0) [] (encs (FK.int .i64) ([] : List Int)) []) else [])), (bif b 3 then p3303.2 else []), [], []]) (cat_cons (off_ b9 rfl) (cat_cons rfl (cat_cons rfl (cat_cons rfl (cat_cons rfl (cat_cons (off_ b7 (off_ hbi rfl)) (cat_cons (off_ b7 rfl) rfl))))))) hm)
  refine e_exv (i := 4) hbi rfl rfl (won rfl) rfl rfl (e_litp (cells := []) (ps := []) rfl slt_26 (pmap_lit pmap_nil) (fun w1 => run_bslice0 slt_26) hm4013) ?_
  rintro g3403 w3401 hm3402
  have H3404 : OwF 3 (FK.int .i64) (.slice (some ⟨g3403, 0, none⟩) 0 0) ([] : List Int) (sg g3403 3 (0, 0) [] (encs (FK.int .i64) ([] : List Int)) []) := OwF.lit g3403 ([] : List Int) 0 rfl (by decide)
  replace hm3402 : Mem w0 w3401 (cat [(sg g3403 3 (0, 0) [] (encs (FK.int .i64) ([] : List Int)) []), sg g2048 28 (0, 0) [] [(.slice none 0 0), (.slice none 0 0)] [], sg g2042 28 (0, 0) [] [v0x0, v0x1] [], hF, (bif b 3 then [] else (bif b 0 then (sg g3003 3 (0, 0) [] (encs (FK.int .i64) ([] : List Int)) []) else [])), (bif b 3 then p3303.2 else [])]) := hm3402
  exact hK _ _ ⟨_, g3003, p3303, g3403, p3703, rfl, y0, y1, y2, y3, fun _ => rfl, y5, y6, y7, y8, H3004, H3304, fun _ => H3404, H3704, Mem.gc (A := [sg g2048 28 (0, 0) [] [(.slice none 0 0), (.slice none 0 0)] [], sg g2042 28 (0, 0) [] [v0x0, v0x1] [], hF, (bif b 3 then [] else (bif b 0 then (sg g3003 3 (0, 0) [] (encs (FK.int .i64) ([] : List Int)) []) else [])), (bif b 3 then p3303.2 else []), (sg g3403 3 (0, 0) [] (encs (FK.int .i64) ([] : List Int)) []), []]) (cat_cons (off_ b9 rfl) (cat_cons rfl (cat_cons rfl (cat_cons rfl (cat_cons rfl (cat_cons (off_ b7 (on_ rfl rfl)) (cat_cons (off_ b7 rfl) rfl))))))) (Mem.pick [1, 2, 3, 4, 5, 0, 1006] rfl hm3402)⟩
 ·
  intro b a w hI hbi hn hc K hK
  obtain ⟨vs, g3003, p3303, g3403, p3703, ha, y0, y1, y2, y3, y4, y5, y6, y7, y8, H3004, H3304, H3404, H3704, hm⟩ := hI
  subst ha
  have b6 : b 6 = false := later (j := 6) hc rfl (i := 5) (da rfl) hbi
  have b7 : b 7 = false := later (j := 7) hc rfl (i := 6) (da rfl) b6
  have b8 : b 8 = false := later (j := 8) hc rfl (i := 7) (da rfl) b7
  have b9 : b 9 = false := later (j := 9) hc rfl (i := 5) (da rfl) hbi
  have hm4016 : Mem w0 w (cat [sg g2048 28 (0, 0) [] [(.slice none 0 0), (.slice none 0 0)] [], sg g2042 28 (0, 0) [] [v0x0, v0x1] [], hF, (bif b 3 then [] else (bif b 0 then (sg g3003 3 (0, 0) [] (encs (FK.int .i64) ([] : List Int)) []) else [])), (bif b 3 then p3303.2 else []), (bif b 4 then (sg g3403 3 (0, 0) [] (encs (FK.int .i64) ([] : List Int)) []) else [])]) := Mem.pick [0, 1, 2, 3, 4, 5] rfl (Mem.cg (B := [sg g2048 28 (0, 0) [] [(.slice none 0 0), (.slice none 0 0)] [], sg g2042 28 (0, 0) [] [v0x0, v0x1] [], hF, (bif b 3 then [] else (bif b 0 then (sg g3003 3 (0, 0) [] (encs (FK.int .i64) ([] : List Int)) []) else [])), (bif b 3 then p3303.2 else []), (bif b 4 then (sg g3403 3 (0, 0) [] (encs (FK.int .i64) ([] : List Int)) []) else []), []]) (cat_cons (off_ b9 rfl) (cat_cons rfl (cat_cons rfl (cat_cons rfl (cat_cons rfl (cat_cons (off_ b7 rfl) (cat_cons (off_ b7 rfl) rfl))))))) hm)
  refine e_val (i := 5) hbi rfl rfl (v := (.pointer (some ⟨g2042, 1, none⟩))) (won rfl) rfl rfl (x_field rfl fa_28x1 (ev (t := 1) (v := (.pointer (some ⟨g2042, 0, none⟩))) rfl ((sel_no rfl).trans rfl))) ?_
  exact hK _ _ ⟨_, g3003, p3303, g3403, p3703, rfl, y0, y1, y2, y3, y4, fun _ => rfl, y6, y7, y8, H3004, H3304, H3404, H3704, Mem.gc (A := [sg g2048 28 (0, 0) [] [(.slice none 0 0), (.slice none 0 0)] [], sg g2042 28 (0, 0) [] [v0x0, v0x1] [], hF, (bif b 3 then [] else (bif b 0 then (sg g3003 3 (0, 0) [] (encs (FK.int .i64) ([] : List Int)) []) else [])), (bif b 3 then p3303.2 else []), (bif b 4 then (sg g3403 3 (0, 0) [] (encs (FK.int .i64) ([] : List Int)) []) else []), []]) (cat_cons (off_ b9 rfl) (cat_cons rfl (cat_cons rfl (cat_cons rfl (cat_cons rfl (cat_cons (off_ b7 rfl) (cat_cons (off_ b7 rfl) rfl))))))) (Mem.pick [0, 1, 2, 3, 4, 5, 1006] rfl hm4016)⟩
 ·
  intro b a w hI hbi hn hc K hK
  obtain ⟨vs, g3003, p3303, g3403, p3703, ha, y0, y1, y2, y3, y4, y5, y6, y7, y8, H3004, H3304, H3404, H3704, hm⟩ := hI
  subst ha
  have b5 : b 5 = true := hn 5 (da rfl)
  have b7 : b 7 = false := later (j := 7) hc rfl (i := 6) (da rfl) hbi
  have b8 : b 8 = false := later (j := 8) hc rfl (i := 7) (da rfl) b7
  have b9 : b 9 = false := later (j := 9) hc rfl (i := 6) (da rfl) hbi
  have hm4019 : Mem w0 w (cat [sg g2048 28 (0, 0) [] [(.slice none 0 0), (.slice none 0 0)] [], sg g2042 28 (0, 0) [] [v0x0, v0x1] [], hF, (bif b 3 then [] else (bif b 0 then (sg g3003 3 (0, 0) [] (encs (FK.int .i64) ([] : List Int)) []) else [])), (bif b 3 then p3303.2 else []), (bif b 4 then (sg g3403 3 (0, 0) [] (encs (FK.int .i64) ([] : List Int)) []) else [])]) := Mem.pick [0, 1, 2, 3, 4, 5] rfl (Mem.cg (B := [sg g2048 28 (0, 0) [] [(.slice none 0 0), (.slice none 0 0)] [], sg g2042 28 (0, 0) [] [v0x0, v0x1] [], hF, (bif b 3 then [] else (bif b 0 then (sg g3003 3 (0, 0) [] (encs (FK.int .i64) ([] : List Int)) []) else [])), (bif b 3 then p3303.2 else []), (bif b 4 then (sg g3403 3 (0, 0) [] (encs (FK.int .i64) ([] : List Int)) []) else []), []]) (cat_cons (off_ b9 rfl) (cat_cons rfl (cat_cons rfl (cat_cons rfl (cat_cons rfl (cat_cons (off_ b7 rfl) (cat_cons (off_ b7 rfl) rfl))))))) hm)
  refine e_val (i := 6) hbi rfl rfl (v := v0x1) (won rfl) rfl rfl (x_load rfl ty1x26 (ev (t := 8) (v := (.pointer (some ⟨g2042, 1, none⟩))) rfl ((sel_on (p := (5, 8)) rfl b5).trans (y5 b5))) (seg_cell (o' := 0) (j := 1) hm4019 (k := 1) rfl rfl rfl)) ?_
  exact hK _ _ ⟨_, g3003, p3303, g3403, p3703, rfl, y0, y1, y2, y3, y4, y5, fun _ => rfl, y7, y8, H3004, H3304, H3404, H3704, Mem.gc (A := [sg g2048 28 (0, 0) [] [(.slice none 0 0), (.slice none 0 0)] [], sg g2042 28 (0, 0) [] [v0x0, v0x1] [], hF, (bif b 3 then [] else (bif b 0 then (sg g3003 3 (0, 0) [] (encs (FK.int .i64) ([] : List Int)) []) else [])), (bif b 3 then p3303.2 else []), (bif b 4 then (sg g3403 3 (0, 0) [] (encs (FK.int .i64) ([] : List Int)) []) else []), []]) (cat_cons (off_ b9 rfl) (cat_cons rfl (cat_cons rfl (cat_cons rfl (cat_cons rfl (cat_cons (off_ b7 rfl) (cat_cons (off_ b7 rfl) rfl))))))) (Mem.pick [0, 1, 2, 3, 4, 5, 1006] rfl hm4019)⟩
 ·
  intro b a w hI hbi hn hc K hK
  obtain ⟨vs, g3003, p3303, g3403, p3703, ha, y0, y1, y2, y3, y4, y5, y6, y7, y8, H3004, H3304, H3404, H3704, hm⟩ := hI
  subst ha
  have b3 : b 3 = true := hn 3 (da rfl)
  have b4 : b 4 = true := hn 4 (da rfl)
  have b6 : b 6 = true := hn 6 (da rfl)
  have b0 : b 0 = true := hc 3 _ rfl b3 0 (da rfl)
  have b2 : b 2 = true := hc 3 _ rfl b3 2 (da rfl)
  have b5 : b 5 = true := hc 6 _ rfl b6 5 (da rfl)
  have b1 : b 1 = true := hc 2 _ rfl b2 1 (da rfl)
  have b8 : b 8 = false := later (j := 8) hc rfl (i := 7) (da rfl) hbi
  have b9 : b 9 = false := later (j := 9) hc rfl (i := 7) (da rfl) hbi
  have H3004 := H3004 b0
  have H3304 := H3304 b3
  have H3404 := H3404 b4
  have hm4022 : Mem w0 w (cat [sg g2048 28 (0, 0) [] [(.slice none 0 0), (.slice none 0 0)] [], sg g2042 28 (0, 0) [] [v0x0, v0x1] [], hF, p3303.2, (sg g3403 3 (0, 0) [] (encs (FK.int .i64) ([] : List Int)) [])]) := Mem.pick [0, 1, 2, 4, 5] rfl (Mem.cg (B := [sg g2048 28 (0, 0) [] [(.slice none 0 0), (.slice none 0 0)] [], sg g2042 28 (0, 0) [] [v0x0, v0x1] [], hF, [], p3303.2, (sg g3403 3 (0, 0) [] (encs (FK.int .i64) ([] : List Int)) []), []]) (cat_cons (off_ b9 rfl) (cat_cons rfl (cat_cons rfl (cat_cons (on_ b3 rfl) (cat_cons (on_ b3 rfl) (cat_cons (off_ hbi (on_ b4 rfl)) (cat_cons (off_ hbi rfl) rfl))))))) hm)
  refine e_exv (i := 7) hbi rfl rfl (won rfl) rfl rfl (e_append (bytes := 8) rfl slt_26 rfl (ev (t := 7) (v := (.slice (some ⟨g3403, 0, none⟩) 0 0)) rfl ((sel_on (p := (4, 7)) rfl b4).trans (y4 b4))) (ev (t := 9) (v := v0x1) rfl ((sel_on (p := (6, 9)) rfl b6).trans (y6 b6))) H3404 (k := 4) rfl H0x1 (Sub.trans hs (Sub.at_ (k := 2) rfl)) hm4022 hg3701 (len63 hg3701 rfl)) ?_
  rintro p3703 w3705 ⟨H3704, hm3706⟩
  replace hm3706 : Mem w0 w3705 (cat [sg g2048 28 (0, 0) [] [(.slice none 0 0), (.slice none 0 0)] [], sg g2042 28 (0, 0) [] [v0x0, v0x1] [], hF, p3303.2, p3703.2]) := hm3706
  exact hK _ _ ⟨_, g3003, p3303, g3403, p3703, rfl, y0, y1, y2, y3, y4, y5, y6, fun _ => rfl, fun hb => ab b8 hb, fun _ => H3004, fun _ => H3304, fun _ => H3404, fun _ => H3704, Mem.gc (A := [sg g2048 28 (0, 0) [] [(.slice none 0 0), (.slice none 0 0)] [], sg g2042 28 (0, 0) [] [v0x0, v0x1] [], hF, [], p3303.2, [], p3703.2]) (cat_cons (off_ b9 rfl) (cat_cons rfl (cat_cons rfl (cat_cons (on_ b3 rfl) (cat_cons (on_ b3 rfl) (cat_cons (on_ rfl rfl) (cat_cons (on_ rfl rfl) rfl))))))) (Mem.pick [0, 1, 2, 1003, 3, 1005, 4] rfl hm3706)⟩
 ·
  intro b a w hI hbi hn hc K hK
  obtain ⟨vs, g3003, p3303, g3403, p3703, ha, y0, y1, y2, y3, y4, y5, y6, y7, y8, H3004, H3304, H3404, H3704, hm⟩ := hI
  subst ha
  have b3 : b 3 = true := hn 3 (da rfl)
  have b7 : b 7 = true := hn 7 (da rfl)
  have b0 : b 0 = true := hc 3 _ rfl b3 0 (da rfl)
  have b2 : b 2 = true := hc 3 _ rfl b3 2 (da rfl)
  have b4 : b 4 = true := hc 7 _ rfl b7 4 (da rfl)
  have b6 : b 6 = true := hc 7 _ rfl b7 6 (da rfl)
  have b1 : b 1 = true := hc 2 _ rfl b2 1 (da rfl)
  have b5 : b 5 = true := hc 6 _ rfl b6 5 (da rfl)
  have b9 : b 9 = false := later (j := 9) hc rfl (i := 8) (da rfl) hbi
  have H3004 := H3004 b0
  have H3304 := H3304 b3
  have H3404 := H3404 b4
  have H3704 := H3704 b7
  have hm4025 : Mem w0 w (cat [sg g2048 28 (0, 0) [] [(.slice none 0 0), (.slice none 0 0)] [], sg g2042 28 (0, 0) [] [v0x0, v0x1] [], hF, p3303.2, p3703.2]) := Mem.pick [0, 1, 2, 4, 6] rfl (Mem.cg (B := [sg g2048 28 (0, 0) [] [(.slice none 0 0), (.slice none 0 0)] [], sg g2042 28 (0, 0) [] [v0x0, v0x1] [], hF, [], p3303.2, [], p3703.2]) (cat_cons (off_ b9 rfl) (cat_cons rfl (cat_cons rfl (cat_cons (on_ b3 rfl) (cat_cons (on_ b3 rfl) (cat_cons (on_ b7 rfl) (cat_cons (on_ b7 rfl) rfl))))))) hm)
  refine e_val (i := 8) hbi rfl rfl (v := (.agg #[p3303.1, p3703.1])) (won rfl) rfl rfl (x_build (cells := [p3303.1, p3703.1]) (zc := [.slice none 0 0, .slice none 0 0]) (sizes := [(0, 1), (1, 1)]) (ps := [(0, p3303.1), (1, p3703.1)]) rfl zt_28 rfl uf_28 ufz_28 (pmap_lit (pmap_cons (ev (t := 6) (v := p3303.1) rfl ((sel_on (p := (3, 6)) rfl b3).trans (y3 b3))) (pmap_cons (ev (t := 10) (v := p3703.1) rfl ((sel_on (p := (7, 10)) rfl b7).trans (y7 b7))) pmap_nil))) (fill_cons (cs := [p3303.1]) rfl (IsSl.cells (H3304).sl) rfl (fill_cons (cs := [p3703.1]) rfl (IsSl.cells (H3704).sl) rfl fill_nil))) ?_
  exact hK _ _ ⟨_, g3003, p3303, g3403, p3703, rfl, y0, y1, y2, y3, y4, y5, y6, y7, fun _ => rfl, fun _ => H3004, fun _ => H3304, fun _ => H3404, fun _ => H3704, Mem.gc (A := [sg g2048 28 (0, 0) [] [(.slice none 0 0), (.slice none 0 0)] [], sg g2042 28 (0, 0) [] [v0x0, v0x1] [], hF, [], p3303.2, [], p3703.2]) (cat_cons (off_ b9 rfl) (cat_cons rfl (cat_cons rfl (cat_cons (on_ b3 rfl) (cat_cons (on_ b3 rfl) (cat_cons (on_ b7 rfl) (cat_cons (on_ b7 rfl) rfl))))))) (Mem.pick [0, 1, 2, 1003, 3, 1005, 4] rfl hm4025)⟩
 ·
  intro b a w hI hbi hn hc K hK
  obtain ⟨vs, g3003, p3303, g3403, p3703, ha, y0, y1, y2, y3, y4, y5, y6, y7, y8, H3004, H3304, H3404, H3704, hm⟩ := hI
  subst ha
  have b0 : b 0 = true := hn 0 (da rfl)
  have b1 : b 1 = true := hn 1 (da rfl)
  have b2 : b 2 = true := hn 2 (da rfl)
  have b3 : b 3 = true := hn 3 (da rfl)
  have b4 : b 4 = true := hn 4 (da rfl)
  have b5 : b 5 = true := hn 5 (da rfl)
  have b6 : b 6 = true := hn 6 (da rfl)
  have b7 : b 7 = true := hn 7 (da rfl)
  have b8 : b 8 = true := hn 8 (da rfl)
  have H3004 := H3004 b0
  have H3304 := H3304 b3
  have H3404 := H3404 b4
  have H3704 := H3704 b7
  have hm4028 : Mem w0 w (cat [sg g2048 28 (0, 0) [] [(.slice none 0 0), (.slice none 0 0)] [], sg g2042 28 (0, 0) [] [v0x0, v0x1] [], hF, p3303.2, p3703.2]) := Mem.pick [0, 1, 2, 4, 6] rfl (Mem.cg (B := [sg g2048 28 (0, 0) [] [(.slice none 0 0), (.slice none 0 0)] [], sg g2042 28 (0, 0) [] [v0x0, v0x1] [], hF, [], p3303.2, [], p3703.2]) (cat_cons (off_ hbi rfl) (cat_cons rfl (cat_cons rfl (cat_cons (on_ b3 rfl) (cat_cons (on_ b3 rfl) (cat_cons (on_ b7 rfl) (cat_cons (on_ b7 rfl) rfl))))))) hm)
  refine e_exs (i := 9) hbi rfl (won rfl) rfl (e_store (vs := [p3303.1, p3703.1]) (o' := 0) (j := 0) rfl sz_28 (ev (t := 2) (v := (.pointer (some ⟨g2048, 0, none⟩))) rfl ((sel_no rfl).trans rfl)) (ev (t := 11) (v := (.agg #[p3303.1, p3703.1])) rfl ((sel_on (p := (8, 11)) rfl b8).trans (y8 b8))) rfl (one_cons (IsSl.one (H3304).sl) (one_cons (IsSl.one (H3704).sl) one_nil)) hm4028 (k := 0) rfl rfl rfl) ?_
  intro w3901 hm3902
  replace hm3902 : Mem w0 w3901 (cat [sg g2048 28 (0, 0) [] [p3303.1, p3703.1] [], sg g2042 28 (0, 0) [] [v0x0, v0x1] [], hF, p3303.2, p3703.2]) := hm3902
  exact hK _ _ ⟨_, g3003, p3303, g3403, p3703, rfl, y0, y1, y2, y3, y4, y5, y6, y7, y8, fun _ => H3004, fun _ => H3304, fun _ => H3404, fun _ => H3704, Mem.gc (A := [sg g2048 28 (0, 0) [] [p3303.1, p3703.1] [], sg g2042 28 (0, 0) [] [v0x0, v0x1] [], hF, [], p3303.2, [], p3703.2]) (cat_cons (on_ rfl rfl) (cat_cons rfl (cat_cons rfl (cat_cons (on_ b3 rfl) (cat_cons (on_ b3 rfl) (cat_cons (on_ b7 rfl) (cat_cons (on_ b7 rfl) rfl))))))) (Mem.pick [0, 1, 2, 1003, 3, 1005, 4] rfl hm3902)⟩
 intro b a w hall hI
 obtain ⟨vs, g3003, p3303, g3403, p3703, ha, y0, y1, y2, y3, y4, y5, y6, y7, y8, H3004, H3304, H3404, H3704, hm⟩ := hI
 have b0 : b 0 = true := hall 0 rfl
 have b1 : b 1 = true := hall 1 rfl
 have b2 : b 2 = true := hall 2 rfl
 have b3 : b 3 = true := hall 3 rfl
 have b4 : b 4 = true := hall 4 rfl
 have b5 : b 5 = true := hall 5 rfl
 have b6 : b 6 = true := hall 6 rfl
 have b7 : b 7 = true := hall 7 rfl
 have b8 : b 8 = true := hall 8 rfl
 have b9 : b 9 = true := hall 9 rfl
 replace H3004 := H3004 b0
 replace H3304 := H3304 b3
 replace H3404 := H3404 b4
 replace H3704 := H3704 b7
 have hm4031 : Mem w0 w (cat [sg g2048 28 (0, 0) [] [p3303.1, p3703.1] [], sg g2042 28 (0, 0) [] [v0x0, v0x1] [], hF, p3303.2, p3703.2]) := Mem.pick [0, 1, 2, 4, 6] rfl (Mem.cg (B := [sg g2048 28 (0, 0) [] [p3303.1, p3703.1] [], sg g2042 28 (0, 0) [] [v0x0, v0x1] [], hF, [], p3303.2, [], p3703.2]) (cat_cons (on_ b9 rfl) (cat_cons rfl (cat_cons rfl (cat_cons (on_ b3 rfl) (cat_cons (on_ b3 rfl) (cat_cons (on_ b7 rfl) (cat_cons (on_ b7 rfl) rfl))))))) hm)
 obtain ⟨f3000, ha', z3000x2⟩ : ∃ f' : Nat → Value, a = fr 12 f' ∧ f' 2 = (.pointer (some ⟨g2048, 0, none⟩)) := ⟨_, ha, (sel_no rfl).trans rfl⟩
 subst ha'
 have hm4041 : Mem w0 w (cat [sg g2048 28 (0, 0) [] [p3303.1, p3703.1] [], hF, p3303.2, p3703.2]) := Mem.pick [0, 2, 3, 4] rfl hm4031
 refine nx ?_
 refine wp_ret ?_
 obtain rfl := Option.some.inj he
 refine r_ret (v := (.agg #[p3303.1, p3703.1])) (rv_one rfl (RVs.cell (cs := [p3303.1, p3703.1]) rfl z3000x2 tyN_28 (seg_cells (o' := 0) (j := 0) hm4041 (k := 0) rfl rfl rfl) RVs.nil)) rfl ?_
 exact ⟨p3303.1, p3303.2, p3703.1, p3703.2, rfl, H3304, H3704, Mem.pick [2, 3, 1] rfl hm4041⟩
def slices_Delete___int_int_ (a0 : (List Int)) (a1 : Int) (a2 : Int) : Option ((List Int)) := gd ((0 : Int) ≤ a1 ∧ a1 ≤ a2 ∧ a2 ≤ (a0.length : Int) ∧ (a0.length : Int) ≤ (a0.length : Int)) ((bif (decide (a1 = a2)) then (some a0) else gd ((0 : Int) ≤ a1 ∧ a1 ≤ (a0.length : Int)) (gd ((0 : Int) ≤ a2 ∧ a2 ≤ (a0.length : Int)) (gd ((slc a0 0 (Int.toNat a1)).length + (slc a0 (Int.toNat a2) a0.length).length ≤ a0.length) (gd ((0 : Int) ≤ (((slc a0 0 (Int.toNat a1)) ++ (slc a0 (Int.toNat a2) a0.length)).length : Int) ∧ (((slc a0 0 (Int.toNat a1)) ++ (slc a0 (Int.toNat a2) a0.length)).length : Int) ≤ (a0.length : Int) ∧ (a0.length : Int) ≤ (a0.length : Int)) ((some ((slc a0 0 (Int.toNat a1)) ++ (slc a0 (Int.toNat a2) a0.length)))))))))
set_option maxHeartbeats 400000 in
set_option maxRecDepth 100000 in
theorem slices_Delete___int_int__ok {w0 w : World} {hR hF : Hp} {v0x0 : Value} {h0x0 : Hp} (a0 : (List Int)) (a1 : Int) (a2 : Int) {r : ((List Int))} (H0x0 : OwF 3 (FK.int .i64) v0x0 a0 h0x0) (hm : Mem w0 w (cat [h0x0, hF])) (he : slices_Delete___int_int_ a0 a1 a2 = some r) :
    Calls Try.prog 95 #[v0x0, (.int .i64 a1), (.int .i64 a2)] w (fun e w' => ∃ (v'0 : Value) (h'0 : Hp), e = .returned v'0 ∧ OwF 3 (FK.int .i64) v'0 r h'0 ∧ Mem w0 w' (cat [h'0, hF])) := by
 refine calls_fr (n := 33) Try.func95 rfl rfl rfl ?_
 unfold slices_Delete___int_int_ at he
 refine wp_seq ?_
 refine wp_region_lit ?_
 refine s_val (v := (.slice none 0 0)) (won rfl) rfl rfl (x_assign rfl rfl) ?_
 refine wpList_nil ?_
 refine nx ?_
 refine wp_seq ?_
 obtain ⟨hg34, he⟩ := gdE he
 refine wp_region_lit ?_
 refine s_val (v := v0x0) (won rfl) rfl rfl (x_move rfl (ev (t := 0) rfl rfl)) ?_
 refine s_val (v := (.int .i64 a1)) (won rfl) rfl rfl (x_move rfl (ev (t := 1) rfl rfl)) ?_
 refine s_val (v := (.int .i64 a2)) (won rfl) rfl rfl (x_move rfl (ev (t := 2) rfl rfl)) ?_
 refine s_val (v := v0x0) (won rfl) rfl rfl (x_move rfl (ev (t := 0) rfl rfl)) ?_
 refine s_val (v := (.int .i64 (a0.length : Int))) (won rfl) rfl rfl (x_len rfl slt_26 (ev (t := 11) rfl rfl) (H0x0).sl) ?_
 refine s_exv (val := fun u => u) (won rfl) rfl rfl (x_slice3 rfl slt_26 (ev (t := 8) rfl rfl) (ev (t := 9) rfl rfl) (ev (t := 10) rfl rfl) (ev (t := 12) rfl rfl) (H0x0).sl hg34.1 hg34.2.1 hg34.2.2.1 hg34.2.2.2) ?_
 rintro u35 _ rfl
 refine wpList_nil ?_
 refine nx ?_
 refine wp_seq ?_
 refine wp_seq ?_
 refine wp_region_lit ?_
 refine s_val (v := (.int .i64 a1)) (won rfl) rfl rfl (x_move rfl (ev (t := 1) rfl rfl)) ?_
 refine s_val (v := (.int .i64 a2)) (won rfl) rfl rfl (x_move rfl (ev (t := 2) rfl rfl)) ?_
 refine s_val (v := (.bool (decide (a1 = a2)))) (won rfl) rfl rfl (x_eql rfl (ev (t := 14) rfl rfl) (ev (t := 15) rfl rfl)) ?_
 refine wpList_nil ?_
 refine nx ?_
 rcases Bool.eq_false_or_eq_true ((decide (a1 = a2))) with hb37 | hb37
 ·
  replace he := bifT he hb37
  refine c_true rfl (p := (decide (a1 = a2))) rfl rfl hb37 ?_
  refine wp_seq ?_
  refine wp_region_lit ?_
  refine s_val (v := v0x0) (won rfl) rfl rfl (x_move rfl (ev (t := 0) rfl rfl)) ?_
  refine s_val (v := v0x0) (won rfl) rfl rfl (x_assign rfl (ev (t := 17) rfl rfl)) ?_
  refine wpList_nil ?_
  refine nx ?_
  refine wp_ret ?_
  refine xr ?_
  obtain rfl := Option.some.inj he
  refine r_ret (v := v0x0) (rv_one rfl (RVs.tmp (v := v0x0) rfl rfl RVs.nil)) rfl ?_
  exact ⟨v0x0, h0x0, rfl, H0x0, Mem.pick [0, 1] rfl hm⟩
 ·
  replace he := bifF he hb37
  refine c_false rfl (p := (decide (a1 = a2))) rfl rfl hb37 ?_
  refine wp_skip ?_
  refine nx ?_
  refine wp_seq ?_
  refine wp_region_lit ?_
  refine s_val (v := v0x0) (won rfl) rfl rfl (x_move rfl (ev (t := 0) rfl rfl)) ?_
  refine s_val (v := (.int .i64 (a0.length : Int))) (won rfl) rfl rfl (x_len rfl slt_26 (ev (t := 18) rfl rfl) (H0x0).sl) ?_
  refine s_val (v := (.int .i64 (a0.length : Int))) (won rfl) rfl rfl (x_assign rfl (ev (t := 19) rfl rfl)) ?_
  refine wpList_nil ?_
  refine nx ?_
  refine wp_seq ?_
  obtain ⟨hg39, he⟩ := gdE he
  obtain ⟨hg41, he⟩ := gdE he
  obtain ⟨hg43, he⟩ := gdE he
  refine wp_fit [(0, 1), (1, 1), (2, 1), (3, 1), (4, 1), (5, 1), (6, 2), (7, 1)] (fun w' => Mem w0 w' (cat [hF])) mixed (by kernel_rfl) (Mem.drew (Mem.pick [1] rfl hm)) ?_
  have hm38 := Mem.drew hm
  refine z_r (v := v0x0) rfl (won rfl) rfl rfl ((x_move rfl (ev (t := 0) rfl rfl))) ?_
  refine z_r (v := (.int .i64 a1)) rfl (won rfl) rfl rfl ((x_move rfl (ev (t := 1) rfl rfl))) ?_
  refine z_r (v := (cutV v0x0 0 (Int.toNat a1) 1)) rfl (won rfl) rfl rfl ((y_slice_h rfl slt_26 (ev (t := 20) rfl rfl) (ev (t := 21) rfl rfl) (H0x0).sl hg39.1 hg39.2)) ?_
  refine z_r (v := v0x0) rfl (won rfl) rfl rfl ((x_move rfl (ev (t := 0) rfl rfl))) ?_
  refine z_r (v := (.int .i64 a2)) rfl (won rfl) rfl rfl ((x_move rfl (ev (t := 2) rfl rfl))) ?_
  refine z_r (v := (cutV v0x0 (Int.toNat a2) a0.length 1)) rfl (won rfl) rfl rfl ((y_slice_l rfl slt_26 (ev (t := 23) rfl rfl) (ev (t := 24) rfl rfl) (H0x0).sl hg41.1 hg41.2)) ?_
  refine z_exv rfl (won rfl) rfl rfl (e_append_room rfl slt_26 (ev (t := 22) rfl rfl) (ev (t := 25) rfl rfl) (OwR.cut0 (b := (Int.toNat a1)) (OwF.room H0x0) (by have := hg39; omega)) (k := 0) rfl (cutV_rd (a := (Int.toNat a2)) (b := a0.length) (H0x0.rd w0) (by have := hg41; omega) (Nat.le_refl _)) (Sub.at_ (k := 0) rfl) hm38 hg43) ?_
  rintro p46 w48 ⟨H47, hm49⟩
  replace hm49 : Mem w0 w48 (cat [p46.2, hF]) := hm49
  have H44 := H47.own
  refine ⟨Mem.pick [1] rfl hm49, ?_⟩
  refine z_r (v := p46.1) rfl (won rfl) rfl rfl ((x_assign rfl (ev (t := 26) rfl rfl))) ?_
  refine z_nil ?_
  refine nx ?_
  refine wp_seq ?_
  obtain ⟨hg50, he⟩ := gdE he
  refine wp_region_lit ?_
  refine s_val (v := p46.1) (won rfl) rfl rfl (x_move rfl (ev (t := 0) rfl rfl)) ?_
  refine s_val (v := p46.1) (won rfl) rfl rfl (x_move rfl (ev (t := 0) rfl rfl)) ?_
  refine s_val (v := (.int .i64 (((slc a0 0 (Int.toNat a1)) ++ (slc a0 (Int.toNat a2) a0.length)).length : Int))) (won rfl) rfl rfl (x_len rfl slt_26 (ev (t := 28) rfl rfl) (H44).sl) ?_
  refine s_val (v := (.int .i64 (a0.length : Int))) (won rfl) rfl rfl (x_move rfl (ev (t := 7) rfl rfl)) ?_
  refine s_val (v := (cutV p46.1 (Int.toNat (((slc a0 0 (Int.toNat a1)) ++ (slc a0 (Int.toNat a2) a0.length)).length : Int)) (Int.toNat (a0.length : Int)) 1)) (won rfl) rfl rfl (x_slice_spare rfl slt_26 (ev (t := 27) rfl rfl) (ev (t := 29) rfl rfl) (ev (t := 30) rfl rfl) H47 hg50.1 hg50.2.1 hg50.2.2) ?_
  refine s_vw (won rfl) rfl (e_clear_spare (d := (FK.int .i64)) (zc := [.int .i64 0]) (a := (Int.toNat (((slc a0 0 (Int.toNat a1)) ++ (slc a0 (Int.toNat a2) a0.length)).length : Int))) (b := (Int.toNat (a0.length : Int))) rfl rfl slt_26 rfl rfl rfl (ev (t := 31) rfl rfl) H47 (Int.toNat_natCast _) (by have := hg50; omega) (by have := hg50; omega) (k := 0) rfl hm49) ?_
  rintro h51 w54 ⟨H52, hm55⟩
  have H53 := H52.own
  replace hm55 : Mem w0 w54 (cat [h51, hF]) := hm55
  refine wpList_nil ?_
  refine nx ?_
  refine wp_seq ?_
  refine wp_region_lit ?_
  refine s_val (v := p46.1) (won rfl) rfl rfl (x_move rfl (ev (t := 0) rfl rfl)) ?_
  refine s_val (v := p46.1) (won rfl) rfl rfl (x_assign rfl (ev (t := 32) rfl rfl)) ?_
  refine wpList_nil ?_
  refine nx ?_
  refine wp_ret ?_
  obtain rfl := Option.some.inj he
  refine r_ret (v := p46.1) (rv_one rfl (RVs.tmp (v := p46.1) rfl rfl RVs.nil)) rfl ?_
  exact ⟨p46.1, h51, rfl, H53, Mem.pick [0, 1] rfl hm55⟩
def impl_Pool_take (a0 : impl_Pool) (a1 : Int) : Option (impl_PoolReply × impl_Pool) := (bif (decide ((a0.Free.length : Int) = 0)) then (some ((impl_PoolReply.mk 7 0), a0)) else gd ((0 : Int) ≤ 0 ∧ 0 < (a0.Free.length : Int)) ((slices_Delete___int_int_ a0.Free 0 1).bind fun r71 => gd ((0 : Int) ≤ (ix a0.Free 0) ∧ (ix a0.Free 0) < (a0.Owner.length : Int)) ((some ((impl_PoolReply.mk 0 (ix a0.Free 0)), (impl_Pool.mk r71 (List.set a0.Owner (Int.toNat (ix a0.Free 0)) a1)))))))
set_option maxHeartbeats 400000 in
set_option maxRecDepth 100000 in
theorem impl_Pool_take_ok {w0 w : World} {hR hF : Hp} {v0x0 : Value} {h0x0 : Hp} {v0x1 : Value} {h0x1 : Hp} {g0 T0 o0 : Nat} {fr0 : Nat × Nat} {pre0 post0 : List Value} (a0 : impl_Pool) (a1 : Int) {r : (impl_PoolReply × impl_Pool)} (H0x0 : OwF 3 (FK.int .i64) v0x0 a0.Free h0x0) (H0x1 : OwF 3 (FK.int .i64) v0x1 a0.Owner h0x1) (hp0 : pre0.length = o0) (hm : Mem w0 w (cat [sg g0 T0 fr0 pre0 [v0x0, v0x1] post0, h0x0, h0x1, hF])) (he : impl_Pool_take a0 a1 = some r) :
    Calls Try.prog 85 #[(.pointer (some ⟨g0, o0, none⟩)), (.int .i64 a1)] w (fun e w' => ∃ (v'0 : Value) (h'0 : Hp) (v'1 : Value) (h'1 : Hp), e = .returned (.agg #[(.int .i64 r.1.Code), (.int .i64 r.1.Buffer)]) ∧ OwF 3 (FK.int .i64) v'0 r.2.Free h'0 ∧ OwF 3 (FK.int .i64) v'1 r.2.Owner h'1 ∧ Mem w0 w' (cat [sg g0 T0 fr0 pre0 [v'0, v'1] post0, h'0, h'1, hF])) := by
 refine calls_fr (n := 36) Try.func85 rfl rfl rfl ?_
 unfold impl_Pool_take at he
 refine wp_seq ?_
 refine wp_region_lit ?_
 refine s_exv (won rfl) rfl rfl (e_alloc (vs := [(.int .i64 0), (.int .i64 0)]) rfl zt_35 rfl hm) ?_
 rintro g60 w61 hm62
 refine wpList_nil ?_
 refine nx ?_
 refine wp_seq ?_
 refine wp_seq ?_
 refine wp_region_lit ?_
 refine s_val (v := (.pointer (some ⟨g0, o0, none⟩))) (won rfl) rfl rfl (x_move rfl (ev (t := 0) rfl rfl)) ?_
 refine s_val (v := (.pointer (some ⟨g0, o0, none⟩))) (won rfl) rfl rfl (x_nil rfl (ev (t := 6) rfl rfl)) ?_
 refine s_val (v := (.pointer (some ⟨g0, o0, none⟩))) (won rfl) rfl rfl (x_field rfl fa_28x0 (ev (t := 7) rfl rfl)) ?_
 refine s_val (v := v0x0) (won rfl) rfl rfl (x_load rfl ty1x26 (ev (t := 8) rfl rfl) (seg_cell (o' := o0) (j := 0) hm62 (k := 1) rfl hp0 rfl)) ?_
 refine s_val (v := (.int .i64 (a0.Free.length : Int))) (won rfl) rfl rfl (x_len rfl slt_26 (ev (t := 9) rfl rfl) (H0x0).sl) ?_
 refine s_val (v := (.bool (decide ((a0.Free.length : Int) = 0)))) (won rfl) rfl rfl (x_eql rfl (ev (t := 10) rfl rfl) rfl) ?_
 refine wpList_nil ?_
 refine nx ?_
 rcases Bool.eq_false_or_eq_true ((decide ((a0.Free.length : Int) = 0))) with hb67 | hb67
 ·
  replace he := bifT he hb67
  refine c_true rfl (p := (decide ((a0.Free.length : Int) = 0))) rfl rfl hb67 ?_
  refine wp_seq ?_
  refine wp_region_lit ?_
  refine s_val (v := (.agg #[(.int .i64 7), (.int .i64 0)])) (won rfl) rfl rfl (x_build (cells := [(.int .i64 7), (.int .i64 0)]) (zc := [.int .i64 0, .int .i64 0]) (sizes := [(0, 1), (1, 1)]) (ps := [(0, (.int .i64 7))]) rfl zt_35 rfl uf_35 ufz_35 (pmap_lit (pmap_cons rfl pmap_nil)) (fill_cons (cs := [(.int .i64 7)]) rfl rfl rfl fill_nil)) ?_
  refine s_exs (won rfl) rfl (e_store (vs := [(.int .i64 7), (.int .i64 0)]) (o' := 0) (j := 0) rfl sz_35 (ev (t := 4) rfl rfl) (ev (t := 12) rfl rfl) rfl rfl hm62 (k := 0) rfl rfl rfl) ?_
  intro w68 hm69
  replace hm69 : Mem w0 w68 (cat [sg g60 35 (0, 0) [] [(.int .i64 7), (.int .i64 0)] [], sg g0 T0 fr0 pre0 [v0x0, v0x1] post0, h0x0, h0x1, hF]) := hm69
  refine wpList_nil ?_
  refine nx ?_
  refine wp_ret ?_
  refine xr ?_
  obtain rfl := Option.some.inj he
  refine r_ret (v := (.agg #[(.int .i64 7), (.int .i64 0)])) (rv_one rfl (RVs.cell (cs := [(.int .i64 7), (.int .i64 0)]) rfl rfl tyN_35 (seg_cells (o' := 0) (j := 0) hm69 (k := 0) rfl rfl rfl) RVs.nil)) rfl ?_
  exact ⟨v0x0, h0x0, v0x1, h0x1, rfl, H0x0, H0x1, Mem.pick [1, 2, 3, 4] rfl hm69⟩
 ·
  replace he := bifF he hb67
  refine c_false rfl (p := (decide ((a0.Free.length : Int) = 0))) rfl rfl hb67 ?_
  refine wp_skip ?_
  refine nx ?_
  refine wp_seq ?_
  obtain ⟨hg70, he⟩ := gdE he
  refine wp_region_lit ?_
  refine s_val (v := (.pointer (some ⟨g0, o0, none⟩))) (won rfl) rfl rfl (x_move rfl (ev (t := 0) rfl rfl)) ?_
  refine s_val (v := (.pointer (some ⟨g0, o0, none⟩))) (won rfl) rfl rfl (x_nil rfl (ev (t := 13) rfl rfl)) ?_
  refine s_val (v := (.pointer (some ⟨g0, o0, none⟩))) (won rfl) rfl rfl (x_field rfl fa_28x0 (ev (t := 14) rfl rfl)) ?_
  refine s_val (v := v0x0) (won rfl) rfl rfl (x_load rfl ty1x26 (ev (t := 15) rfl rfl) (seg_cell (o' := o0) (j := 0) hm62 (k := 1) rfl hp0 rfl)) ?_
  refine s_val (v := (.pointer (some ((slA v0x0).add (Int.toNat 0 * 1))))) (won rfl) rfl rfl (x_index (d := (FK.int .i64)) rfl slt_26 (ev (t := 16) rfl rfl) rfl (H0x0.rd w0) hg70.1 hg70.2) ?_
  refine s_val (v := (.int .i64 (ix a0.Free 0))) (won rfl) rfl rfl (x_load rfl ty1x3 (ev (t := 17) rfl rfl) (RdF.cell0 (H0x0.rd w0) hm62 (Sub.at_ (k := 2) rfl) hg70.1 hg70.2 rfl)) ?_
  refine s_val (v := (.int .i64 (ix a0.Free 0))) (won rfl) rfl rfl (x_assign rfl (ev (t := 18) rfl rfl)) ?_
  refine wpList_nil ?_
  refine nx ?_
  refine wp_seq ?_
  obtain ⟨r71, hr71, he⟩ := bindE he
  refine wp_region_lit ?_
  refine s_val (v := (.pointer (some ⟨g0, o0, none⟩))) (won rfl) rfl rfl (x_move rfl (ev (t := 0) rfl rfl)) ?_
  refine s_val (v := (.pointer (some ⟨g0, o0, none⟩))) (won rfl) rfl rfl (x_move rfl (ev (t := 0) rfl rfl)) ?_
  refine s_val (v := (.pointer (some ⟨g0, o0, none⟩))) (won rfl) rfl rfl (x_nil rfl (ev (t := 20) rfl rfl)) ?_
  refine s_val (v := (.pointer (some ⟨g0, o0, none⟩))) (won rfl) rfl rfl (x_field rfl fa_28x0 (ev (t := 21) rfl rfl)) ?_
  refine s_val (v := v0x0) (won rfl) rfl rfl (x_load rfl ty1x26 (ev (t := 22) rfl rfl) (seg_cell (o' := o0) (j := 0) hm62 (k := 1) rfl hp0 rfl)) ?_
  refine s_call (won rfl) rfl rfl (x_call rfl rfl cl_95 (map_lit (map_cons (ev (t := 23) rfl rfl) (map_cons rfl (map_cons rfl map_nil))))) (slices_Delete___int_int__ok (hR := (cat [])) (hF := cat [sg g60 35 (0, 0) [] [(.int .i64 0), (.int .i64 0)] [], sg g0 T0 fr0 pre0 [v0x0, v0x1] post0, h0x1, hF]) a0.Free 0 1 H0x0 (Mem.grp [h0x0] [sg g60 35 (0, 0) [] [(.int .i64 0), (.int .i64 0)] [], sg g0 T0 fr0 pre0 [v0x0, v0x1] post0, h0x1, hF] (Mem.pick [2, 0, 1, 3, 4] rfl hm62)) hr71) ?_
  rintro e w76 ⟨v73, h75, rfl, H74, hm77⟩
  refine ⟨_, rfl, ?_⟩
  replace hm77 : Mem w0 w76 (cat [h75, sg g60 35 (0, 0) [] [(.int .i64 0), (.int .i64 0)] [], sg g0 T0 fr0 pre0 [v0x0, v0x1] post0, h0x1, hF]) := Mem.ung [h75] [sg g60 35 (0, 0) [] [(.int .i64 0), (.int .i64 0)] [], sg g0 T0 fr0 pre0 [v0x0, v0x1] post0, h0x1, hF] hm77
  refine s_val (v := (.pointer (some ⟨g0, o0, none⟩))) (won rfl) rfl rfl (x_nil rfl (ev (t := 19) rfl rfl)) ?_
  refine s_val (v := (.pointer (some ⟨g0, o0, none⟩))) (won rfl) rfl rfl (x_field rfl fa_28x0 (ev (t := 25) rfl rfl)) ?_
  refine s_exs (won rfl) rfl (e_store (vs := [v73]) (o' := o0) (j := 0) rfl sz_26 (ev (t := 26) rfl rfl) (ev (t := 24) rfl rfl) (IsSl.cells (H74).sl) (one_cons (IsSl.one (H74).sl) one_nil) hm77 (k := 2) rfl hp0 rfl) ?_
  intro w78 hm79
  replace hm79 : Mem w0 w78 (cat [h75, sg g60 35 (0, 0) [] [(.int .i64 0), (.int .i64 0)] [], sg g0 T0 fr0 pre0 [v73, v0x1] post0, h0x1, hF]) := hm79
  refine wpList_nil ?_
  refine nx ?_
  refine wp_seq ?_
  obtain ⟨hg80, he⟩ := gdE he
  refine wp_region_lit ?_
  refine s_val (v := (.pointer (some ⟨g0, o0, none⟩))) (won rfl) rfl rfl (x_move rfl (ev (t := 0) rfl rfl)) ?_
  refine s_val (v := (.pointer (some ⟨g0, o0, none⟩))) (won rfl) rfl rfl (x_nil rfl (ev (t := 27) rfl rfl)) ?_
  refine s_val (v := (.pointer (some ⟨g0, o0 + 1, none⟩))) (won rfl) rfl rfl (x_field rfl fa_28x1 (ev (t := 28) rfl rfl)) ?_
  refine s_val (v := v0x1) (won rfl) rfl rfl (x_load rfl ty1x26 (ev (t := 29) rfl rfl) (seg_cell (o' := o0) (j := 1) hm79 (k := 2) rfl hp0 rfl)) ?_
  refine s_val (v := (.int .i64 (ix a0.Free 0))) (won rfl) rfl rfl (x_move rfl (ev (t := 5) rfl rfl)) ?_
  refine s_val (v := (.int .i64 a1)) (won rfl) rfl rfl (x_move rfl (ev (t := 1) rfl rfl)) ?_
  refine s_val (v := (.pointer (some ((slA v0x1).add (Int.toNat (ix a0.Free 0) * 1))))) (won rfl) rfl rfl (x_index (d := (FK.int .i64)) rfl slt_26 (ev (t := 30) rfl rfl) (ev (t := 31) rfl rfl) (H0x1.rd w0) hg80.1 hg80.2) ?_
  refine s_exw (won rfl) rfl (e_storeF (d := (FK.int .i64)) (s := a1) (vs := [(.int .i64 a1)]) (j := 0) rfl sz_3 (ev (t := 33) rfl rfl) (add_0 _).symm (ev (t := 32) rfl rfl) rfl rfl H0x1 hg80.1 hg80.2 rfl rfl hm79 (k := 3) rfl) ?_
  rintro h81 w83 ⟨H82, hm84⟩
  replace hm84 : Mem w0 w83 (cat [h75, sg g60 35 (0, 0) [] [(.int .i64 0), (.int .i64 0)] [], sg g0 T0 fr0 pre0 [v73, v0x1] post0, h81, hF]) := hm84
  refine wpList_nil ?_
  refine nx ?_
  refine wp_seq ?_
  refine wp_region_lit ?_
  refine s_val (v := (.int .i64 (ix a0.Free 0))) (won rfl) rfl rfl (x_move rfl (ev (t := 5) rfl rfl)) ?_
  refine s_val (v := (.agg #[(.int .i64 0), (.int .i64 (ix a0.Free 0))])) (won rfl) rfl rfl (x_build (cells := [(.int .i64 0), (.int .i64 (ix a0.Free 0))]) (zc := [.int .i64 0, .int .i64 0]) (sizes := [(0, 1), (1, 1)]) (ps := [(1, (.int .i64 (ix a0.Free 0)))]) rfl zt_35 rfl uf_35 ufz_35 (pmap_lit (pmap_cons (ev (t := 34) rfl rfl) pmap_nil)) (fill_cons (cs := [(.int .i64 (ix a0.Free 0))]) rfl rfl rfl fill_nil)) ?_
  refine s_exs (won rfl) rfl (e_store (vs := [(.int .i64 0), (.int .i64 (ix a0.Free 0))]) (o' := 0) (j := 0) rfl sz_35 (ev (t := 4) rfl rfl) (ev (t := 35) rfl rfl) rfl rfl hm84 (k := 1) rfl rfl rfl) ?_
  intro w85 hm86
  replace hm86 : Mem w0 w85 (cat [h75, sg g60 35 (0, 0) [] [(.int .i64 0), (.int .i64 (ix a0.Free 0))] [], sg g0 T0 fr0 pre0 [v73, v0x1] post0, h81, hF]) := hm86
  refine wpList_nil ?_
  refine nx ?_
  refine wp_ret ?_
  obtain rfl := Option.some.inj he
  refine r_ret (v := (.agg #[(.int .i64 0), (.int .i64 (ix a0.Free 0))])) (rv_one rfl (RVs.cell (cs := [(.int .i64 0), (.int .i64 (ix a0.Free 0))]) rfl rfl tyN_35 (seg_cells (o' := 0) (j := 0) hm86 (k := 1) rfl rfl rfl) RVs.nil)) rfl ?_
  exact ⟨v73, h75, v0x1, h81, rfl, H74, H82, Mem.pick [2, 0, 3, 4] rfl hm86⟩
def impl_Pool_held_l1 (F : Nat) (a0 : impl_Pool) (a1 : Int) : Nat → (List Int) → Int → Option ((List Int))
  | 0, _, _ => none
  | k + 1, s756, s763 => (bif (decide (s763 < (a0.Owner.length : Int))) then (gd ((0 : Int) ≤ s763 ∧ s763 < (a0.Owner.length : Int)) ((bif (decide ((ix a0.Owner s763) = a1)) then gd ((s756.length + ([s763] : List Int).length) * 8 ≤ 140737488355328) ((some (s756 ++ ([s763] : List Int)))) else (some s756))) : Option ((List Int))).bind fun (s840 : ((List Int))) => impl_Pool_held_l1 F a0 a1 k s840 (IntKind.wrap .i64 (s763 + 1)) else (some s756))
def impl_Pool_held (F : Nat) (a0 : impl_Pool) (a1 : Int) : Option ((List Int)) := (impl_Pool_held_l1 F a0 a1 F ([] : List Int) 0 : Option ((List Int))).bind fun (s649 : ((List Int))) => (some s649)
set_option maxHeartbeats 400000 in
set_option maxRecDepth 100000 in
theorem impl_Pool_held_ok (F : Nat) {w0 w : World} {hR hF : Hp} {v0x0 : Value} {v0x1 : Value} {g0 T0 o0 : Nat} {fr0 : Nat × Nat} {pre0 post0 : List Value} (a0 : impl_Pool) (a1 : Int) {r : ((List Int))} (H0x0 : RdF w0 (FK.int .i64) v0x0 a0.Free hR) (H0x1 : RdF w0 (FK.int .i64) v0x1 a0.Owner hR) (hs : Sub hR hF) (hp0 : pre0.length = o0) (hm : Mem w0 w (cat [sg g0 T0 fr0 pre0 [v0x0, v0x1] post0, hF])) (he : impl_Pool_held F a0 a1 = some r) :
    Calls Try.prog 65 #[(.pointer (some ⟨g0, o0, none⟩)), (.int .i64 a1)] w (fun e w' => ∃ (v'0 : Value) (h'0 : Hp), e = .returned v'0 ∧ OwF 3 (FK.int .i64) v'0 r h'0 ∧ Mem w0 w' (cat [sg g0 T0 fr0 pre0 [v0x0, v0x1] post0, h'0, hF])) := by
 refine calls_fr (n := 28) Try.func65 rfl rfl rfl ?_
 unfold impl_Pool_held at he
 refine wp_seq ?_
 refine wp_region_lit ?_
 refine s_val (v := (.slice none 0 0)) (won rfl) rfl rfl (x_assign rfl rfl) ?_
 refine wpList_nil ?_
 refine nx ?_
 refine wp_seq ?_
 refine wp_region_lit ?_
 refine s_exv (won rfl) rfl rfl (e_litp (cells := []) (ps := []) rfl slt_26 (pmap_lit pmap_nil) (fun w1 => run_bslice0 slt_26) hm) ?_
 rintro g434 w432 hm433
 have H435 : OwF 3 (FK.int .i64) (.slice (some ⟨g434, 0, none⟩) 0 0) ([] : List Int) (sg g434 3 (0, 0) [] (encs (FK.int .i64) ([] : List Int)) []) := OwF.lit g434 ([] : List Int) 0 rfl (by decide)
 replace hm433 : Mem w0 w432 (cat [(sg g434 3 (0, 0) [] (encs (FK.int .i64) ([] : List Int)) []), sg g0 T0 fr0 pre0 [v0x0, v0x1] post0, hF]) := hm433
 refine s_val (v := (.slice (some ⟨g434, 0, none⟩) 0 0)) (won rfl) rfl rfl (x_assign rfl (ev (t := 8) rfl rfl)) ?_
 refine wpList_nil ?_
 refine nx ?_
 obtain ⟨s649, hT651, hk650⟩ := bindE he
 replace he := hT651
 refine wp_seqJ (fun a w => ∃ (v645 : Value) (h646 : Hp) (f : Nat → Value), a = fr 28 f ∧ f 5 = v645 ∧ OwF 3 (FK.int .i64) v645 s649 h646 ∧ Mem w0 w (cat [sg g0 T0 fr0 pre0 [v0x0, v0x1] post0, h646, hF])) ?_ ?_
 ·
  refine wp_seq ?_
  refine wp_region_lit ?_
  refine s_val (v := (.pointer (some ⟨g0, o0, none⟩))) (won rfl) rfl rfl (x_move rfl (ev (t := 0) rfl rfl)) ?_
  refine s_val (v := (.pointer (some ⟨g0, o0, none⟩))) (won rfl) rfl rfl (x_nil rfl (ev (t := 9) rfl rfl)) ?_
  refine s_val (v := (.pointer (some ⟨g0, o0 + 1, none⟩))) (won rfl) rfl rfl (x_field rfl fa_28x1 (ev (t := 10) rfl rfl)) ?_
  refine s_val (v := v0x1) (won rfl) rfl rfl (x_load rfl ty1x26 (ev (t := 11) rfl rfl) (seg_cell (o' := o0) (j := 1) hm433 (k := 1) rfl hp0 rfl)) ?_
  refine s_val (v := (.int .i64 (a0.Owner.length : Int))) (won rfl) rfl rfl (x_len rfl slt_26 (ev (t := 12) rfl rfl) (H0x1).sl) ?_
  refine s_val (v := (.int .i64 0)) (won rfl) rfl rfl (x_move rfl rfl) ?_
  refine wpList_nil ?_
  refine nx ?_
  refine wp_block ?_
  refine wp_fuel (I := fun k => fun a w => ∃ (s756 : (List Int)) (s763 : Int) (v757 : Value) (h758 : Hp) (f : Nat → Value), impl_Pool_held_l1 F a0 a1 k s756 s763 = some s649 ∧ a = fr 28 f ∧ f 1 = (.int .i64 a1) ∧ f 5 = v757 ∧ f 12 = v0x1 ∧ f 13 = (.int .i64 (a0.Owner.length : Int)) ∧ f 14 = (.int .i64 s763) ∧ OwF 3 (FK.int .i64) v757 s756 h758 ∧ Mem w0 w (cat [sg g0 T0 fr0 pre0 [v0x0, v0x1] post0, h758, hF])) F _ _ ⟨([] : List Int), 0, (.slice (some ⟨g434, 0, none⟩) 0 0), (sg g434 3 (0, 0) [] (encs (FK.int .i64) ([] : List Int)) []), _, he, rfl, rfl, rfl, rfl, rfl, rfl, H435, Mem.pick [1, 0, 2] rfl hm433⟩ ?_ ?_
  ·
   rintro a w ⟨s756, s763, v757, h758, f, he, rfl, q755, q760, q761, q762, q764, H759, hm811⟩
   rw [impl_Pool_held_l1] at he; exact none_no he
  ·
   rintro k a w ⟨s756, s763, v757, h758, f, he, rfl, q755, q760, q761, q762, q764, H759, hm813⟩
   rw [impl_Pool_held_l1] at he
   refine wp_seq ?_
   refine wp_region_lit ?_
   refine s_val (v := (.bool (decide (s763 < (a0.Owner.length : Int))))) (won rfl) rfl rfl (x_lss rfl (ev (t := 14) (v := (.int .i64 s763)) rfl q764) (ev (t := 13) (v := (.int .i64 (a0.Owner.length : Int))) rfl q762)) ?_
   refine wpList_nil ?_
   refine nx ?_
   refine wp_seq ?_
   rcases Bool.eq_false_or_eq_true ((decide (s763 < (a0.Owner.length : Int)))) with hb815 | hb815
   ·
    replace he := bifT he hb815
    refine c_true rfl (p := (decide (s763 < (a0.Owner.length : Int)))) rfl rfl hb815 ?_
    refine wp_skip ?_
    refine nx ?_
    obtain ⟨s840, hT842, hk841⟩ := bindE he
    replace he := hT842
    refine wp_seqJ (fun a w => ∃ (v833 : Value) (h834 : Hp) (f : Nat → Value), a = fr 28 f ∧ f 1 = (.int .i64 a1) ∧ f 5 = v833 ∧ f 12 = v0x1 ∧ f 13 = (.int .i64 (a0.Owner.length : Int)) ∧ f 14 = (.int .i64 s763) ∧ OwF 3 (FK.int .i64) v833 s840 h834 ∧ Mem w0 w (cat [sg g0 T0 fr0 pre0 [v0x0, v0x1] post0, h834, hF])) ?_ ?_
    ·
     refine wp_block ?_
     refine wp_seq ?_
     obtain ⟨hg843, he⟩ := gdE he
     refine wp_region_lit ?_
     refine s_val (v := (.int .i64 s763)) (won rfl) rfl rfl (x_move rfl (ev (t := 14) (v := (.int .i64 s763)) rfl q764)) ?_
     refine s_val (v := (.pointer (some ((slA v0x1).add (Int.toNat s763 * 1))))) (won rfl) rfl rfl (x_index (d := (FK.int .i64)) rfl slt_26 (ev (t := 12) (v := v0x1) rfl q761) (ev (t := 14) (v := (.int .i64 s763)) rfl q764) H0x1 hg843.1 hg843.2) ?_
     refine s_val (v := (.int .i64 (ix a0.Owner s763))) (won rfl) rfl rfl (x_load rfl ty1x3 (ev (t := 17) rfl rfl) (RdF.cell0 H0x1 hm813 (Sub.trans hs (Sub.at_ (k := 2) rfl)) hg843.1 hg843.2 rfl)) ?_
     refine s_val (v := (.int .i64 s763)) (won rfl) rfl rfl (x_assign rfl (ev (t := 16) rfl rfl)) ?_
     refine s_val (v := (.int .i64 (ix a0.Owner s763))) (won rfl) rfl rfl (x_assign rfl (ev (t := 18) rfl rfl)) ?_
     refine wpList_nil ?_
     refine nx ?_
     refine wp_seq ?_
     refine wp_region_lit ?_
     refine s_val (v := (.int .i64 (ix a0.Owner s763))) (won rfl) rfl rfl (x_move rfl (ev (t := 7) rfl rfl)) ?_
     refine s_val (v := (.int .i64 a1)) (won rfl) rfl rfl (x_move rfl (ev (t := 1) (v := (.int .i64 a1)) rfl q755)) ?_
     refine s_val (v := (.bool (decide ((ix a0.Owner s763) = a1)))) (won rfl) rfl rfl (x_eql rfl (ev (t := 19) rfl rfl) (ev (t := 20) rfl rfl)) ?_
     refine wpList_nil ?_
     refine nx ?_
     rcases Bool.eq_false_or_eq_true ((decide ((ix a0.Owner s763) = a1))) with hb844 | hb844
     ·
      replace he := bifT he hb844
      refine c_true rfl (p := (decide ((ix a0.Owner s763) = a1))) rfl rfl hb844 ?_
      obtain ⟨hg850, he⟩ := gdE he
      refine wp_region_lit ?_
      refine s_val (v := v757) (won rfl) rfl rfl (x_move rfl (ev (t := 5) (v := v757) rfl q760)) ?_
      refine s_val (v := (.int .i64 s763)) (won rfl) rfl rfl (x_move rfl (ev (t := 6) rfl rfl)) ?_
      refine s_exv (won rfl) rfl rfl (e_litp (cells := [(.int .i64 s763)]) (ps := [(0, (.int .i64 s763))]) rfl slt_26 (pmap_lit (pmap_cons (ev (t := 23) rfl rfl) pmap_nil)) (fun w1 => run_bslicez (cells := [(.int .i64 s763)]) (zs := [.int .i64 0]) (zc := [.int .i64 0]) slt_26 rfl rfl (by kernel_rfl) (fill_cons (cs := [(.int .i64 s763)]) rfl rfl rfl fill_nil) (by decide)) hm813) ?_
      rintro g847 w845 hm846
      have H848 : OwF 3 (FK.int .i64) (.slice (some ⟨g847, 0, none⟩) 1 1) ([s763] : List Int) (sg g847 3 (0, 0) [] (encs (FK.int .i64) ([s763] : List Int)) []) := OwF.lit g847 ([s763] : List Int) 1 rfl (by decide)
      replace hm846 : Mem w0 w845 (cat [(sg g847 3 (0, 0) [] (encs (FK.int .i64) ([s763] : List Int)) []), sg g0 T0 fr0 pre0 [v0x0, v0x1] post0, h758, hF]) := hm846
      refine s_exv (won rfl) rfl rfl (e_append (bytes := 8) rfl slt_26 rfl (ev (t := 22) rfl rfl) (ev (t := 24) rfl rfl) H759 (k := 2) rfl (H848.rd w0) (Sub.at_ (k := 0) rfl) hm846 hg850 (len63 hg850 rfl)) ?_
      rintro p852 w854 ⟨H853, hm855⟩
      replace hm855 : Mem w0 w854 (cat [(sg g847 3 (0, 0) [] (encs (FK.int .i64) ([s763] : List Int)) []), sg g0 T0 fr0 pre0 [v0x0, v0x1] post0, p852.2, hF]) := hm855
      refine s_val (v := p852.1) (won rfl) rfl rfl (x_assign rfl (ev (t := 25) rfl rfl)) ?_
      refine wpList_nil ?_
      have hm856 : Mem w0 w854 (cat [sg g0 T0 fr0 pre0 [v0x0, v0x1] post0, p852.2, hF]) := Mem.pick [1, 2, 3] rfl hm855
      refine nb ?_
      refine nx ?_
      obtain rfl := Option.some.inj he
      exact ⟨p852.1, p852.2, _, rfl, q755, rfl, q761, q762, q764, H853, Mem.pick [0, 1, 2] rfl hm856⟩
     ·
      replace he := bifF he hb844
      refine c_false rfl (p := (decide ((ix a0.Owner s763) = a1))) rfl rfl hb844 ?_
      refine wp_skip ?_
      refine nb ?_
      refine nx ?_
      obtain rfl := Option.some.inj he
      exact ⟨v757, h758, _, rfl, q755, q760, q761, q762, q764, H759, Mem.pick [0, 1, 2] rfl hm813⟩
    ·
     rintro a w ⟨v833, h834, f, rfl, q830, q836, q837, q838, q839, H835, hm858⟩
     replace he := hk841
     refine wp_region_lit ?_
     refine s_val (v := (.int .i64 (IntKind.wrap .i64 (s763 + 1)))) (won rfl) rfl rfl (x_add rfl (ev (t := 14) (v := (.int .i64 s763)) rfl q839) rfl) ?_
     refine s_val (v := (.int .i64 (IntKind.wrap .i64 (s763 + 1)))) (won rfl) rfl rfl (x_move rfl (ev (t := 26) rfl rfl)) ?_
     refine wpList_nil ?_
     refine nx ?_
     exact ⟨s840, (IntKind.wrap .i64 (s763 + 1)), v833, h834, _, he, rfl, q830, q836, q837, q838, rfl, H835, Mem.pick [0, 1, 2] rfl hm858⟩
   ·
    replace he := bifF he hb815
    refine c_false rfl (p := (decide (s763 < (a0.Owner.length : Int)))) rfl rfl hb815 ?_
    refine wp_exit ?_
    refine xs ?_
    refine xs ?_
    refine xb ?_
    refine nx ?_
    obtain rfl := Option.some.inj he
    exact ⟨v757, h758, _, rfl, q760, H759, Mem.pick [0, 1, 2] rfl hm813⟩
 ·
  rintro a w ⟨v645, h646, f, rfl, q648, H647, hm860⟩
  replace he := hk650
  refine wp_seq ?_
  refine wp_region_lit ?_
  refine s_val (v := v645) (won rfl) rfl rfl (x_move rfl (ev (t := 5) (v := v645) rfl q648)) ?_
  refine s_val (v := v645) (won rfl) rfl rfl (x_assign rfl (ev (t := 27) rfl rfl)) ?_
  refine wpList_nil ?_
  refine nx ?_
  refine wp_ret ?_
  obtain rfl := Option.some.inj he
  refine r_ret (v := v645) (rv_one rfl (RVs.tmp (v := v645) rfl rfl RVs.nil)) rfl ?_
  exact ⟨v645, h646, rfl, H647, Mem.pick [0, 1, 2] rfl hm860⟩
def impl_Pool_release (a0 : impl_Pool) (a1 : Int) : Option (impl_Pool) := gd ((0 : Int) ≤ a1 ∧ a1 < (a0.Owner.length : Int)) (gd ((a0.Free.length + ([a1] : List Int).length) * 8 ≤ 140737488355328) ((some (impl_Pool.mk (a0.Free ++ ([a1] : List Int)) (List.set a0.Owner (Int.toNat a1) (-1))))))
set_option maxHeartbeats 400000 in
set_option maxRecDepth 100000 in
theorem impl_Pool_release_ok {w0 w : World} {hR hF : Hp} {v0x0 : Value} {h0x0 : Hp} {v0x1 : Value} {h0x1 : Hp} {g0 T0 o0 : Nat} {fr0 : Nat × Nat} {pre0 post0 : List Value} (a0 : impl_Pool) (a1 : Int) {r : (impl_Pool)} (H0x0 : OwF 3 (FK.int .i64) v0x0 a0.Free h0x0) (H0x1 : OwF 3 (FK.int .i64) v0x1 a0.Owner h0x1) (hp0 : pre0.length = o0) (hm : Mem w0 w (cat [sg g0 T0 fr0 pre0 [v0x0, v0x1] post0, h0x0, h0x1, hF])) (he : impl_Pool_release a0 a1 = some r) :
    Calls Try.prog 86 #[(.pointer (some ⟨g0, o0, none⟩)), (.int .i64 a1)] w (fun e w' => ∃ (v'0 : Value) (h'0 : Hp) (v'1 : Value) (h'1 : Hp), e = .returned (.tuple #[]) ∧ OwF 3 (FK.int .i64) v'0 r.Free h'0 ∧ OwF 3 (FK.int .i64) v'1 r.Owner h'1 ∧ Mem w0 w' (cat [sg g0 T0 fr0 pre0 [v'0, v'1] post0, h'0, h'1, hF])) := by
 refine calls_fr (n := 20) Try.func86 rfl rfl rfl ?_
 unfold impl_Pool_release at he
 refine wp_seq ?_
 obtain ⟨hg31, he⟩ := gdE he
 refine wp_region_lit ?_
 refine s_val (v := (.pointer (some ⟨g0, o0, none⟩))) (won rfl) rfl rfl (x_move rfl (ev (t := 0) rfl rfl)) ?_
 refine s_val (v := (.pointer (some ⟨g0, o0, none⟩))) (won rfl) rfl rfl (x_nil rfl (ev (t := 4) rfl rfl)) ?_
 refine s_val (v := (.pointer (some ⟨g0, o0 + 1, none⟩))) (won rfl) rfl rfl (x_field rfl fa_28x1 (ev (t := 5) rfl rfl)) ?_
 refine s_val (v := v0x1) (won rfl) rfl rfl (x_load rfl ty1x26 (ev (t := 6) rfl rfl) (seg_cell (o' := o0) (j := 1) hm (k := 0) rfl hp0 rfl)) ?_
 refine s_val (v := (.int .i64 a1)) (won rfl) rfl rfl (x_move rfl (ev (t := 1) rfl rfl)) ?_
 refine s_val (v := (.pointer (some ((slA v0x1).add (Int.toNat a1 * 1))))) (won rfl) rfl rfl (x_index (d := (FK.int .i64)) rfl slt_26 (ev (t := 7) rfl rfl) (ev (t := 8) rfl rfl) (H0x1.rd w0) hg31.1 hg31.2) ?_
 refine s_exw (won rfl) rfl (e_storeF (d := (FK.int .i64)) (s := (-1)) (vs := [(.int .i64 (-1))]) (j := 0) rfl sz_3 (ev (t := 9) rfl rfl) (add_0 _).symm rfl rfl rfl H0x1 hg31.1 hg31.2 rfl rfl hm (k := 2) rfl) ?_
 rintro h32 w34 ⟨H33, hm35⟩
 replace hm35 : Mem w0 w34 (cat [sg g0 T0 fr0 pre0 [v0x0, v0x1] post0, h0x0, h32, hF]) := hm35
 refine wpList_nil ?_
 refine nx ?_
 obtain ⟨hg41, he⟩ := gdE he
 refine wp_region_lit ?_
 refine s_val (v := (.pointer (some ⟨g0, o0, none⟩))) (won rfl) rfl rfl (x_move rfl (ev (t := 0) rfl rfl)) ?_
 refine s_val (v := (.pointer (some ⟨g0, o0, none⟩))) (won rfl) rfl rfl (x_move rfl (ev (t := 0) rfl rfl)) ?_
 refine s_val (v := (.pointer (some ⟨g0, o0, none⟩))) (won rfl) rfl rfl (x_nil rfl (ev (t := 11) rfl rfl)) ?_
 refine s_val (v := (.pointer (some ⟨g0, o0, none⟩))) (won rfl) rfl rfl (x_field rfl fa_28x0 (ev (t := 12) rfl rfl)) ?_
 refine s_val (v := v0x0) (won rfl) rfl rfl (x_load rfl ty1x26 (ev (t := 13) rfl rfl) (seg_cell (o' := o0) (j := 0) hm35 (k := 0) rfl hp0 rfl)) ?_
 refine s_val (v := (.int .i64 a1)) (won rfl) rfl rfl (x_move rfl (ev (t := 1) rfl rfl)) ?_
 refine s_exv (won rfl) rfl rfl (e_litp (cells := [(.int .i64 a1)]) (ps := [(0, (.int .i64 a1))]) rfl slt_26 (pmap_lit (pmap_cons (ev (t := 15) rfl rfl) pmap_nil)) (fun w1 => run_bslicez (cells := [(.int .i64 a1)]) (zs := [.int .i64 0]) (zc := [.int .i64 0]) slt_26 rfl rfl (by kernel_rfl) (fill_cons (cs := [(.int .i64 a1)]) rfl rfl rfl fill_nil) (by decide)) hm35) ?_
 rintro g38 w36 hm37
 have H39 : OwF 3 (FK.int .i64) (.slice (some ⟨g38, 0, none⟩) 1 1) ([a1] : List Int) (sg g38 3 (0, 0) [] (encs (FK.int .i64) ([a1] : List Int)) []) := OwF.lit g38 ([a1] : List Int) 1 rfl (by decide)
 replace hm37 : Mem w0 w36 (cat [(sg g38 3 (0, 0) [] (encs (FK.int .i64) ([a1] : List Int)) []), sg g0 T0 fr0 pre0 [v0x0, v0x1] post0, h0x0, h32, hF]) := hm37
 refine s_exv (won rfl) rfl rfl (e_append (bytes := 8) rfl slt_26 rfl (ev (t := 14) rfl rfl) (ev (t := 16) rfl rfl) H0x0 (k := 2) rfl (H39.rd w0) (Sub.at_ (k := 0) rfl) hm37 hg41 (len63 hg41 rfl)) ?_
 rintro p43 w45 ⟨H44, hm46⟩
 replace hm46 : Mem w0 w45 (cat [(sg g38 3 (0, 0) [] (encs (FK.int .i64) ([a1] : List Int)) []), sg g0 T0 fr0 pre0 [v0x0, v0x1] post0, p43.2, h32, hF]) := hm46
 refine s_val (v := (.pointer (some ⟨g0, o0, none⟩))) (won rfl) rfl rfl (x_nil rfl (ev (t := 10) rfl rfl)) ?_
 refine s_val (v := (.pointer (some ⟨g0, o0, none⟩))) (won rfl) rfl rfl (x_field rfl fa_28x0 (ev (t := 18) rfl rfl)) ?_
 refine s_exs (won rfl) rfl (e_store (vs := [p43.1]) (o' := o0) (j := 0) rfl sz_26 (ev (t := 19) rfl rfl) (ev (t := 17) rfl rfl) (IsSl.cells (H44).sl) (one_cons (IsSl.one (H44).sl) one_nil) hm46 (k := 1) rfl hp0 rfl) ?_
 intro w47 hm48
 replace hm48 : Mem w0 w47 (cat [(sg g38 3 (0, 0) [] (encs (FK.int .i64) ([a1] : List Int)) []), sg g0 T0 fr0 pre0 [p43.1, v0x1] post0, p43.2, h32, hF]) := hm48
 refine wpList_nil ?_
 have hm49 : Mem w0 w47 (cat [sg g0 T0 fr0 pre0 [p43.1, v0x1] post0, p43.2, h32, hF]) := Mem.pick [1, 2, 3, 4] rfl hm48
 obtain rfl := Option.some.inj he
 refine bodyPost_end (v := (.tuple #[])) (rv_list rfl rfl RVs.nil) rfl ?_
 exact ⟨p43.1, p43.2, v0x1, h32, rfl, H44, H33, Mem.pick [0, 1, 2, 3] rfl hm49⟩
def impl_Pool_act_l1 (F : Nat) (r1365 : ((List Int))) : Nat → (List Int) → (List Int) → Int → Option ((List Int) × (List Int))
  | 0, _, _, _ => none
  | k + 1, s1595, s1599, s1608 => (bif (decide (s1608 < (r1365.length : Int))) then gd ((0 : Int) ≤ s1608 ∧ s1608 < (r1365.length : Int)) ((impl_Pool_release (impl_Pool.mk s1595 s1599) (ix r1365 s1608)).bind fun r1655 => impl_Pool_act_l1 F r1365 k r1655.Free r1655.Owner (IntKind.wrap .i64 (s1608 + 1))) else (some (s1595, s1599)))
def impl_Pool_act (F : Nat) (a0 : impl_Pool) (a1 : impl_PoolAct) : Option (impl_PoolReply × impl_Pool) := (impl_inRange a1.Kind 1 4).bind fun r964 => (bif (!r964) then (some ((impl_PoolReply.mk 3 0), a0)) else ((bif ((decide (a1.Kind = 2)) || (decide (a1.Kind = 3))) then (some a1.Buffer) else (some 0)) : Option (Int)).bind fun (s985 : (Int)) => (impl_isOwner a1.Owner).bind fun r1006 => (bif ((!(!r1006)) && (decide (a1.Kind = 2))) then impl_isOwner a1.To else some false).bind fun r1009 => (bif ((!r1006) || ((decide (a1.Kind = 2)) && (!r1009))) then (some ((impl_PoolReply.mk 4 s985), a0)) else ((bif (decide (a1.Kind = 1)) then (impl_Pool_take a0 a1.Owner).bind fun r1350 => (some (Fl.out (r1350.1, r1350.2))) else (bif (decide (a1.Kind = 4)) then (impl_Pool_held F a0 a1.Owner).bind fun r1365 => (impl_Pool_act_l1 F r1365 F a0.Free a0.Owner 0 : Option ((List Int) × (List Int))).bind fun (s1523 : ((List Int) × (List Int))) => (some (Fl.out ((impl_PoolReply.mk 0 (r1365.length : Int)), (impl_Pool.mk s1523.1 s1523.2)))) else (some (Fl.go ())))) : Option (Fl (impl_PoolReply × impl_Pool) (Unit))).bind fun l1346 => l1346.on fun (s1345 : (Unit)) => (impl_inRange a1.Buffer 0 (IntKind.wrap .i64 ((a0.Owner.length : Int) - 1))).bind fun r1684 => gd ((!(!r1684)) = true → (0 : Int) ≤ a1.Buffer ∧ a1.Buffer < (a0.Owner.length : Int)) ((bif ((!r1684) || (!decide ((ix a0.Owner a1.Buffer) = a1.Owner))) then (some ((impl_PoolReply.mk 5 s985), a0)) else ((bif (decide (a1.Kind = 2)) then gd ((0 : Int) ≤ a1.Buffer ∧ a1.Buffer < (a0.Owner.length : Int)) ((some (a0.Free, (List.set a0.Owner (Int.toNat a1.Buffer) a1.To)))) else (impl_Pool_release a0 a1.Buffer).bind fun r1738 => (some (r1738.Free, r1738.Owner))) : Option ((List Int) × (List Int))).bind fun (s1727 : ((List Int) × (List Int))) => (some ((impl_PoolReply.mk 0 s985), (impl_Pool.mk s1727.1 s1727.2)))))))
set_option maxHeartbeats 400000 in
set_option maxRecDepth 100000 in
theorem impl_Pool_act_ok (F : Nat) {w0 w : World} {hR hF : Hp} {v0x0 : Value} {h0x0 : Hp} {v0x1 : Value} {h0x1 : Hp} {g0 T0 o0 : Nat} {fr0 : Nat × Nat} {pre0 post0 : List Value} (a0 : impl_Pool) (a1 : impl_PoolAct) {r : (impl_PoolReply × impl_Pool)} (H0x0 : OwF 3 (FK.int .i64) v0x0 a0.Free h0x0) (H0x1 : OwF 3 (FK.int .i64) v0x1 a0.Owner h0x1) (hp0 : pre0.length = o0) (hm : Mem w0 w (cat [sg g0 T0 fr0 pre0 [v0x0, v0x1] post0, h0x0, h0x1, hF])) (he : impl_Pool_act F a0 a1 = some r) :
    Calls Try.prog 59 #[(.pointer (some ⟨g0, o0, none⟩)), (.agg #[(.int .i64 a1.Kind), (.int .i64 a1.Owner), (.int .i64 a1.To), (.int .i64 a1.Buffer)])] w (fun e w' => ∃ (v'0 : Value) (h'0 : Hp) (v'1 : Value) (h'1 : Hp), e = .returned (.agg #[(.int .i64 r.1.Code), (.int .i64 r.1.Buffer)]) ∧ OwF 3 (FK.int .i64) v'0 r.2.Free h'0 ∧ OwF 3 (FK.int .i64) v'1 r.2.Owner h'1 ∧ Mem w0 w' (cat [sg g0 T0 fr0 pre0 [v'0, v'1] post0, h'0, h'1, hF])) := by
 refine calls_fr (n := 112) Try.func59 rfl rfl rfl ?_
 unfold impl_Pool_act at he
 refine wp_seq ?_
 refine wp_region_lit ?_
 refine s_exv (won rfl) rfl rfl (e_box (vs := [(.int .i64 a1.Kind), (.int .i64 a1.Owner), (.int .i64 a1.To), (.int .i64 a1.Buffer)]) rfl (ev (t := 1) rfl rfl) rfl hm) ?_
 rintro g949 w950 hm951
 refine s_exv (won rfl) rfl rfl (e_alloc (vs := [(.int .i64 0), (.int .i64 0)]) rfl zt_35 rfl hm951) ?_
 rintro g953 w954 hm955
 refine wpList_nil ?_
 refine nx ?_
 refine wp_seq ?_
 refine wp_seq ?_
 obtain ⟨r964, hr964, he⟩ := bindE he
 refine wp_region_lit ?_
 refine s_val (v := (.pointer (some ⟨g949, 0, none⟩))) (won rfl) rfl rfl (x_field rfl fa_39x0 (ev (t := 3) rfl rfl)) ?_
 refine s_val (v := (.int .i64 a1.Kind)) (won rfl) rfl rfl (x_load rfl ty1x3 (ev (t := 9) rfl rfl) (seg_cell (o' := 0) (j := 0) hm955 (k := 1) rfl rfl rfl)) ?_
 refine s_call (won rfl) rfl rfl (x_call rfl rfl cl_58 (map_lit (map_cons (ev (t := 10) rfl rfl) (map_cons rfl (map_cons rfl map_nil))))) (impl_inRange_ok (hR := (cat [])) (hF := cat [sg g953 35 (0, 0) [] [(.int .i64 0), (.int .i64 0)] [], sg g949 39 (0, 0) [] [(.int .i64 a1.Kind), (.int .i64 a1.Owner), (.int .i64 a1.To), (.int .i64 a1.Buffer)] [], sg g0 T0 fr0 pre0 [v0x0, v0x1] post0, h0x0, h0x1, hF]) a1.Kind 1 4  (Mem.one hm955) hr964) ?_
 rintro e w965 ⟨rfl, hm966⟩
 refine ⟨_, rfl, ?_⟩
 replace hm966 : Mem w0 w965 (cat [sg g953 35 (0, 0) [] [(.int .i64 0), (.int .i64 0)] [], sg g949 39 (0, 0) [] [(.int .i64 a1.Kind), (.int .i64 a1.Owner), (.int .i64 a1.To), (.int .i64 a1.Buffer)] [], sg g0 T0 fr0 pre0 [v0x0, v0x1] post0, h0x0, h0x1, hF]) := Mem.un hm966
 refine s_val (v := (.bool (!r964))) (won rfl) rfl rfl (x_not rfl (ev (t := 11) rfl rfl)) ?_
 refine wpList_nil ?_
 refine nx ?_
 rcases Bool.eq_false_or_eq_true ((!r964)) with hb967 | hb967
 ·
  replace he := bifT he hb967
  refine c_true rfl (p := (!r964)) rfl rfl hb967 ?_
  refine wp_seq ?_
  refine wp_region_lit ?_
  refine s_val (v := (.agg #[(.int .i64 3), (.int .i64 0)])) (won rfl) rfl rfl (x_build (cells := [(.int .i64 3), (.int .i64 0)]) (zc := [.int .i64 0, .int .i64 0]) (sizes := [(0, 1), (1, 1)]) (ps := [(0, (.int .i64 3))]) rfl zt_35 rfl uf_35 ufz_35 (pmap_lit (pmap_cons rfl pmap_nil)) (fill_cons (cs := [(.int .i64 3)]) rfl rfl rfl fill_nil)) ?_
  refine s_exs (won rfl) rfl (e_store (vs := [(.int .i64 3), (.int .i64 0)]) (o' := 0) (j := 0) rfl sz_35 (ev (t := 4) rfl rfl) (ev (t := 13) rfl rfl) rfl rfl hm966 (k := 0) rfl rfl rfl) ?_
  intro w968 hm969
  replace hm969 : Mem w0 w968 (cat [sg g953 35 (0, 0) [] [(.int .i64 3), (.int .i64 0)] [], sg g949 39 (0, 0) [] [(.int .i64 a1.Kind), (.int .i64 a1.Owner), (.int .i64 a1.To), (.int .i64 a1.Buffer)] [], sg g0 T0 fr0 pre0 [v0x0, v0x1] post0, h0x0, h0x1, hF]) := hm969
  refine wpList_nil ?_
  have hm970 : Mem w0 w968 (cat [sg g953 35 (0, 0) [] [(.int .i64 3), (.int .i64 0)] [], sg g0 T0 fr0 pre0 [v0x0, v0x1] post0, h0x0, h0x1, hF]) := Mem.pick [0, 2, 3, 4, 5] rfl hm969
  refine nx ?_
  refine wp_ret ?_
  refine xr ?_
  obtain rfl := Option.some.inj he
  refine r_ret (v := (.agg #[(.int .i64 3), (.int .i64 0)])) (rv_one rfl (RVs.cell (cs := [(.int .i64 3), (.int .i64 0)]) rfl rfl tyN_35 (seg_cells (o' := 0) (j := 0) hm970 (k := 0) rfl rfl rfl) RVs.nil)) rfl ?_
  exact ⟨v0x0, h0x0, v0x1, h0x1, rfl, H0x0, H0x1, Mem.pick [1, 2, 3, 4] rfl hm970⟩
 ·
  replace he := bifF he hb967
  refine c_false rfl (p := (!r964)) rfl rfl hb967 ?_
  refine wp_skip ?_
  refine nx ?_
  refine wp_seq ?_
  refine wp_region_lit ?_
  refine s_val (v := (.agg #[(.int .i64 0), (.int .i64 0)])) (won rfl) rfl rfl (x_build (cells := [(.int .i64 0), (.int .i64 0)]) (zc := [.int .i64 0, .int .i64 0]) (sizes := [(0, 1), (1, 1)]) (ps := []) rfl zt_35 rfl uf_35 ufz_35 (pmap_lit pmap_nil) fill_nil) ?_
  refine s_exv (won rfl) rfl rfl (e_alloc (vs := [(.int .i64 0), (.int .i64 0)]) rfl zt_35 rfl hm966) ?_
  rintro g971 w972 hm973
  refine s_exs (won rfl) rfl (e_store (vs := [(.int .i64 0), (.int .i64 0)]) (o' := 0) (j := 0) rfl sz_35 (ev (t := 5) rfl rfl) (ev (t := 14) rfl rfl) rfl rfl hm973 (k := 0) rfl rfl rfl) ?_
  intro w975 hm976
  replace hm976 : Mem w0 w975 (cat [sg g971 35 (0, 0) [] [(.int .i64 0), (.int .i64 0)] [], sg g953 35 (0, 0) [] [(.int .i64 0), (.int .i64 0)] [], sg g949 39 (0, 0) [] [(.int .i64 a1.Kind), (.int .i64 a1.Owner), (.int .i64 a1.To), (.int .i64 a1.Buffer)] [], sg g0 T0 fr0 pre0 [v0x0, v0x1] post0, h0x0, h0x1, hF]) := hm976
  refine wpList_nil ?_
  refine nx ?_
  obtain ⟨s985, hT987, hk986⟩ := bindE he
  replace he := hT987
  refine wp_seqJ (fun a w => ∃ (f : Nat → Value), a = fr 112 f ∧ f 0 = (.pointer (some ⟨g0, o0, none⟩)) ∧ f 3 = (.pointer (some ⟨g949, 0, none⟩)) ∧ f 4 = (.pointer (some ⟨g953, 0, none⟩)) ∧ f 5 = (.pointer (some ⟨g971, 0, none⟩)) ∧ Mem w0 w (cat [sg g0 T0 fr0 pre0 [v0x0, v0x1] post0, sg g949 39 (0, 0) [] [(.int .i64 a1.Kind), (.int .i64 a1.Owner), (.int .i64 a1.To), (.int .i64 a1.Buffer)] [], sg g953 35 (0, 0) [] [(.int .i64 0), (.int .i64 0)] [], sg g971 35 (0, 0) [] [(.int .i64 0), (.int .i64 s985)] [], h0x0, h0x1, hF])) ?_ ?_
  ·
   refine wp_seq ?_
   refine wp_region_lit ?_
   refine s_val (v := (.pointer (some ⟨g949, 0, none⟩))) (won rfl) rfl rfl (x_field rfl fa_39x0 (ev (t := 3) rfl rfl)) ?_
   refine s_val (v := (.int .i64 a1.Kind)) (won rfl) rfl rfl (x_load rfl ty1x3 (ev (t := 15) rfl rfl) (seg_cell (o' := 0) (j := 0) hm976 (k := 2) rfl rfl rfl)) ?_
   refine s_val (v := (.bool (decide (a1.Kind = 2)))) (won rfl) rfl rfl (x_eql rfl (ev (t := 16) rfl rfl) rfl) ?_
   refine s_val (v := (.bool (decide (a1.Kind = 2)))) (won rfl) rfl rfl (x_move rfl (ev (t := 17) rfl rfl)) ?_
   refine s_cval (p := (!(decide (a1.Kind = 2)))) (v := (.pointer (some ⟨g949, 0, none⟩))) (won_f (j := 3) (t := 18) (q := (decide (a1.Kind = 2))) rfl rfl rfl rfl rfl) rfl rfl (fun hp => (x_field rfl fa_39x0 (ev (t := 3) rfl rfl))) ?_
   refine s_cval (p := (!(decide (a1.Kind = 2)))) (v := (.int .i64 a1.Kind)) (won_f (j := 3) (t := 18) (q := (decide (a1.Kind = 2))) rfl rfl rfl rfl rfl) rfl rfl (fun hp => (x_load rfl ty1x3 (ev (t := 19) rfl (Eq.trans (b := cv (!(decide (a1.Kind = 2))) (.pointer (some ⟨g949, 0, none⟩))) rfl (on_c hp))) (seg_cell (o' := 0) (j := 0) hm976 (k := 2) rfl rfl rfl))) ?_
   refine s_cval (p := (!(decide (a1.Kind = 2)))) (v := (.bool (decide (a1.Kind = 3)))) (won_f (j := 3) (t := 18) (q := (decide (a1.Kind = 2))) rfl rfl rfl rfl rfl) rfl rfl (fun hp => (x_eql rfl (ev (t := 20) rfl (Eq.trans (b := cv (!(decide (a1.Kind = 2))) (.int .i64 a1.Kind)) rfl (on_c hp))) rfl)) ?_
   refine s_val (v := (.bool ((decide (a1.Kind = 2)) || (decide (a1.Kind = 3))))) (won rfl) rfl rfl (x_pick_or rfl (ev (t := 18) rfl rfl) rfl (fun hq => ev rfl (Eq.trans (b := cv (!(decide (a1.Kind = 2))) (.bool (decide (a1.Kind = 3)))) rfl (on_c (not_i hq))))) ?_
   refine wpList_nil ?_
   refine nx ?_
   rcases Bool.eq_false_or_eq_true (((decide (a1.Kind = 2)) || (decide (a1.Kind = 3)))) with hb988 | hb988
   ·
    replace he := bifT he hb988
    refine c_true rfl (p := ((decide (a1.Kind = 2)) || (decide (a1.Kind = 3)))) rfl rfl hb988 ?_
    refine wp_region_lit ?_
    refine s_val (v := (.pointer (some ⟨g949, 3, none⟩))) (won rfl) rfl rfl (x_field rfl fa_39x3 (ev (t := 3) rfl rfl)) ?_
    refine s_val (v := (.int .i64 a1.Buffer)) (won rfl) rfl rfl (x_load rfl ty1x3 (ev (t := 23) rfl rfl) (seg_cell (o' := 0) (j := 3) hm976 (k := 2) rfl rfl rfl)) ?_
    refine s_val (v := (.pointer (some ⟨g971, 1, none⟩))) (won rfl) rfl rfl (x_field rfl fa_35x1 (ev (t := 5) rfl rfl)) ?_
    refine s_exs (won rfl) rfl (e_store (vs := [(.int .i64 a1.Buffer)]) (o' := 0) (j := 1) rfl sz_3 (ev (t := 25) rfl rfl) (ev (t := 24) rfl rfl) rfl rfl hm976 (k := 0) rfl rfl rfl) ?_
    intro w989 hm990
    replace hm990 : Mem w0 w989 (cat [sg g971 35 (0, 0) [] [(.int .i64 0), (.int .i64 a1.Buffer)] [], sg g953 35 (0, 0) [] [(.int .i64 0), (.int .i64 0)] [], sg g949 39 (0, 0) [] [(.int .i64 a1.Kind), (.int .i64 a1.Owner), (.int .i64 a1.To), (.int .i64 a1.Buffer)] [], sg g0 T0 fr0 pre0 [v0x0, v0x1] post0, h0x0, h0x1, hF]) := hm990
    refine wpList_nil ?_
    refine nx ?_
    obtain rfl := Option.some.inj he
    exact ⟨_, rfl, rfl, rfl, rfl, rfl, Mem.pick [3, 2, 1, 0, 4, 5, 6] rfl hm990⟩
   ·
    replace he := bifF he hb988
    refine c_false rfl (p := ((decide (a1.Kind = 2)) || (decide (a1.Kind = 3)))) rfl rfl hb988 ?_
    refine wp_skip ?_
    refine nx ?_
    obtain rfl := Option.some.inj he
    exact ⟨_, rfl, rfl, rfl, rfl, rfl, Mem.pick [3, 2, 1, 0, 4, 5, 6] rfl hm976⟩
  ·
   rintro a w ⟨f, rfl, q980, q981, q982, q984, hm992⟩
   replace he := hk986
   refine wp_seq ?_
   refine wp_seq ?_
   obtain ⟨r1006, hr1006, he⟩ := bindE he
   obtain ⟨r1009, hr1009, he⟩ := bindE he
   refine wp_region_lit ?_
   refine s_val (v := (.pointer (some ⟨g949, 1, none⟩))) (won rfl) rfl rfl (x_field rfl fa_39x1 (ev (t := 3) (v := (.pointer (some ⟨g949, 0, none⟩))) rfl q981)) ?_
   refine s_val (v := (.int .i64 a1.Owner)) (won rfl) rfl rfl (x_load rfl ty1x3 (ev (t := 26) rfl rfl) (seg_cell (o' := 0) (j := 1) hm992 (k := 1) rfl rfl rfl)) ?_
   refine s_call (won rfl) rfl rfl (x_call rfl rfl cl_64 (map_lit (map_cons (ev (t := 27) rfl rfl) map_nil))) (impl_isOwner_ok (hR := (cat [])) (hF := cat [sg g0 T0 fr0 pre0 [v0x0, v0x1] post0, sg g949 39 (0, 0) [] [(.int .i64 a1.Kind), (.int .i64 a1.Owner), (.int .i64 a1.To), (.int .i64 a1.Buffer)] [], sg g953 35 (0, 0) [] [(.int .i64 0), (.int .i64 0)] [], sg g971 35 (0, 0) [] [(.int .i64 0), (.int .i64 s985)] [], h0x0, h0x1, hF]) a1.Owner  (Mem.one hm992) hr1006) ?_
   rintro e w1007 ⟨rfl, hm1008⟩
   refine ⟨_, rfl, ?_⟩
   replace hm1008 : Mem w0 w1007 (cat [sg g0 T0 fr0 pre0 [v0x0, v0x1] post0, sg g949 39 (0, 0) [] [(.int .i64 a1.Kind), (.int .i64 a1.Owner), (.int .i64 a1.To), (.int .i64 a1.Buffer)] [], sg g953 35 (0, 0) [] [(.int .i64 0), (.int .i64 0)] [], sg g971 35 (0, 0) [] [(.int .i64 0), (.int .i64 s985)] [], h0x0, h0x1, hF]) := Mem.un hm1008
   refine s_val (v := (.bool (!r1006))) (won rfl) rfl rfl (x_not rfl (ev (t := 28) rfl rfl)) ?_
   refine s_val (v := (.bool (!r1006))) (won rfl) rfl rfl (x_move rfl (ev (t := 29) rfl rfl)) ?_
   refine s_cval (p := (!(!r1006))) (v := (.pointer (some ⟨g949, 0, none⟩))) (won_f (j := 4) (t := 30) (q := (!r1006)) rfl rfl rfl rfl rfl) rfl rfl (fun hp => (x_field rfl fa_39x0 (ev (t := 3) (v := (.pointer (some ⟨g949, 0, none⟩))) rfl q981))) ?_
   refine s_cval (p := (!(!r1006))) (v := (.int .i64 a1.Kind)) (won_f (j := 4) (t := 30) (q := (!r1006)) rfl rfl rfl rfl rfl) rfl rfl (fun hp => (x_load rfl ty1x3 (ev (t := 31) rfl (Eq.trans (b := cv (!(!r1006)) (.pointer (some ⟨g949, 0, none⟩))) rfl (on_c hp))) (seg_cell (o' := 0) (j := 0) hm1008 (k := 1) rfl rfl rfl))) ?_
   refine s_cval (p := (!(!r1006))) (v := (.bool (decide (a1.Kind = 2)))) (won_f (j := 4) (t := 30) (q := (!r1006)) rfl rfl rfl rfl rfl) rfl rfl (fun hp => (x_eql rfl (ev (t := 32) rfl (Eq.trans (b := cv (!(!r1006)) (.int .i64 a1.Kind)) rfl (on_c hp))) rfl)) ?_
   refine s_cval (p := (!(!r1006))) (v := (.bool (decide (a1.Kind = 2)))) (won_f (j := 4) (t := 30) (q := (!r1006)) rfl rfl rfl rfl rfl) rfl rfl (fun hp => (x_move rfl (ev (t := 33) rfl (Eq.trans (b := cv (!(!r1006)) (.bool (decide (a1.Kind = 2)))) rfl (on_c hp))))) ?_
   refine s_cval (p := ((!(!r1006)) && (decide (a1.Kind = 2)))) (v := (.pointer (some ⟨g949, 2, none⟩))) (won_ct (j := 8) (t := 34) (p := (!(!r1006))) (q := (decide (a1.Kind = 2))) rfl rfl rfl rfl rfl) rfl rfl (fun hp => (x_field rfl fa_39x2 (ev (t := 3) (v := (.pointer (some ⟨g949, 0, none⟩))) rfl q981))) ?_
   refine s_cval (p := ((!(!r1006)) && (decide (a1.Kind = 2)))) (v := (.int .i64 a1.To)) (won_ct (j := 8) (t := 34) (p := (!(!r1006))) (q := (decide (a1.Kind = 2))) rfl rfl rfl rfl rfl) rfl rfl (fun hp => (x_load rfl ty1x3 (ev (t := 35) rfl (Eq.trans (b := cv ((!(!r1006)) && (decide (a1.Kind = 2))) (.pointer (some ⟨g949, 2, none⟩))) rfl (on_c hp))) (seg_cell (o' := 0) (j := 2) hm1008 (k := 1) rfl rfl rfl))) ?_
   refine s_ccall (p := ((!(!r1006)) && (decide (a1.Kind = 2)))) (v := (.bool r1009)) (J := fun w' => Mem w0 w' (cat [sg g0 T0 fr0 pre0 [v0x0, v0x1] post0, sg g949 39 (0, 0) [] [(.int .i64 a1.Kind), (.int .i64 a1.Owner), (.int .i64 a1.To), (.int .i64 a1.Buffer)] [], sg g953 35 (0, 0) [] [(.int .i64 0), (.int .i64 0)] [], sg g971 35 (0, 0) [] [(.int .i64 0), (.int .i64 s985)] [], h0x0, h0x1, hF])) (won_ct (j := 8) (t := 34) (p := (!(!r1006))) (q := (decide (a1.Kind = 2))) rfl rfl rfl rfl rfl) rfl rfl (fun hp => (x_call rfl rfl cl_64 (map_lit (map_cons (ev (t := 36) rfl (Eq.trans (b := cv ((!(!r1006)) && (decide (a1.Kind = 2))) (.int .i64 a1.To)) rfl (on_c hp))) map_nil)))) (fun hp => ((impl_isOwner_ok (hR := (cat [])) (hF := cat [sg g0 T0 fr0 pre0 [v0x0, v0x1] post0, sg g949 39 (0, 0) [] [(.int .i64 a1.Kind), (.int .i64 a1.Owner), (.int .i64 a1.To), (.int .i64 a1.Buffer)] [], sg g953 35 (0, 0) [] [(.int .i64 0), (.int .i64 0)] [], sg g971 35 (0, 0) [] [(.int .i64 0), (.int .i64 s985)] [], h0x0, h0x1, hF]) a1.To  (Mem.one hm1008) (bifT hr1009 hp))).mono fun e w2 h => ⟨h.1, Mem.un h.2⟩) hm1008 ?_
   intro w1010 hm1011
   refine s_cval (p := ((!(!r1006)) && (decide (a1.Kind = 2)))) (v := (.bool (!r1009))) (won_ct (j := 8) (t := 34) (p := (!(!r1006))) (q := (decide (a1.Kind = 2))) rfl rfl rfl rfl rfl) rfl rfl (fun hp => (x_not rfl (ev (t := 37) rfl (Eq.trans (b := cv ((!(!r1006)) && (decide (a1.Kind = 2))) (.bool r1009)) rfl (on_c hp))))) ?_
   refine s_cval (p := (!(!r1006))) (v := (.bool ((decide (a1.Kind = 2)) && (!r1009)))) (won_f (j := 4) (t := 30) (q := (!r1006)) rfl rfl rfl rfl rfl) rfl rfl (fun hp => (x_pick_and rfl (ev (t := 34) rfl (Eq.trans (b := cv (!(!r1006)) (.bool (decide (a1.Kind = 2)))) rfl (on_c hp))) (fun hq => ev rfl (Eq.trans (b := cv ((!(!r1006)) && (decide (a1.Kind = 2))) (.bool (!r1009))) rfl (on_c (and_i hp hq)))) rfl)) ?_
   refine s_val (v := (.bool ((!r1006) || ((decide (a1.Kind = 2)) && (!r1009))))) (won rfl) rfl rfl (x_pick_or rfl (ev (t := 30) rfl rfl) rfl (fun hq => ev rfl (Eq.trans (b := cv (!(!r1006)) (.bool ((decide (a1.Kind = 2)) && (!r1009)))) rfl (on_c (not_i hq))))) ?_
   refine wpList_nil ?_
   refine nx ?_
   rcases Bool.eq_false_or_eq_true (((!r1006) || ((decide (a1.Kind = 2)) && (!r1009)))) with hb1012 | hb1012
   ·
    replace he := bifT he hb1012
    refine c_true rfl (p := ((!r1006) || ((decide (a1.Kind = 2)) && (!r1009)))) rfl rfl hb1012 ?_
    refine wp_seq ?_
    refine wp_region_lit ?_
    refine s_val (v := (.pointer (some ⟨g971, 0, none⟩))) (won rfl) rfl rfl (x_field rfl fa_35x0 (ev (t := 5) (v := (.pointer (some ⟨g971, 0, none⟩))) rfl q984)) ?_
    refine s_exs (won rfl) rfl (e_store (vs := [(.int .i64 4)]) (o' := 0) (j := 0) rfl sz_3 (ev (t := 41) rfl rfl) rfl rfl rfl hm1011 (k := 3) rfl rfl rfl) ?_
    intro w1013 hm1014
    replace hm1014 : Mem w0 w1013 (cat [sg g0 T0 fr0 pre0 [v0x0, v0x1] post0, sg g949 39 (0, 0) [] [(.int .i64 a1.Kind), (.int .i64 a1.Owner), (.int .i64 a1.To), (.int .i64 a1.Buffer)] [], sg g953 35 (0, 0) [] [(.int .i64 0), (.int .i64 0)] [], sg g971 35 (0, 0) [] [(.int .i64 4), (.int .i64 s985)] [], h0x0, h0x1, hF]) := hm1014
    refine wpList_nil ?_
    have hm1015 : Mem w0 w1013 (cat [sg g0 T0 fr0 pre0 [v0x0, v0x1] post0, sg g953 35 (0, 0) [] [(.int .i64 0), (.int .i64 0)] [], sg g971 35 (0, 0) [] [(.int .i64 4), (.int .i64 s985)] [], h0x0, h0x1, hF]) := Mem.pick [0, 2, 3, 4, 5, 6] rfl hm1014
    refine nx ?_
    refine wp_seq ?_
    refine wp_region_lit ?_
    refine s_val (v := (.agg #[(.int .i64 4), (.int .i64 s985)])) (won rfl) rfl rfl (x_loadN (vs := [(.int .i64 4), (.int .i64 s985)]) rfl tyN_35 (ev (t := 5) (v := (.pointer (some ⟨g971, 0, none⟩))) rfl q984) (seg_cells (o' := 0) (j := 0) hm1015 (k := 2) rfl rfl rfl)) ?_
    refine s_exs (won rfl) rfl (e_store (vs := [(.int .i64 4), (.int .i64 s985)]) (o' := 0) (j := 0) rfl sz_35 (ev (t := 4) (v := (.pointer (some ⟨g953, 0, none⟩))) rfl q982) (ev (t := 42) rfl rfl) rfl rfl hm1015 (k := 1) rfl rfl rfl) ?_
    intro w1016 hm1017
    replace hm1017 : Mem w0 w1016 (cat [sg g0 T0 fr0 pre0 [v0x0, v0x1] post0, sg g953 35 (0, 0) [] [(.int .i64 4), (.int .i64 s985)] [], sg g971 35 (0, 0) [] [(.int .i64 4), (.int .i64 s985)] [], h0x0, h0x1, hF]) := hm1017
    refine wpList_nil ?_
    have hm1018 : Mem w0 w1016 (cat [sg g0 T0 fr0 pre0 [v0x0, v0x1] post0, sg g953 35 (0, 0) [] [(.int .i64 4), (.int .i64 s985)] [], h0x0, h0x1, hF]) := Mem.pick [0, 1, 3, 4, 5] rfl hm1017
    refine nx ?_
    refine wp_ret ?_
    refine xr ?_
    obtain rfl := Option.some.inj he
    refine r_ret (v := (.agg #[(.int .i64 4), (.int .i64 s985)])) (rv_one rfl (RVs.cell (cs := [(.int .i64 4), (.int .i64 s985)]) rfl q982 tyN_35 (seg_cells (o' := 0) (j := 0) hm1018 (k := 1) rfl rfl rfl) RVs.nil)) rfl ?_
    exact ⟨v0x0, h0x0, v0x1, h0x1, rfl, H0x0, H0x1, Mem.pick [0, 2, 3, 4] rfl hm1018⟩
   ·
    replace he := bifF he hb1012
    refine c_false rfl (p := ((!r1006) || ((decide (a1.Kind = 2)) && (!r1009)))) rfl rfl hb1012 ?_
    refine wp_skip ?_
    refine nx ?_
    obtain ⟨l1346, hT1348, hk1347⟩ := bindE he
    replace he := hT1348
    refine wp_seqJ (fun a w => ∃ (s1345 : (Unit)) (f : Nat → Value), l1346 = Fl.go s1345 ∧ a = fr 112 f ∧ f 0 = (.pointer (some ⟨g0, o0, none⟩)) ∧ f 3 = (.pointer (some ⟨g949, 0, none⟩)) ∧ f 4 = (.pointer (some ⟨g953, 0, none⟩)) ∧ f 5 = (.pointer (some ⟨g971, 0, none⟩)) ∧ Mem w0 w (cat [sg g0 T0 fr0 pre0 [v0x0, v0x1] post0, sg g949 39 (0, 0) [] [(.int .i64 a1.Kind), (.int .i64 a1.Owner), (.int .i64 a1.To), (.int .i64 a1.Buffer)] [], sg g953 35 (0, 0) [] [(.int .i64 0), (.int .i64 0)] [], sg g971 35 (0, 0) [] [(.int .i64 0), (.int .i64 s985)] [], h0x0, h0x1, hF])) ?_ ?_
    ·
     refine wp_seq ?_
     refine wp_region_lit ?_
     refine s_val (v := (.pointer (some ⟨g949, 0, none⟩))) (won rfl) rfl rfl (x_field rfl fa_39x0 (ev (t := 3) (v := (.pointer (some ⟨g949, 0, none⟩))) rfl q981)) ?_
     refine s_val (v := (.int .i64 a1.Kind)) (won rfl) rfl rfl (x_load rfl ty1x3 (ev (t := 43) rfl rfl) (seg_cell (o' := 0) (j := 0) hm1011 (k := 1) rfl rfl rfl)) ?_
     refine wpList_nil ?_
     refine nx ?_
     refine wp_block ?_
     refine wp_seq ?_
     refine wp_region_lit ?_
     refine s_val (v := (.bool (decide (a1.Kind = 1)))) (won rfl) rfl rfl (x_eql rfl (ev (t := 44) rfl rfl) rfl) ?_
     refine s_val (v := (.bool (decide (a1.Kind = 1)))) (won rfl) rfl rfl (x_assign rfl (ev (t := 46) rfl rfl)) ?_
     refine wpList_nil ?_
     refine nx ?_
     rcases Bool.eq_false_or_eq_true ((decide (a1.Kind = 1))) with hb1349 | hb1349
     ·
      replace he := bifT he hb1349
      refine c_true rfl (p := (decide (a1.Kind = 1))) rfl rfl hb1349 ?_
      refine wp_seq ?_
      obtain ⟨r1350, hr1350, he⟩ := bindE he
      refine wp_region_lit ?_
      refine s_val (v := (.pointer (some ⟨g0, o0, none⟩))) (won rfl) rfl rfl (x_move rfl (ev (t := 0) (v := (.pointer (some ⟨g0, o0, none⟩))) rfl q980)) ?_
      refine s_val (v := (.pointer (some ⟨g949, 1, none⟩))) (won rfl) rfl rfl (x_field rfl fa_39x1 (ev (t := 3) (v := (.pointer (some ⟨g949, 0, none⟩))) rfl q981)) ?_
      refine s_val (v := (.int .i64 a1.Owner)) (won rfl) rfl rfl (x_load rfl ty1x3 (ev (t := 48) rfl rfl) (seg_cell (o' := 0) (j := 1) hm1011 (k := 1) rfl rfl rfl)) ?_
      refine s_call (won rfl) rfl rfl (x_call rfl rfl cl_85 (map_lit (map_cons (ev (t := 47) rfl rfl) (map_cons (ev (t := 49) rfl rfl) map_nil)))) (impl_Pool_take_ok (hR := (cat [])) (hF := cat [sg g949 39 (0, 0) [] [(.int .i64 a1.Kind), (.int .i64 a1.Owner), (.int .i64 a1.To), (.int .i64 a1.Buffer)] [], sg g953 35 (0, 0) [] [(.int .i64 0), (.int .i64 0)] [], sg g971 35 (0, 0) [] [(.int .i64 0), (.int .i64 s985)] [], hF]) a0 a1.Owner H0x0 H0x1 hp0 (Mem.grp [sg g0 T0 fr0 pre0 [v0x0, v0x1] post0, h0x0, h0x1] [sg g949 39 (0, 0) [] [(.int .i64 a1.Kind), (.int .i64 a1.Owner), (.int .i64 a1.To), (.int .i64 a1.Buffer)] [], sg g953 35 (0, 0) [] [(.int .i64 0), (.int .i64 0)] [], sg g971 35 (0, 0) [] [(.int .i64 0), (.int .i64 s985)] [], hF] (Mem.pick [0, 4, 5, 1, 2, 3, 6] rfl hm1011)) hr1350) ?_
      rintro e w1359 ⟨v1352, h1354, v1356, h1358, rfl, H1353, H1357, hm1360⟩
      refine ⟨_, rfl, ?_⟩
      replace hm1360 : Mem w0 w1359 (cat [sg g0 T0 fr0 pre0 [v1352, v1356] post0, h1354, h1358, sg g949 39 (0, 0) [] [(.int .i64 a1.Kind), (.int .i64 a1.Owner), (.int .i64 a1.To), (.int .i64 a1.Buffer)] [], sg g953 35 (0, 0) [] [(.int .i64 0), (.int .i64 0)] [], sg g971 35 (0, 0) [] [(.int .i64 0), (.int .i64 s985)] [], hF]) := Mem.ung [sg g0 T0 fr0 pre0 [v1352, v1356] post0, h1354, h1358] [sg g949 39 (0, 0) [] [(.int .i64 a1.Kind), (.int .i64 a1.Owner), (.int .i64 a1.To), (.int .i64 a1.Buffer)] [], sg g953 35 (0, 0) [] [(.int .i64 0), (.int .i64 0)] [], sg g971 35 (0, 0) [] [(.int .i64 0), (.int .i64 s985)] [], hF] hm1360
      refine s_exs (won rfl) rfl (e_store (vs := [(.int .i64 r1350.1.Code), (.int .i64 r1350.1.Buffer)]) (o' := 0) (j := 0) rfl sz_35 (ev (t := 4) (v := (.pointer (some ⟨g953, 0, none⟩))) rfl q982) (ev (t := 50) rfl rfl) rfl rfl hm1360 (k := 4) rfl rfl rfl) ?_
      intro w1361 hm1362
      replace hm1362 : Mem w0 w1361 (cat [sg g0 T0 fr0 pre0 [v1352, v1356] post0, h1354, h1358, sg g949 39 (0, 0) [] [(.int .i64 a1.Kind), (.int .i64 a1.Owner), (.int .i64 a1.To), (.int .i64 a1.Buffer)] [], sg g953 35 (0, 0) [] [(.int .i64 r1350.1.Code), (.int .i64 r1350.1.Buffer)] [], sg g971 35 (0, 0) [] [(.int .i64 0), (.int .i64 s985)] [], hF]) := hm1362
      refine wpList_nil ?_
      have hm1363 : Mem w0 w1361 (cat [sg g0 T0 fr0 pre0 [v1352, v1356] post0, h1354, h1358, sg g953 35 (0, 0) [] [(.int .i64 r1350.1.Code), (.int .i64 r1350.1.Buffer)] [], hF]) := Mem.pick [0, 1, 2, 4, 6] rfl hm1362
      refine nx ?_
      refine wp_ret ?_
      refine rb ?_
      refine xr ?_
      obtain rfl := Option.some.inj he
      replace he := outE hk1347
      obtain rfl := Option.some.inj he
      refine r_ret (v := (.agg #[(.int .i64 r1350.1.Code), (.int .i64 r1350.1.Buffer)])) (rv_one rfl (RVs.cell (cs := [(.int .i64 r1350.1.Code), (.int .i64 r1350.1.Buffer)]) rfl q982 tyN_35 (seg_cells (o' := 0) (j := 0) hm1363 (k := 3) rfl rfl rfl) RVs.nil)) rfl ?_
      exact ⟨v1352, h1354, v1356, h1358, rfl, H1353, H1357, Mem.pick [0, 1, 2, 4] rfl hm1363⟩
     ·
      replace he := bifF he hb1349
      refine c_false rfl (p := (decide (a1.Kind = 1))) rfl rfl hb1349 ?_
      refine wp_seq ?_
      refine wp_region_lit ?_
      refine s_val (v := (.bool (decide (a1.Kind = 4)))) (won rfl) rfl rfl (x_eql rfl (ev (t := 44) rfl rfl) rfl) ?_
      refine s_val (v := (.bool (decide (a1.Kind = 4)))) (won rfl) rfl rfl (x_assign rfl (ev (t := 52) rfl rfl)) ?_
      refine wpList_nil ?_
      refine nx ?_
      rcases Bool.eq_false_or_eq_true ((decide (a1.Kind = 4))) with hb1364 | hb1364
      ·
       replace he := bifT he hb1364
       refine c_true rfl (p := (decide (a1.Kind = 4))) rfl rfl hb1364 ?_
       refine wp_seq ?_
       obtain ⟨r1365, hr1365, he⟩ := bindE he
       refine wp_region_lit ?_
       refine s_val (v := (.pointer (some ⟨g0, o0, none⟩))) (won rfl) rfl rfl (x_move rfl (ev (t := 0) (v := (.pointer (some ⟨g0, o0, none⟩))) rfl q980)) ?_
       refine s_val (v := (.pointer (some ⟨g949, 1, none⟩))) (won rfl) rfl rfl (x_field rfl fa_39x1 (ev (t := 3) (v := (.pointer (some ⟨g949, 0, none⟩))) rfl q981)) ?_
       refine s_val (v := (.int .i64 a1.Owner)) (won rfl) rfl rfl (x_load rfl ty1x3 (ev (t := 54) rfl rfl) (seg_cell (o' := 0) (j := 1) hm1011 (k := 1) rfl rfl rfl)) ?_
       refine s_call (won rfl) rfl rfl (x_call rfl rfl cl_65 (map_lit (map_cons (ev (t := 53) rfl rfl) (map_cons (ev (t := 55) rfl rfl) map_nil)))) (impl_Pool_held_ok F (hR := (cat [h0x0, h0x1])) (hF := cat [sg g949 39 (0, 0) [] [(.int .i64 a1.Kind), (.int .i64 a1.Owner), (.int .i64 a1.To), (.int .i64 a1.Buffer)] [], sg g953 35 (0, 0) [] [(.int .i64 0), (.int .i64 0)] [], sg g971 35 (0, 0) [] [(.int .i64 0), (.int .i64 s985)] [], h0x0, h0x1, hF]) a0 a1.Owner ((H0x0.rd w0).mono (Sub.at_ (k := 0) rfl)) ((H0x1.rd w0).mono (Sub.at_ (k := 1) rfl)) (subc (Sub.at_ (k := 3) rfl) (subc (Sub.at_ (k := 4) rfl) subn)) hp0 (Mem.grp [sg g0 T0 fr0 pre0 [v0x0, v0x1] post0] [sg g949 39 (0, 0) [] [(.int .i64 a1.Kind), (.int .i64 a1.Owner), (.int .i64 a1.To), (.int .i64 a1.Buffer)] [], sg g953 35 (0, 0) [] [(.int .i64 0), (.int .i64 0)] [], sg g971 35 (0, 0) [] [(.int .i64 0), (.int .i64 s985)] [], h0x0, h0x1, hF] (Mem.pick [0, 1, 2, 3, 4, 5, 6] rfl hm1011)) hr1365) ?_
       rintro e w1370 ⟨v1367, h1369, rfl, H1368, hm1371⟩
       refine ⟨_, rfl, ?_⟩
       replace hm1371 : Mem w0 w1370 (cat [sg g0 T0 fr0 pre0 [v0x0, v0x1] post0, h1369, sg g949 39 (0, 0) [] [(.int .i64 a1.Kind), (.int .i64 a1.Owner), (.int .i64 a1.To), (.int .i64 a1.Buffer)] [], sg g953 35 (0, 0) [] [(.int .i64 0), (.int .i64 0)] [], sg g971 35 (0, 0) [] [(.int .i64 0), (.int .i64 s985)] [], h0x0, h0x1, hF]) := Mem.ung [sg g0 T0 fr0 pre0 [v0x0, v0x1] post0, h1369] [sg g949 39 (0, 0) [] [(.int .i64 a1.Kind), (.int .i64 a1.Owner), (.int .i64 a1.To), (.int .i64 a1.Buffer)] [], sg g953 35 (0, 0) [] [(.int .i64 0), (.int .i64 0)] [], sg g971 35 (0, 0) [] [(.int .i64 0), (.int .i64 s985)] [], h0x0, h0x1, hF] hm1371
       refine s_val (v := v1367) (won rfl) rfl rfl (x_assign rfl (ev (t := 56) rfl rfl)) ?_
       refine wpList_nil ?_
       have hm1372 : Mem w0 w1370 (cat [sg g0 T0 fr0 pre0 [v0x0, v0x1] post0, h1369, sg g953 35 (0, 0) [] [(.int .i64 0), (.int .i64 0)] [], h0x0, h0x1, hF]) := Mem.pick [0, 1, 3, 5, 6, 7] rfl hm1371
       refine nx ?_
       obtain ⟨s1523, hT1525, hk1524⟩ := bindE he
       replace he := hT1525
       refine wp_seqJ (fun a w => ∃ (v1514 : Value) (h1515 : Hp) (v1518 : Value) (h1519 : Hp) (f : Nat → Value), a = fr 112 f ∧ f 4 = (.pointer (some ⟨g953, 0, none⟩)) ∧ f 6 = v1367 ∧ OwF 3 (FK.int .i64) v1514 s1523.1 h1515 ∧ OwF 3 (FK.int .i64) v1518 s1523.2 h1519 ∧ Mem w0 w (cat [sg g0 T0 fr0 pre0 [v1514, v1518] post0, sg g953 35 (0, 0) [] [(.int .i64 0), (.int .i64 0)] [], h1515, h1519, h1369, hF])) ?_ ?_
       ·
        refine wp_seq ?_
        refine wp_region_lit ?_
        refine s_val (v := v1367) (won rfl) rfl rfl (x_move rfl (ev (t := 6) rfl rfl)) ?_
        refine s_val (v := (.int .i64 (r1365.length : Int))) (won rfl) rfl rfl (x_len rfl slt_26 (ev (t := 57) rfl rfl) (H1368).sl) ?_
        refine s_val (v := (.int .i64 0)) (won rfl) rfl rfl (x_move rfl rfl) ?_
        refine wpList_nil ?_
        refine nx ?_
        refine wp_block ?_
        refine wp_fuel (I := fun k => fun a w => ∃ (s1595 : (List Int)) (s1599 : (List Int)) (s1608 : Int) (v1596 : Value) (h1597 : Hp) (v1600 : Value) (h1601 : Hp) (f : Nat → Value), impl_Pool_act_l1 F r1365 k s1595 s1599 s1608 = some s1523 ∧ a = fr 112 f ∧ f 0 = (.pointer (some ⟨g0, o0, none⟩)) ∧ f 4 = (.pointer (some ⟨g953, 0, none⟩)) ∧ f 6 = v1367 ∧ f 57 = v1367 ∧ f 58 = (.int .i64 (r1365.length : Int)) ∧ f 59 = (.int .i64 s1608) ∧ OwF 3 (FK.int .i64) v1596 s1595 h1597 ∧ OwF 3 (FK.int .i64) v1600 s1599 h1601 ∧ Mem w0 w (cat [sg g0 T0 fr0 pre0 [v1596, v1600] post0, sg g953 35 (0, 0) [] [(.int .i64 0), (.int .i64 0)] [], h1597, h1601, h1369, hF])) F _ _ ⟨a0.Free, a0.Owner, 0, v0x0, h0x0, v0x1, h0x1, _, he, rfl, q980, q982, rfl, rfl, rfl, rfl, H0x0, H0x1, Mem.pick [0, 2, 3, 4, 1, 5] rfl hm1372⟩ ?_ ?_
        ·
         rintro a w ⟨s1595, s1599, s1608, v1596, h1597, v1600, h1601, f, he, rfl, q1603, q1604, q1605, q1606, q1607, q1609, H1598, H1602, hm1637⟩
         rw [impl_Pool_act_l1] at he; exact none_no he
        ·
         rintro k a w ⟨s1595, s1599, s1608, v1596, h1597, v1600, h1601, f, he, rfl, q1603, q1604, q1605, q1606, q1607, q1609, H1598, H1602, hm1639⟩
         rw [impl_Pool_act_l1] at he
         refine wp_seq ?_
         refine wp_region_lit ?_
         refine s_val (v := (.bool (decide (s1608 < (r1365.length : Int))))) (won rfl) rfl rfl (x_lss rfl (ev (t := 59) (v := (.int .i64 s1608)) rfl q1609) (ev (t := 58) (v := (.int .i64 (r1365.length : Int))) rfl q1607)) ?_
         refine wpList_nil ?_
         refine nx ?_
         refine wp_seq ?_
         rcases Bool.eq_false_or_eq_true ((decide (s1608 < (r1365.length : Int)))) with hb1641 | hb1641
         ·
          replace he := bifT he hb1641
          refine c_true rfl (p := (decide (s1608 < (r1365.length : Int)))) rfl rfl hb1641 ?_
          refine wp_skip ?_
          refine nx ?_
          refine wp_seq ?_
          refine wp_block ?_
          refine wp_seq ?_
          obtain ⟨hg1654, he⟩ := gdE he
          refine wp_region_lit ?_
          refine s_val (v := (.pointer (some ((slA v1367).add (Int.toNat s1608 * 1))))) (won rfl) rfl rfl (x_index (d := (FK.int .i64)) rfl slt_26 (ev (t := 57) (v := v1367) rfl q1606) (ev (t := 59) (v := (.int .i64 s1608)) rfl q1609) (H1368.rd w0) hg1654.1 hg1654.2) ?_
          refine s_val (v := (.int .i64 (ix r1365 s1608))) (won rfl) rfl rfl (x_load rfl ty1x3 (ev (t := 61) rfl rfl) (RdF.cell0 (H1368.rd w0) hm1639 (Sub.at_ (k := 4) rfl) hg1654.1 hg1654.2 rfl)) ?_
          refine s_val (v := (.int .i64 (ix r1365 s1608))) (won rfl) rfl rfl (x_assign rfl (ev (t := 62) rfl rfl)) ?_
          refine wpList_nil ?_
          refine nx ?_
          obtain ⟨r1655, hr1655, he⟩ := bindE he
          refine wp_region_lit ?_
          refine s_val (v := (.pointer (some ⟨g0, o0, none⟩))) (won rfl) rfl rfl (x_move rfl (ev (t := 0) (v := (.pointer (some ⟨g0, o0, none⟩))) rfl q1603)) ?_
          refine s_val (v := (.int .i64 (ix r1365 s1608))) (won rfl) rfl rfl (x_move rfl (ev (t := 8) rfl rfl)) ?_
          refine s_call (won rfl) rfl rfl (x_call rfl rfl cl_86 (map_lit (map_cons (ev (t := 63) rfl rfl) (map_cons (ev (t := 64) rfl rfl) map_nil)))) (impl_Pool_release_ok (hR := (cat [])) (hF := cat [sg g953 35 (0, 0) [] [(.int .i64 0), (.int .i64 0)] [], h1369, hF]) (impl_Pool.mk s1595 s1599) (ix r1365 s1608) H1598 H1602 hp0 (Mem.grp [sg g0 T0 fr0 pre0 [v1596, v1600] post0, h1597, h1601] [sg g953 35 (0, 0) [] [(.int .i64 0), (.int .i64 0)] [], h1369, hF] (Mem.pick [0, 2, 3, 1, 4, 5] rfl hm1639)) hr1655) ?_
          rintro e w1664 ⟨v1657, h1659, v1661, h1663, rfl, H1658, H1662, hm1665⟩
          refine ⟨_, rfl, ?_⟩
          replace hm1665 : Mem w0 w1664 (cat [sg g0 T0 fr0 pre0 [v1657, v1661] post0, h1659, h1663, sg g953 35 (0, 0) [] [(.int .i64 0), (.int .i64 0)] [], h1369, hF]) := Mem.ung [sg g0 T0 fr0 pre0 [v1657, v1661] post0, h1659, h1663] [sg g953 35 (0, 0) [] [(.int .i64 0), (.int .i64 0)] [], h1369, hF] hm1665
          refine wpList_nil ?_
          refine nb ?_
          refine nx ?_
          refine wp_region_lit ?_
          refine s_val (v := (.int .i64 (IntKind.wrap .i64 (s1608 + 1)))) (won rfl) rfl rfl (x_add rfl (ev (t := 59) (v := (.int .i64 s1608)) rfl q1609) rfl) ?_
          refine s_val (v := (.int .i64 (IntKind.wrap .i64 (s1608 + 1)))) (won rfl) rfl rfl (x_move rfl (ev (t := 66) rfl rfl)) ?_
          refine wpList_nil ?_
          refine nx ?_
          exact ⟨r1655.Free, r1655.Owner, (IntKind.wrap .i64 (s1608 + 1)), v1657, h1659, v1661, h1663, _, he, rfl, q1603, q1604, q1605, q1606, q1607, rfl, H1658, H1662, Mem.pick [0, 3, 1, 2, 4, 5] rfl hm1665⟩
         ·
          replace he := bifF he hb1641
          refine c_false rfl (p := (decide (s1608 < (r1365.length : Int)))) rfl rfl hb1641 ?_
          refine wp_exit ?_
          refine xs ?_
          refine xs ?_
          refine xb ?_
          refine nx ?_
          obtain rfl := Option.some.inj he
          exact ⟨v1596, h1597, v1600, h1601, _, rfl, q1604, q1605, H1598, H1602, Mem.pick [0, 1, 2, 3, 4, 5] rfl hm1639⟩
       ·
        rintro a w ⟨v1514, h1515, v1518, h1519, f, rfl, q1521, q1522, H1516, H1520, hm1667⟩
        replace he := hk1524
        refine wp_seq ?_
        refine wp_region_lit ?_
        refine s_val (v := v1367) (won rfl) rfl rfl (x_move rfl (ev (t := 6) (v := v1367) rfl q1522)) ?_
        refine s_val (v := (.int .i64 (r1365.length : Int))) (won rfl) rfl rfl (x_len rfl slt_26 (ev (t := 67) rfl rfl) (H1368).sl) ?_
        refine s_val (v := (.agg #[(.int .i64 0), (.int .i64 (r1365.length : Int))])) (won rfl) rfl rfl (x_build (cells := [(.int .i64 0), (.int .i64 (r1365.length : Int))]) (zc := [.int .i64 0, .int .i64 0]) (sizes := [(0, 1), (1, 1)]) (ps := [(1, (.int .i64 (r1365.length : Int)))]) rfl zt_35 rfl uf_35 ufz_35 (pmap_lit (pmap_cons (ev (t := 68) rfl rfl) pmap_nil)) (fill_cons (cs := [(.int .i64 (r1365.length : Int))]) rfl rfl rfl fill_nil)) ?_
        refine s_exs (won rfl) rfl (e_store (vs := [(.int .i64 0), (.int .i64 (r1365.length : Int))]) (o' := 0) (j := 0) rfl sz_35 (ev (t := 4) (v := (.pointer (some ⟨g953, 0, none⟩))) rfl q1521) (ev (t := 69) rfl rfl) rfl rfl hm1667 (k := 1) rfl rfl rfl) ?_
        intro w1668 hm1669
        replace hm1669 : Mem w0 w1668 (cat [sg g0 T0 fr0 pre0 [v1514, v1518] post0, sg g953 35 (0, 0) [] [(.int .i64 0), (.int .i64 (r1365.length : Int))] [], h1515, h1519, h1369, hF]) := hm1669
        refine wpList_nil ?_
        have hm1670 : Mem w0 w1668 (cat [sg g0 T0 fr0 pre0 [v1514, v1518] post0, sg g953 35 (0, 0) [] [(.int .i64 0), (.int .i64 (r1365.length : Int))] [], h1515, h1519, hF]) := Mem.pick [0, 1, 2, 3, 5] rfl hm1669
        refine nx ?_
        refine wp_ret ?_
        refine rb ?_
        refine xr ?_
        obtain rfl := Option.some.inj he
        replace he := outE hk1347
        obtain rfl := Option.some.inj he
        refine r_ret (v := (.agg #[(.int .i64 0), (.int .i64 (r1365.length : Int))])) (rv_one rfl (RVs.cell (cs := [(.int .i64 0), (.int .i64 (r1365.length : Int))]) rfl q1521 tyN_35 (seg_cells (o' := 0) (j := 0) hm1670 (k := 1) rfl rfl rfl) RVs.nil)) rfl ?_
        exact ⟨v1514, h1515, v1518, h1519, rfl, H1516, H1520, Mem.pick [0, 2, 3, 4] rfl hm1670⟩
      ·
       replace he := bifF he hb1364
       refine c_false rfl (p := (decide (a1.Kind = 4))) rfl rfl hb1364 ?_
       refine wp_skip ?_
       refine nb ?_
       refine nx ?_
       obtain rfl := Option.some.inj he
       exact ⟨(), _, rfl, rfl, q980, q981, q982, q984, Mem.pick [0, 1, 2, 3, 4, 5, 6] rfl hm1011⟩
    ·
     rintro a w ⟨s1345, f, rfl, rfl, q1341, q1342, q1343, q1344, hm1672⟩
     replace he := goE hk1347
     refine wp_seq ?_
     refine wp_seq ?_
     obtain ⟨r1684, hr1684, he⟩ := bindE he
     obtain ⟨hg1685, he⟩ := gdE he
     refine wp_qregion (cat [sg g0 T0 fr0 pre0 [v0x0, v0x1] post0, sg g949 39 (0, 0) [] [(.int .i64 a1.Kind), (.int .i64 a1.Owner), (.int .i64 a1.To), (.int .i64 a1.Buffer)] [], sg g953 35 (0, 0) [] [(.int .i64 0), (.int .i64 0)] [], sg g971 35 (0, 0) [] [(.int .i64 0), (.int .i64 s985)] [], h0x0, h0x1, hF]) mixed (by kernel_rfl) hm1672 ?_
     refine q_val (v := (.pointer (some ⟨g949, 3, none⟩))) (won rfl) rfl rfl (fun wq hq => (x_field rfl fa_39x3 (ev (t := 3) (v := (.pointer (some ⟨g949, 0, none⟩))) rfl q1342))) ?_
     refine q_val (v := (.int .i64 a1.Buffer)) (won rfl) rfl rfl (fun wq hq => (x_load rfl ty1x3 (ev (t := 70) rfl rfl) (seg_cell (o' := 0) (j := 3) hq (k := 1) rfl rfl rfl))) ?_
     refine q_val (v := (.pointer (some ⟨g0, o0, none⟩))) (won rfl) rfl rfl (fun wq hq => (x_move rfl (ev (t := 0) (v := (.pointer (some ⟨g0, o0, none⟩))) rfl q1341))) ?_
     refine q_val (v := (.pointer (some ⟨g0, o0, none⟩))) (won rfl) rfl rfl (fun wq hq => (x_nil rfl (ev (t := 72) rfl rfl))) ?_
     refine q_val (v := (.pointer (some ⟨g0, o0 + 1, none⟩))) (won rfl) rfl rfl (fun wq hq => (x_field rfl fa_28x1 (ev (t := 73) rfl rfl))) ?_
     refine q_val (v := v0x1) (won rfl) rfl rfl (fun wq hq => (x_load rfl ty1x26 (ev (t := 74) rfl rfl) (seg_cell (o' := o0) (j := 1) hq (k := 0) rfl hp0 rfl))) ?_
     refine q_val (v := (.int .i64 (a0.Owner.length : Int))) (won rfl) rfl rfl (fun wq hq => (x_len rfl slt_26 (ev (t := 75) rfl rfl) (H0x1).sl)) ?_
     refine q_val (v := (.int .i64 (IntKind.wrap .i64 ((a0.Owner.length : Int) - 1)))) (won rfl) rfl rfl (fun wq hq => (x_sub rfl (ev (t := 76) rfl rfl) rfl)) ?_
     refine q_call (v := (.bool r1684)) (won rfl) rfl rfl (fun wq hq => (x_call rfl rfl cl_58 (map_lit (map_cons (ev (t := 71) rfl rfl) (map_cons rfl (map_cons (ev (t := 77) rfl rfl) map_nil)))))) (fun wq hq => ((impl_inRange_ok (hR := (cat [])) (hF := cat [sg g0 T0 fr0 pre0 [v0x0, v0x1] post0, sg g949 39 (0, 0) [] [(.int .i64 a1.Kind), (.int .i64 a1.Owner), (.int .i64 a1.To), (.int .i64 a1.Buffer)] [], sg g953 35 (0, 0) [] [(.int .i64 0), (.int .i64 0)] [], sg g971 35 (0, 0) [] [(.int .i64 0), (.int .i64 s985)] [], h0x0, h0x1, hF]) a1.Buffer 0 (IntKind.wrap .i64 ((a0.Owner.length : Int) - 1))  (Mem.one hq) hr1684)).mono fun e w2 h => ⟨h.1, Mem.un h.2⟩) ?_
     refine q_val (v := (.bool (!r1684))) (won rfl) rfl rfl (fun wq hq => (x_not rfl (ev (t := 78) rfl rfl))) ?_
     refine q_val (v := (.bool (!r1684))) (won rfl) rfl rfl (fun wq hq => (x_move rfl (ev (t := 79) rfl rfl))) ?_
     refine q_cval (p := (!(!r1684))) (v := (.pointer (some ⟨g0, o0, none⟩))) (won_f (j := 10) (t := 80) (q := (!r1684)) rfl rfl rfl rfl rfl) rfl rfl (fun hp wq hq => (x_move rfl (ev (t := 0) (v := (.pointer (some ⟨g0, o0, none⟩))) rfl q1341))) ?_
     refine q_cval (p := (!(!r1684))) (v := (.pointer (some ⟨g0, o0, none⟩))) (won_f (j := 10) (t := 80) (q := (!r1684)) rfl rfl rfl rfl rfl) rfl rfl (fun hp wq hq => (x_nil rfl (ev (t := 81) rfl (Eq.trans (b := cv (!(!r1684)) (.pointer (some ⟨g0, o0, none⟩))) rfl (on_c hp))))) ?_
     refine q_cval (p := (!(!r1684))) (v := (.pointer (some ⟨g0, o0 + 1, none⟩))) (won_f (j := 10) (t := 80) (q := (!r1684)) rfl rfl rfl rfl rfl) rfl rfl (fun hp wq hq => (x_field rfl fa_28x1 (ev (t := 82) rfl (Eq.trans (b := cv (!(!r1684)) (.pointer (some ⟨g0, o0, none⟩))) rfl (on_c hp))))) ?_
     refine q_cval (p := (!(!r1684))) (v := v0x1) (won_f (j := 10) (t := 80) (q := (!r1684)) rfl rfl rfl rfl rfl) rfl rfl (fun hp wq hq => (x_load rfl ty1x26 (ev (t := 83) rfl (Eq.trans (b := cv (!(!r1684)) (.pointer (some ⟨g0, o0 + 1, none⟩))) rfl (on_c hp))) (seg_cell (o' := o0) (j := 1) hq (k := 0) rfl hp0 rfl))) ?_
     refine q_cval (p := (!(!r1684))) (v := (.pointer (some ⟨g949, 3, none⟩))) (won_f (j := 10) (t := 80) (q := (!r1684)) rfl rfl rfl rfl rfl) rfl rfl (fun hp wq hq => (x_field rfl fa_39x3 (ev (t := 3) (v := (.pointer (some ⟨g949, 0, none⟩))) rfl q1342))) ?_
     refine q_cval (p := (!(!r1684))) (v := (.int .i64 a1.Buffer)) (won_f (j := 10) (t := 80) (q := (!r1684)) rfl rfl rfl rfl rfl) rfl rfl (fun hp wq hq => (x_load rfl ty1x3 (ev (t := 85) rfl (Eq.trans (b := cv (!(!r1684)) (.pointer (some ⟨g949, 3, none⟩))) rfl (on_c hp))) (seg_cell (o' := 0) (j := 3) hq (k := 1) rfl rfl rfl))) ?_
     refine q_cval (p := (!(!r1684))) (v := (.pointer (some ((slA v0x1).add (Int.toNat a1.Buffer * 1))))) (won_f (j := 10) (t := 80) (q := (!r1684)) rfl rfl rfl rfl rfl) rfl rfl (fun hp wq hq => (x_index (d := (FK.int .i64)) rfl slt_26 (ev (t := 84) rfl (Eq.trans (b := cv (!(!r1684)) v0x1) rfl (on_c hp))) (ev (t := 86) rfl (Eq.trans (b := cv (!(!r1684)) (.int .i64 a1.Buffer)) rfl (on_c hp))) (H0x1.rd w0) (hg1685 hp).1 (hg1685 hp).2)) ?_
     refine q_cval (p := (!(!r1684))) (v := (.int .i64 (ix a0.Owner a1.Buffer))) (won_f (j := 10) (t := 80) (q := (!r1684)) rfl rfl rfl rfl rfl) rfl rfl (fun hp wq hq => (x_load rfl ty1x3 (ev (t := 87) rfl (Eq.trans (b := cv (!(!r1684)) (.pointer (some ((slA v0x1).add (Int.toNat a1.Buffer * 1))))) rfl (on_c hp))) (RdF.cell0 (H0x1.rd w0) hq (Sub.at_ (k := 5) rfl) (hg1685 hp).1 (hg1685 hp).2 rfl))) ?_
     refine q_cval (p := (!(!r1684))) (v := (.pointer (some ⟨g949, 1, none⟩))) (won_f (j := 10) (t := 80) (q := (!r1684)) rfl rfl rfl rfl rfl) rfl rfl (fun hp wq hq => (x_field rfl fa_39x1 (ev (t := 3) (v := (.pointer (some ⟨g949, 0, none⟩))) rfl q1342))) ?_
     refine q_cval (p := (!(!r1684))) (v := (.int .i64 a1.Owner)) (won_f (j := 10) (t := 80) (q := (!r1684)) rfl rfl rfl rfl rfl) rfl rfl (fun hp wq hq => (x_load rfl ty1x3 (ev (t := 89) rfl (Eq.trans (b := cv (!(!r1684)) (.pointer (some ⟨g949, 1, none⟩))) rfl (on_c hp))) (seg_cell (o' := 0) (j := 1) hq (k := 1) rfl rfl rfl))) ?_
     refine q_cval (p := (!(!r1684))) (v := (.bool (!decide ((ix a0.Owner a1.Buffer) = a1.Owner)))) (won_f (j := 10) (t := 80) (q := (!r1684)) rfl rfl rfl rfl rfl) rfl rfl (fun hp wq hq => (x_neq rfl (ev (t := 88) rfl (Eq.trans (b := cv (!(!r1684)) (.int .i64 (ix a0.Owner a1.Buffer))) rfl (on_c hp))) (ev (t := 90) rfl (Eq.trans (b := cv (!(!r1684)) (.int .i64 a1.Owner)) rfl (on_c hp))))) ?_
     refine q_val (v := (.bool ((!r1684) || (!decide ((ix a0.Owner a1.Buffer) = a1.Owner))))) (won rfl) rfl rfl (fun wq hq => (x_pick_or rfl (ev (t := 80) rfl rfl) rfl (fun hq => ev rfl (Eq.trans (b := cv (!(!r1684)) (.bool (!decide ((ix a0.Owner a1.Buffer) = a1.Owner)))) rfl (on_c (not_i hq)))))) ?_
     refine wpQuiet_nil ?_
     intro w1686 hm1687
     refine nx ?_
     rcases Bool.eq_false_or_eq_true (((!r1684) || (!decide ((ix a0.Owner a1.Buffer) = a1.Owner)))) with hb1688 | hb1688
     ·
      replace he := bifT he hb1688
      refine c_true rfl (p := ((!r1684) || (!decide ((ix a0.Owner a1.Buffer) = a1.Owner)))) rfl rfl hb1688 ?_
      refine wp_seq ?_
      refine wp_region_lit ?_
      refine s_val (v := (.pointer (some ⟨g971, 0, none⟩))) (won rfl) rfl rfl (x_field rfl fa_35x0 (ev (t := 5) (v := (.pointer (some ⟨g971, 0, none⟩))) rfl q1344)) ?_
      refine s_exs (won rfl) rfl (e_store (vs := [(.int .i64 5)]) (o' := 0) (j := 0) rfl sz_3 (ev (t := 93) rfl rfl) rfl rfl rfl hm1687 (k := 3) rfl rfl rfl) ?_
      intro w1689 hm1690
      replace hm1690 : Mem w0 w1689 (cat [sg g0 T0 fr0 pre0 [v0x0, v0x1] post0, sg g949 39 (0, 0) [] [(.int .i64 a1.Kind), (.int .i64 a1.Owner), (.int .i64 a1.To), (.int .i64 a1.Buffer)] [], sg g953 35 (0, 0) [] [(.int .i64 0), (.int .i64 0)] [], sg g971 35 (0, 0) [] [(.int .i64 5), (.int .i64 s985)] [], h0x0, h0x1, hF]) := hm1690
      refine wpList_nil ?_
      have hm1691 : Mem w0 w1689 (cat [sg g0 T0 fr0 pre0 [v0x0, v0x1] post0, sg g953 35 (0, 0) [] [(.int .i64 0), (.int .i64 0)] [], sg g971 35 (0, 0) [] [(.int .i64 5), (.int .i64 s985)] [], h0x0, h0x1, hF]) := Mem.pick [0, 2, 3, 4, 5, 6] rfl hm1690
      refine nx ?_
      refine wp_seq ?_
      refine wp_region_lit ?_
      refine s_val (v := (.agg #[(.int .i64 5), (.int .i64 s985)])) (won rfl) rfl rfl (x_loadN (vs := [(.int .i64 5), (.int .i64 s985)]) rfl tyN_35 (ev (t := 5) (v := (.pointer (some ⟨g971, 0, none⟩))) rfl q1344) (seg_cells (o' := 0) (j := 0) hm1691 (k := 2) rfl rfl rfl)) ?_
      refine s_exs (won rfl) rfl (e_store (vs := [(.int .i64 5), (.int .i64 s985)]) (o' := 0) (j := 0) rfl sz_35 (ev (t := 4) (v := (.pointer (some ⟨g953, 0, none⟩))) rfl q1343) (ev (t := 94) rfl rfl) rfl rfl hm1691 (k := 1) rfl rfl rfl) ?_
      intro w1692 hm1693
      replace hm1693 : Mem w0 w1692 (cat [sg g0 T0 fr0 pre0 [v0x0, v0x1] post0, sg g953 35 (0, 0) [] [(.int .i64 5), (.int .i64 s985)] [], sg g971 35 (0, 0) [] [(.int .i64 5), (.int .i64 s985)] [], h0x0, h0x1, hF]) := hm1693
      refine wpList_nil ?_
      have hm1694 : Mem w0 w1692 (cat [sg g0 T0 fr0 pre0 [v0x0, v0x1] post0, sg g953 35 (0, 0) [] [(.int .i64 5), (.int .i64 s985)] [], h0x0, h0x1, hF]) := Mem.pick [0, 1, 3, 4, 5] rfl hm1693
      refine nx ?_
      refine wp_ret ?_
      refine xr ?_
      obtain rfl := Option.some.inj he
      refine r_ret (v := (.agg #[(.int .i64 5), (.int .i64 s985)])) (rv_one rfl (RVs.cell (cs := [(.int .i64 5), (.int .i64 s985)]) rfl q1343 tyN_35 (seg_cells (o' := 0) (j := 0) hm1694 (k := 1) rfl rfl rfl) RVs.nil)) rfl ?_
      exact ⟨v0x0, h0x0, v0x1, h0x1, rfl, H0x0, H0x1, Mem.pick [0, 2, 3, 4] rfl hm1694⟩
     ·
      replace he := bifF he hb1688
      refine c_false rfl (p := ((!r1684) || (!decide ((ix a0.Owner a1.Buffer) = a1.Owner)))) rfl rfl hb1688 ?_
      refine wp_skip ?_
      refine nx ?_
      obtain ⟨s1727, hT1729, hk1728⟩ := bindE he
      replace he := hT1729
      refine wp_seqJ (fun a w => ∃ (v1717 : Value) (h1718 : Hp) (v1722 : Value) (h1723 : Hp) (f : Nat → Value), a = fr 112 f ∧ f 4 = (.pointer (some ⟨g953, 0, none⟩)) ∧ f 5 = (.pointer (some ⟨g971, 0, none⟩)) ∧ OwF 3 (FK.int .i64) v1717 s1727.1 h1718 ∧ OwF 3 (FK.int .i64) v1722 s1727.2 h1723 ∧ Mem w0 w (cat [sg g0 T0 fr0 pre0 [v1717, v1722] post0, sg g953 35 (0, 0) [] [(.int .i64 0), (.int .i64 0)] [], sg g971 35 (0, 0) [] [(.int .i64 0), (.int .i64 s985)] [], h1718, h1723, hF])) ?_ ?_
      ·
       refine wp_seq ?_
       refine wp_region_lit ?_
       refine s_val (v := (.pointer (some ⟨g949, 0, none⟩))) (won rfl) rfl rfl (x_field rfl fa_39x0 (ev (t := 3) (v := (.pointer (some ⟨g949, 0, none⟩))) rfl q1342)) ?_
       refine s_val (v := (.int .i64 a1.Kind)) (won rfl) rfl rfl (x_load rfl ty1x3 (ev (t := 95) rfl rfl) (seg_cell (o' := 0) (j := 0) hm1687 (k := 1) rfl rfl rfl)) ?_
       refine s_val (v := (.bool (decide (a1.Kind = 2)))) (won rfl) rfl rfl (x_eql rfl (ev (t := 96) rfl rfl) rfl) ?_
       refine wpList_nil ?_
       refine nx ?_
       rcases Bool.eq_false_or_eq_true ((decide (a1.Kind = 2))) with hb1730 | hb1730
       ·
        replace he := bifT he hb1730
        refine c_true rfl (p := (decide (a1.Kind = 2))) rfl rfl hb1730 ?_
        obtain ⟨hg1732, he⟩ := gdE he
        refine wp_fit [(0, 1), (1, 1), (2, 1), (3, 1), (4, 1), (5, 1), (6, 1), (7, 1), (8, 1), (9, 2)] (fun w' => Mem w0 w' (cat [sg g0 T0 fr0 pre0 [v0x0, v0x1] post0, sg g949 39 (0, 0) [] [(.int .i64 a1.Kind), (.int .i64 a1.Owner), (.int .i64 a1.To), (.int .i64 a1.Buffer)] [], sg g953 35 (0, 0) [] [(.int .i64 0), (.int .i64 0)] [], sg g971 35 (0, 0) [] [(.int .i64 0), (.int .i64 s985)] [], h0x0, hF])) mixed (by kernel_rfl) (Mem.drew (Mem.pick [0, 1, 2, 3, 4, 6] rfl hm1687)) ?_
        have hm1731 := Mem.drew hm1687
        refine z_r (v := (.pointer (some ⟨g0, o0, none⟩))) rfl (won rfl) rfl rfl ((x_move rfl (ev (t := 0) (v := (.pointer (some ⟨g0, o0, none⟩))) rfl q1341))) ?_
        refine z_r (v := (.pointer (some ⟨g0, o0, none⟩))) rfl (won rfl) rfl rfl ((x_nil rfl (ev (t := 98) rfl rfl))) ?_
        refine z_r (v := (.pointer (some ⟨g0, o0 + 1, none⟩))) rfl (won rfl) rfl rfl ((x_field rfl fa_28x1 (ev (t := 99) rfl rfl))) ?_
        refine z_r (v := v0x1) rfl (won rfl) rfl rfl ((x_load rfl ty1x26 (ev (t := 100) rfl rfl) (seg_cell (o' := o0) (j := 1) hm1731 (k := 0) rfl hp0 rfl))) ?_
        refine z_r (v := (.pointer (some ⟨g949, 3, none⟩))) rfl (won rfl) rfl rfl ((x_field rfl fa_39x3 (ev (t := 3) (v := (.pointer (some ⟨g949, 0, none⟩))) rfl q1342))) ?_
        refine z_r (v := (.int .i64 a1.Buffer)) rfl (won rfl) rfl rfl ((x_load rfl ty1x3 (ev (t := 102) rfl rfl) (seg_cell (o' := 0) (j := 3) hm1731 (k := 1) rfl rfl rfl))) ?_
        refine z_r (v := (.pointer (some ⟨g949, 2, none⟩))) rfl (won rfl) rfl rfl ((x_field rfl fa_39x2 (ev (t := 3) (v := (.pointer (some ⟨g949, 0, none⟩))) rfl q1342))) ?_
        refine z_r (v := (.int .i64 a1.To)) rfl (won rfl) rfl rfl ((x_load rfl ty1x3 (ev (t := 104) rfl rfl) (seg_cell (o' := 0) (j := 2) hm1731 (k := 1) rfl rfl rfl))) ?_
        refine z_r (v := (.pointer (some ((slA v0x1).add (Int.toNat a1.Buffer * 1))))) rfl (won rfl) rfl rfl ((x_index (d := (FK.int .i64)) rfl slt_26 (ev (t := 101) rfl rfl) (ev (t := 103) rfl rfl) (H0x1.rd w0) hg1732.1 hg1732.2)) ?_
        refine z_exw rfl (won rfl) rfl (e_storeF (d := (FK.int .i64)) (s := a1.To) (vs := [(.int .i64 a1.To)]) (j := 0) rfl sz_3 (ev (t := 106) rfl rfl) (add_0 _).symm (ev (t := 105) rfl rfl) rfl rfl H0x1 hg1732.1 hg1732.2 rfl rfl hm1731 (k := 5) rfl) ?_
        rintro h1733 w1735 ⟨H1734, hm1736⟩
        replace hm1736 : Mem w0 w1735 (cat [sg g0 T0 fr0 pre0 [v0x0, v0x1] post0, sg g949 39 (0, 0) [] [(.int .i64 a1.Kind), (.int .i64 a1.Owner), (.int .i64 a1.To), (.int .i64 a1.Buffer)] [], sg g953 35 (0, 0) [] [(.int .i64 0), (.int .i64 0)] [], sg g971 35 (0, 0) [] [(.int .i64 0), (.int .i64 s985)] [], h0x0, h1733, hF]) := hm1736
        refine ⟨Mem.pick [0, 1, 2, 3, 4, 6] rfl hm1736, ?_⟩
        refine z_nil ?_
        have hm1737 : Mem w0 w1735 (cat [sg g0 T0 fr0 pre0 [v0x0, v0x1] post0, sg g953 35 (0, 0) [] [(.int .i64 0), (.int .i64 0)] [], sg g971 35 (0, 0) [] [(.int .i64 0), (.int .i64 s985)] [], h0x0, h1733, hF]) := Mem.pick [0, 2, 3, 4, 5, 6] rfl hm1736
        refine nx ?_
        obtain rfl := Option.some.inj he
        exact ⟨v0x0, h0x0, v0x1, h1733, _, rfl, q1343, q1344, H0x0, H1734, Mem.pick [0, 1, 2, 3, 4, 5] rfl hm1737⟩
       ·
        replace he := bifF he hb1730
        refine c_false rfl (p := (decide (a1.Kind = 2))) rfl rfl hb1730 ?_
        obtain ⟨r1738, hr1738, he⟩ := bindE he
        refine wp_region_lit ?_
        refine s_val (v := (.pointer (some ⟨g0, o0, none⟩))) (won rfl) rfl rfl (x_move rfl (ev (t := 0) (v := (.pointer (some ⟨g0, o0, none⟩))) rfl q1341)) ?_
        refine s_val (v := (.pointer (some ⟨g949, 3, none⟩))) (won rfl) rfl rfl (x_field rfl fa_39x3 (ev (t := 3) (v := (.pointer (some ⟨g949, 0, none⟩))) rfl q1342)) ?_
        refine s_val (v := (.int .i64 a1.Buffer)) (won rfl) rfl rfl (x_load rfl ty1x3 (ev (t := 108) rfl rfl) (seg_cell (o' := 0) (j := 3) hm1687 (k := 1) rfl rfl rfl)) ?_
        refine s_call (won rfl) rfl rfl (x_call rfl rfl cl_86 (map_lit (map_cons (ev (t := 107) rfl rfl) (map_cons (ev (t := 109) rfl rfl) map_nil)))) (impl_Pool_release_ok (hR := (cat [])) (hF := cat [sg g949 39 (0, 0) [] [(.int .i64 a1.Kind), (.int .i64 a1.Owner), (.int .i64 a1.To), (.int .i64 a1.Buffer)] [], sg g953 35 (0, 0) [] [(.int .i64 0), (.int .i64 0)] [], sg g971 35 (0, 0) [] [(.int .i64 0), (.int .i64 s985)] [], hF]) a0 a1.Buffer H0x0 H0x1 hp0 (Mem.grp [sg g0 T0 fr0 pre0 [v0x0, v0x1] post0, h0x0, h0x1] [sg g949 39 (0, 0) [] [(.int .i64 a1.Kind), (.int .i64 a1.Owner), (.int .i64 a1.To), (.int .i64 a1.Buffer)] [], sg g953 35 (0, 0) [] [(.int .i64 0), (.int .i64 0)] [], sg g971 35 (0, 0) [] [(.int .i64 0), (.int .i64 s985)] [], hF] (Mem.pick [0, 4, 5, 1, 2, 3, 6] rfl hm1687)) hr1738) ?_
        rintro e w1747 ⟨v1740, h1742, v1744, h1746, rfl, H1741, H1745, hm1748⟩
        refine ⟨_, rfl, ?_⟩
        replace hm1748 : Mem w0 w1747 (cat [sg g0 T0 fr0 pre0 [v1740, v1744] post0, h1742, h1746, sg g949 39 (0, 0) [] [(.int .i64 a1.Kind), (.int .i64 a1.Owner), (.int .i64 a1.To), (.int .i64 a1.Buffer)] [], sg g953 35 (0, 0) [] [(.int .i64 0), (.int .i64 0)] [], sg g971 35 (0, 0) [] [(.int .i64 0), (.int .i64 s985)] [], hF]) := Mem.ung [sg g0 T0 fr0 pre0 [v1740, v1744] post0, h1742, h1746] [sg g949 39 (0, 0) [] [(.int .i64 a1.Kind), (.int .i64 a1.Owner), (.int .i64 a1.To), (.int .i64 a1.Buffer)] [], sg g953 35 (0, 0) [] [(.int .i64 0), (.int .i64 0)] [], sg g971 35 (0, 0) [] [(.int .i64 0), (.int .i64 s985)] [], hF] hm1748
        refine wpList_nil ?_
        have hm1749 : Mem w0 w1747 (cat [sg g0 T0 fr0 pre0 [v1740, v1744] post0, h1742, h1746, sg g953 35 (0, 0) [] [(.int .i64 0), (.int .i64 0)] [], sg g971 35 (0, 0) [] [(.int .i64 0), (.int .i64 s985)] [], hF]) := Mem.pick [0, 1, 2, 4, 5, 6] rfl hm1748
        refine nx ?_
        obtain rfl := Option.some.inj he
        exact ⟨v1740, h1742, v1744, h1746, _, rfl, q1343, q1344, H1741, H1745, Mem.pick [0, 3, 4, 1, 2, 5] rfl hm1749⟩
      ·
       rintro a w ⟨v1717, h1718, v1722, h1723, f, rfl, q1725, q1726, H1719, H1724, hm1751⟩
       replace he := hk1728
       refine wp_seq ?_
       refine wp_region_lit ?_
       refine s_val (v := (.agg #[(.int .i64 0), (.int .i64 s985)])) (won rfl) rfl rfl (x_loadN (vs := [(.int .i64 0), (.int .i64 s985)]) rfl tyN_35 (ev (t := 5) (v := (.pointer (some ⟨g971, 0, none⟩))) rfl q1726) (seg_cells (o' := 0) (j := 0) hm1751 (k := 2) rfl rfl rfl)) ?_
       refine s_exs (won rfl) rfl (e_store (vs := [(.int .i64 0), (.int .i64 s985)]) (o' := 0) (j := 0) rfl sz_35 (ev (t := 4) (v := (.pointer (some ⟨g953, 0, none⟩))) rfl q1725) (ev (t := 111) rfl rfl) rfl rfl hm1751 (k := 1) rfl rfl rfl) ?_
       intro w1752 hm1753
       replace hm1753 : Mem w0 w1752 (cat [sg g0 T0 fr0 pre0 [v1717, v1722] post0, sg g953 35 (0, 0) [] [(.int .i64 0), (.int .i64 s985)] [], sg g971 35 (0, 0) [] [(.int .i64 0), (.int .i64 s985)] [], h1718, h1723, hF]) := hm1753
       refine wpList_nil ?_
       have hm1754 : Mem w0 w1752 (cat [sg g0 T0 fr0 pre0 [v1717, v1722] post0, sg g953 35 (0, 0) [] [(.int .i64 0), (.int .i64 s985)] [], h1718, h1723, hF]) := Mem.pick [0, 1, 3, 4, 5] rfl hm1753
       refine nx ?_
       refine wp_ret ?_
       obtain rfl := Option.some.inj he
       refine r_ret (v := (.agg #[(.int .i64 0), (.int .i64 s985)])) (rv_one rfl (RVs.cell (cs := [(.int .i64 0), (.int .i64 s985)]) rfl q1725 tyN_35 (seg_cells (o' := 0) (j := 0) hm1754 (k := 1) rfl rfl rfl) RVs.nil)) rfl ?_
       exact ⟨v1717, h1718, v1722, h1723, rfl, H1719, H1724, Mem.pick [0, 2, 3, 4] rfl hm1754⟩
def impl_PoolStep (F : Nat) (a0 : impl_Pool) (a1 : impl_PoolAct) : Option (impl_Pool × impl_PoolReply × Int) := (impl_PoolOK F a0).bind fun r114 => (bif (!r114) then (some ((impl_Pool.mk ([] : List Int) ([] : List Int)), (impl_PoolReply.mk 0 0), 1)) else (impl_clonePool a0).bind fun r125 => (impl_Pool_act F r125 a1).bind fun r145 => (some (r145.2, r145.1, 0)))
set_option maxHeartbeats 400000 in
set_option maxRecDepth 100000 in
theorem impl_PoolStep_ok (F : Nat) {w0 w : World} {hR hF : Hp} {v0x0 : Value} {v0x1 : Value} (a0 : impl_Pool) (a1 : impl_PoolAct) {r : (impl_Pool × impl_PoolReply × Int)} (H0x0 : RdF w0 (FK.int .i64) v0x0 a0.Free hR) (H0x1 : RdF w0 (FK.int .i64) v0x1 a0.Owner hR) (hs : Sub hR hF) (hm : Mem w0 w (cat [hF])) (he : impl_PoolStep F a0 a1 = some r) :
    Calls Try.prog 14 #[(.agg #[v0x0, v0x1]), (.agg #[(.int .i64 a1.Kind), (.int .i64 a1.Owner), (.int .i64 a1.To), (.int .i64 a1.Buffer)])] w (fun e w' => ∃ (v'0 : Value) (h'0 : Hp) (v'1 : Value) (h'1 : Hp), e = .returned (.tuple #[(.agg #[v'0, v'1]), (.agg #[(.int .i64 r.2.1.Code), (.int .i64 r.2.1.Buffer)]), (.int .i64 r.2.2)]) ∧ OwF 3 (FK.int .i64) v'0 r.1.Free h'0 ∧ OwF 3 (FK.int .i64) v'1 r.1.Owner h'1 ∧ Mem w0 w' (cat [h'0, h'1, hF])) := by
 refine calls_fr (n := 20) Try.func14 rfl rfl rfl ?_
 unfold impl_PoolStep at he
 refine wp_seq ?_
 refine wp_region_lit ?_
 refine s_exv (won rfl) rfl rfl (e_box (vs := [v0x0, v0x1]) rfl (ev (t := 0) rfl rfl) rfl hm) ?_
 rintro g85 w86 hm87
 refine s_exv (won rfl) rfl rfl (e_box (vs := [(.int .i64 a1.Kind), (.int .i64 a1.Owner), (.int .i64 a1.To), (.int .i64 a1.Buffer)]) rfl (ev (t := 1) rfl rfl) rfl hm87) ?_
 rintro g89 w90 hm91
 refine s_exv (won rfl) rfl rfl (e_alloc (vs := [(.slice none 0 0), (.slice none 0 0)]) rfl zt_28 rfl hm91) ?_
 rintro g95 w96 hm97
 refine s_exv (won rfl) rfl rfl (e_alloc (vs := [(.int .i64 0), (.int .i64 0)]) rfl zt_35 rfl hm97) ?_
 rintro g99 w100 hm101
 refine s_val (v := (.int .i64 0)) (won rfl) rfl rfl (x_assign rfl rfl) ?_
 refine wpList_nil ?_
 refine nx ?_
 refine wp_seq ?_
 refine wp_seq ?_
 obtain ⟨r114, hr114, he⟩ := bindE he
 refine wp_region_lit ?_
 refine s_val (v := (.agg #[v0x0, v0x1])) (won rfl) rfl rfl (x_loadN (vs := [v0x0, v0x1]) rfl tyN_28 (ev (t := 2) rfl rfl) (seg_cells (o' := 0) (j := 0) hm101 (k := 3) rfl rfl rfl)) ?_
 refine s_call (won rfl) rfl rfl (x_call rfl rfl cl_17 (map_lit (map_cons (ev (t := 9) rfl rfl) map_nil))) (impl_PoolOK_ok F (hR := (cat [hR])) (hF := cat [sg g99 35 (0, 0) [] [(.int .i64 0), (.int .i64 0)] [], sg g95 28 (0, 0) [] [(.slice none 0 0), (.slice none 0 0)] [], sg g89 39 (0, 0) [] [(.int .i64 a1.Kind), (.int .i64 a1.Owner), (.int .i64 a1.To), (.int .i64 a1.Buffer)] [], sg g85 28 (0, 0) [] [v0x0, v0x1] [], hF]) a0 (H0x0.mono (Sub.at_ (k := 0) rfl)) (H0x1.mono (Sub.at_ (k := 0) rfl)) (subc (Sub.trans hs (Sub.at_ (k := 4) rfl)) subn) (Mem.one hm101) hr114) ?_
 rintro e w115 ⟨rfl, hm116⟩
 refine ⟨_, rfl, ?_⟩
 replace hm116 : Mem w0 w115 (cat [sg g99 35 (0, 0) [] [(.int .i64 0), (.int .i64 0)] [], sg g95 28 (0, 0) [] [(.slice none 0 0), (.slice none 0 0)] [], sg g89 39 (0, 0) [] [(.int .i64 a1.Kind), (.int .i64 a1.Owner), (.int .i64 a1.To), (.int .i64 a1.Buffer)] [], sg g85 28 (0, 0) [] [v0x0, v0x1] [], hF]) := Mem.un hm116
 refine s_val (v := (.bool (!r114))) (won rfl) rfl rfl (x_not rfl (ev (t := 10) rfl rfl)) ?_
 refine wpList_nil ?_
 refine nx ?_
 rcases Bool.eq_false_or_eq_true ((!r114)) with hb117 | hb117
 ·
  replace he := bifT he hb117
  refine c_true rfl (p := (!r114)) rfl rfl hb117 ?_
  refine wp_seq ?_
  refine wp_region_lit ?_
  refine s_val (v := (.agg #[(.slice none 0 0), (.slice none 0 0)])) (won rfl) rfl rfl (x_build (cells := [(.slice none 0 0), (.slice none 0 0)]) (zc := [.slice none 0 0, .slice none 0 0]) (sizes := [(0, 1), (1, 1)]) (ps := []) rfl zt_28 rfl uf_28 ufz_28 (pmap_lit pmap_nil) fill_nil) ?_
  refine s_val (v := (.agg #[(.int .i64 0), (.int .i64 0)])) (won rfl) rfl rfl (x_build (cells := [(.int .i64 0), (.int .i64 0)]) (zc := [.int .i64 0, .int .i64 0]) (sizes := [(0, 1), (1, 1)]) (ps := []) rfl zt_35 rfl uf_35 ufz_35 (pmap_lit pmap_nil) fill_nil) ?_
  refine s_exs (won rfl) rfl (e_store (vs := [(.slice none 0 0), (.slice none 0 0)]) (o' := 0) (j := 0) rfl sz_28 (ev (t := 4) rfl rfl) (ev (t := 12) rfl rfl) rfl rfl hm116 (k := 1) rfl rfl rfl) ?_
  intro w120 hm121
  replace hm121 : Mem w0 w120 (cat [sg g99 35 (0, 0) [] [(.int .i64 0), (.int .i64 0)] [], sg g95 28 (0, 0) [] [(.slice none 0 0), (.slice none 0 0)] [], sg g89 39 (0, 0) [] [(.int .i64 a1.Kind), (.int .i64 a1.Owner), (.int .i64 a1.To), (.int .i64 a1.Buffer)] [], sg g85 28 (0, 0) [] [v0x0, v0x1] [], hF]) := hm121
  refine s_exs (won rfl) rfl (e_store (vs := [(.int .i64 0), (.int .i64 0)]) (o' := 0) (j := 0) rfl sz_35 (ev (t := 5) rfl rfl) (ev (t := 13) rfl rfl) rfl rfl hm121 (k := 0) rfl rfl rfl) ?_
  intro w122 hm123
  replace hm123 : Mem w0 w122 (cat [sg g99 35 (0, 0) [] [(.int .i64 0), (.int .i64 0)] [], sg g95 28 (0, 0) [] [(.slice none 0 0), (.slice none 0 0)] [], sg g89 39 (0, 0) [] [(.int .i64 a1.Kind), (.int .i64 a1.Owner), (.int .i64 a1.To), (.int .i64 a1.Buffer)] [], sg g85 28 (0, 0) [] [v0x0, v0x1] [], hF]) := hm123
  refine s_val (v := (.int .i64 1)) (won rfl) rfl rfl (x_assign rfl rfl) ?_
  refine wpList_nil ?_
  have hm124 : Mem w0 w122 (cat [sg g99 35 (0, 0) [] [(.int .i64 0), (.int .i64 0)] [], sg g95 28 (0, 0) [] [(.slice none 0 0), (.slice none 0 0)] [], hF]) := Mem.pick [0, 1, 4] rfl hm123
  refine nx ?_
  refine wp_ret ?_
  refine xr ?_
  obtain rfl := Option.some.inj he
  refine r_ret (v := (.tuple #[(.agg #[(.slice none 0 0), (.slice none 0 0)]), (.agg #[(.int .i64 0), (.int .i64 0)]), (.int .i64 1)])) (rv_list rfl rfl (RVs.cell (cs := [(.slice none 0 0), (.slice none 0 0)]) rfl rfl tyN_28 (seg_cells (o' := 0) (j := 0) hm124 (k := 1) rfl rfl rfl) (RVs.cell (cs := [(.int .i64 0), (.int .i64 0)]) rfl rfl tyN_35 (seg_cells (o' := 0) (j := 0) hm124 (k := 0) rfl rfl rfl) (RVs.tmp (v := (.int .i64 1)) rfl rfl RVs.nil)))) rfl ?_
  exact ⟨(.slice none 0 0), [], (.slice none 0 0), [], rfl, (OwF.nil 3 (FK.int .i64)), (OwF.nil 3 (FK.int .i64)), Mem.pick [1000, 1001, 2] rfl hm124⟩
 ·
  replace he := bifF he hb117
  refine c_false rfl (p := (!r114)) rfl rfl hb117 ?_
  refine wp_skip ?_
  refine nx ?_
  refine wp_seq ?_
  obtain ⟨r125, hr125, he⟩ := bindE he
  refine wp_region_lit ?_
  refine s_val (v := (.agg #[v0x0, v0x1])) (won rfl) rfl rfl (x_loadN (vs := [v0x0, v0x1]) rfl tyN_28 (ev (t := 2) rfl rfl) (seg_cells (o' := 0) (j := 0) hm116 (k := 3) rfl rfl rfl)) ?_
  refine s_call (won rfl) rfl rfl (x_call rfl rfl cl_63 (map_lit (map_cons (ev (t := 14) rfl rfl) map_nil))) (impl_clonePool_ok (hR := (cat [hR])) (hF := cat [sg g99 35 (0, 0) [] [(.int .i64 0), (.int .i64 0)] [], sg g95 28 (0, 0) [] [(.slice none 0 0), (.slice none 0 0)] [], sg g89 39 (0, 0) [] [(.int .i64 a1.Kind), (.int .i64 a1.Owner), (.int .i64 a1.To), (.int .i64 a1.Buffer)] [], sg g85 28 (0, 0) [] [v0x0, v0x1] [], hF]) a0 (H0x0.mono (Sub.at_ (k := 0) rfl)) (H0x1.mono (Sub.at_ (k := 0) rfl)) (subc (Sub.trans hs (Sub.at_ (k := 4) rfl)) subn) (Mem.one hm116) hr125) ?_
  rintro e w134 ⟨v127, h129, v131, h133, rfl, H128, H132, hm135⟩
  refine ⟨_, rfl, ?_⟩
  replace hm135 : Mem w0 w134 (cat [h129, h133, sg g99 35 (0, 0) [] [(.int .i64 0), (.int .i64 0)] [], sg g95 28 (0, 0) [] [(.slice none 0 0), (.slice none 0 0)] [], sg g89 39 (0, 0) [] [(.int .i64 a1.Kind), (.int .i64 a1.Owner), (.int .i64 a1.To), (.int .i64 a1.Buffer)] [], sg g85 28 (0, 0) [] [v0x0, v0x1] [], hF]) := Mem.ung [h129, h133] [sg g99 35 (0, 0) [] [(.int .i64 0), (.int .i64 0)] [], sg g95 28 (0, 0) [] [(.slice none 0 0), (.slice none 0 0)] [], sg g89 39 (0, 0) [] [(.int .i64 a1.Kind), (.int .i64 a1.Owner), (.int .i64 a1.To), (.int .i64 a1.Buffer)] [], sg g85 28 (0, 0) [] [v0x0, v0x1] [], hF] hm135
  refine s_exv (won rfl) rfl rfl (e_alloc (vs := [(.slice none 0 0), (.slice none 0 0)]) rfl zt_28 rfl hm135) ?_
  rintro g138 w139 hm140
  refine s_exs (won rfl) rfl (e_store (vs := [v127, v131]) (o' := 0) (j := 0) rfl sz_28 (ev (t := 7) rfl rfl) (ev (t := 15) rfl rfl) rfl (one_cons (IsSl.one (H128).sl) (one_cons (IsSl.one (H132).sl) one_nil)) hm140 (k := 0) rfl rfl rfl) ?_
  intro w142 hm143
  replace hm143 : Mem w0 w142 (cat [sg g138 28 (0, 0) [] [v127, v131] [], h129, h133, sg g99 35 (0, 0) [] [(.int .i64 0), (.int .i64 0)] [], sg g95 28 (0, 0) [] [(.slice none 0 0), (.slice none 0 0)] [], sg g89 39 (0, 0) [] [(.int .i64 a1.Kind), (.int .i64 a1.Owner), (.int .i64 a1.To), (.int .i64 a1.Buffer)] [], sg g85 28 (0, 0) [] [v0x0, v0x1] [], hF]) := hm143
  refine wpList_nil ?_
  have hm144 : Mem w0 w142 (cat [sg g138 28 (0, 0) [] [v127, v131] [], h129, h133, sg g99 35 (0, 0) [] [(.int .i64 0), (.int .i64 0)] [], sg g95 28 (0, 0) [] [(.slice none 0 0), (.slice none 0 0)] [], sg g89 39 (0, 0) [] [(.int .i64 a1.Kind), (.int .i64 a1.Owner), (.int .i64 a1.To), (.int .i64 a1.Buffer)] [], hF]) := Mem.pick [0, 1, 2, 3, 4, 5, 7] rfl hm143
  refine nx ?_
  refine wp_seq ?_
  obtain ⟨r145, hr145, he⟩ := bindE he
  refine wp_region_lit ?_
  refine s_val (v := (.agg #[(.int .i64 a1.Kind), (.int .i64 a1.Owner), (.int .i64 a1.To), (.int .i64 a1.Buffer)])) (won rfl) rfl rfl (x_loadN (vs := [(.int .i64 a1.Kind), (.int .i64 a1.Owner), (.int .i64 a1.To), (.int .i64 a1.Buffer)]) rfl tyN_39 (ev (t := 3) rfl rfl) (seg_cells (o' := 0) (j := 0) hm144 (k := 5) rfl rfl rfl)) ?_
  refine s_call (won rfl) rfl rfl (x_call rfl rfl cl_59 (map_lit (map_cons (ev (t := 7) rfl rfl) (map_cons (ev (t := 16) rfl rfl) map_nil)))) (impl_Pool_act_ok F (hR := (cat [])) (hF := cat [sg g99 35 (0, 0) [] [(.int .i64 0), (.int .i64 0)] [], sg g95 28 (0, 0) [] [(.slice none 0 0), (.slice none 0 0)] [], sg g89 39 (0, 0) [] [(.int .i64 a1.Kind), (.int .i64 a1.Owner), (.int .i64 a1.To), (.int .i64 a1.Buffer)] [], hF]) r125 a1 H128 H132 rfl (Mem.grp [sg g138 28 (0, 0) [] [v127, v131] [], h129, h133] [sg g99 35 (0, 0) [] [(.int .i64 0), (.int .i64 0)] [], sg g95 28 (0, 0) [] [(.slice none 0 0), (.slice none 0 0)] [], sg g89 39 (0, 0) [] [(.int .i64 a1.Kind), (.int .i64 a1.Owner), (.int .i64 a1.To), (.int .i64 a1.Buffer)] [], hF] (Mem.pick [0, 1, 2, 3, 4, 5, 6] rfl hm144)) hr145) ?_
  rintro e w154 ⟨v147, h149, v151, h153, rfl, H148, H152, hm155⟩
  refine ⟨_, rfl, ?_⟩
  replace hm155 : Mem w0 w154 (cat [sg g138 28 (0, 0) [] [v147, v151] [], h149, h153, sg g99 35 (0, 0) [] [(.int .i64 0), (.int .i64 0)] [], sg g95 28 (0, 0) [] [(.slice none 0 0), (.slice none 0 0)] [], sg g89 39 (0, 0) [] [(.int .i64 a1.Kind), (.int .i64 a1.Owner), (.int .i64 a1.To), (.int .i64 a1.Buffer)] [], hF]) := Mem.ung [sg g138 28 (0, 0) [] [v147, v151] [], h149, h153] [sg g99 35 (0, 0) [] [(.int .i64 0), (.int .i64 0)] [], sg g95 28 (0, 0) [] [(.slice none 0 0), (.slice none 0 0)] [], sg g89 39 (0, 0) [] [(.int .i64 a1.Kind), (.int .i64 a1.Owner), (.int .i64 a1.To), (.int .i64 a1.Buffer)] [], hF] hm155
  refine s_exv (won rfl) rfl rfl (e_alloc (vs := [(.int .i64 0), (.int .i64 0)]) rfl zt_35 rfl hm155) ?_
  rintro g156 w157 hm158
  refine s_exs (won rfl) rfl (e_store (vs := [(.int .i64 r145.1.Code), (.int .i64 r145.1.Buffer)]) (o' := 0) (j := 0) rfl sz_35 (ev (t := 8) rfl rfl) (ev (t := 17) rfl rfl) rfl rfl hm158 (k := 0) rfl rfl rfl) ?_
  intro w160 hm161
  replace hm161 : Mem w0 w160 (cat [sg g156 35 (0, 0) [] [(.int .i64 r145.1.Code), (.int .i64 r145.1.Buffer)] [], sg g138 28 (0, 0) [] [v147, v151] [], h149, h153, sg g99 35 (0, 0) [] [(.int .i64 0), (.int .i64 0)] [], sg g95 28 (0, 0) [] [(.slice none 0 0), (.slice none 0 0)] [], sg g89 39 (0, 0) [] [(.int .i64 a1.Kind), (.int .i64 a1.Owner), (.int .i64 a1.To), (.int .i64 a1.Buffer)] [], hF]) := hm161
  refine wpList_nil ?_
  have hm162 : Mem w0 w160 (cat [sg g156 35 (0, 0) [] [(.int .i64 r145.1.Code), (.int .i64 r145.1.Buffer)] [], sg g138 28 (0, 0) [] [v147, v151] [], h149, h153, sg g99 35 (0, 0) [] [(.int .i64 0), (.int .i64 0)] [], sg g95 28 (0, 0) [] [(.slice none 0 0), (.slice none 0 0)] [], hF]) := Mem.pick [0, 1, 2, 3, 4, 5, 7] rfl hm161
  refine nx ?_
  refine wp_seq ?_
  refine wp_fit [(0, 1), (1, 0), (2, 2), (3, 2), (4, 1)] (fun w' => Mem w0 w' (cat [sg g156 35 (0, 0) [] [(.int .i64 r145.1.Code), (.int .i64 r145.1.Buffer)] [], sg g138 28 (0, 0) [] [v147, v151] [], h149, h153, hF])) mixed (by kernel_rfl) (Mem.drew (Mem.pick [0, 1, 2, 3, 6] rfl hm162)) ?_
  have hm163 := Mem.drew hm162
  refine z_r (v := (.agg #[v147, v151])) rfl (won rfl) rfl rfl ((x_loadN (vs := [v147, v151]) rfl tyN_28 (ev (t := 7) rfl rfl) (seg_cells (o' := 0) (j := 0) hm163 (k := 1) rfl rfl rfl))) ?_
  refine z_q (v := (.agg #[(.int .i64 r145.1.Code), (.int .i64 r145.1.Buffer)])) rfl (won rfl) rfl rfl (fun wq hq => (x_loadN (vs := [(.int .i64 r145.1.Code), (.int .i64 r145.1.Buffer)]) rfl tyN_35 (ev (t := 8) rfl rfl) (seg_cells (o' := 0) (j := 0) hq (k := 0) rfl rfl rfl))) ?_
  refine z_exs rfl (won rfl) rfl (e_store (vs := [v147, v151]) (o' := 0) (j := 0) rfl sz_28 (ev (t := 4) rfl rfl) (ev (t := 18) rfl rfl) rfl (one_cons (IsSl.one (H148).sl) (one_cons (IsSl.one (H152).sl) one_nil)) hm163 (k := 5) rfl rfl rfl) ?_
  intro w164 hm165
  replace hm165 : Mem w0 w164 (cat [sg g156 35 (0, 0) [] [(.int .i64 r145.1.Code), (.int .i64 r145.1.Buffer)] [], sg g138 28 (0, 0) [] [v147, v151] [], h149, h153, sg g99 35 (0, 0) [] [(.int .i64 0), (.int .i64 0)] [], sg g95 28 (0, 0) [] [v147, v151] [], hF]) := hm165
  refine ⟨Mem.pick [0, 1, 2, 3, 6] rfl hm165, ?_⟩
  refine z_exs rfl (won rfl) rfl (e_store (vs := [(.int .i64 r145.1.Code), (.int .i64 r145.1.Buffer)]) (o' := 0) (j := 0) rfl sz_35 (ev (t := 5) rfl rfl) (ev (t := 19) rfl rfl) rfl rfl hm165 (k := 4) rfl rfl rfl) ?_
  intro w166 hm167
  replace hm167 : Mem w0 w166 (cat [sg g156 35 (0, 0) [] [(.int .i64 r145.1.Code), (.int .i64 r145.1.Buffer)] [], sg g138 28 (0, 0) [] [v147, v151] [], h149, h153, sg g99 35 (0, 0) [] [(.int .i64 r145.1.Code), (.int .i64 r145.1.Buffer)] [], sg g95 28 (0, 0) [] [v147, v151] [], hF]) := hm167
  refine ⟨Mem.pick [0, 1, 2, 3, 6] rfl hm167, ?_⟩
  refine z_r (v := (.int .i64 0)) rfl (won rfl) rfl rfl ((x_assign rfl rfl)) ?_
  refine z_nil ?_
  have hm168 : Mem w0 w166 (cat [h149, h153, sg g99 35 (0, 0) [] [(.int .i64 r145.1.Code), (.int .i64 r145.1.Buffer)] [], sg g95 28 (0, 0) [] [v147, v151] [], hF]) := Mem.pick [2, 3, 4, 5, 6] rfl hm167
  refine nx ?_
  refine wp_ret ?_
  obtain rfl := Option.some.inj he
  refine r_ret (v := (.tuple #[(.agg #[v147, v151]), (.agg #[(.int .i64 r145.1.Code), (.int .i64 r145.1.Buffer)]), (.int .i64 0)])) (rv_list rfl rfl (RVs.cell (cs := [v147, v151]) rfl rfl tyN_28 (seg_cells (o' := 0) (j := 0) hm168 (k := 3) rfl rfl rfl) (RVs.cell (cs := [(.int .i64 r145.1.Code), (.int .i64 r145.1.Buffer)]) rfl rfl tyN_35 (seg_cells (o' := 0) (j := 0) hm168 (k := 2) rfl rfl rfl) (RVs.tmp (v := (.int .i64 0)) rfl rfl RVs.nil)))) rfl ?_
  exact ⟨v147, h149, v151, h153, rfl, H148, H152, Mem.pick [0, 1, 4] rfl hm168⟩
def laws_eqIntS_l1 (F : Nat) (a0 : (List Int)) (a1 : (List Int)) : Nat → Int → Option (Fl (Bool) (Unit))
  | 0, _ => none
  | k + 1, s173 => (bif (decide (s173 < (a0.length : Int))) then gd ((0 : Int) ≤ s173 ∧ s173 < (a0.length : Int)) (gd ((0 : Int) ≤ s173 ∧ s173 < (a1.length : Int)) ((bif (!decide ((ix a0 s173) = (ix a1 s173))) then (some (Fl.out false)) else laws_eqIntS_l1 F a0 a1 k (IntKind.wrap .i64 (s173 + 1))))) else (some (Fl.go ())))
def laws_eqIntS (F : Nat) (a0 : (List Int)) (a1 : (List Int)) : Option (Bool) := (bif (!decide ((a0.length : Int) = (a1.length : Int))) then (some false) else (laws_eqIntS_l1 F a0 a1 F 0 : Option (Fl (Bool) (Unit))).bind fun l153 => l153.on fun (s152 : (Unit)) => (some true))
set_option maxHeartbeats 400000 in
set_option maxRecDepth 100000 in
theorem laws_eqIntS_ok (F : Nat) {w0 w : World} {hR hF : Hp} {v0x0 : Value} {v1x0 : Value} (a0 : (List Int)) (a1 : (List Int)) {r : (Bool)} (H0x0 : RdF w0 (FK.int .i64) v0x0 a0 hR) (H1x0 : RdF w0 (FK.int .i64) v1x0 a1 hR) (hs : Sub hR hF) (hm : Mem w0 w (cat [hF])) (he : laws_eqIntS F a0 a1 = some r) :
    Calls Try.prog 69 #[v0x0, v1x0] w (fun e w' => e = .returned (.bool r) ∧ Mem w0 w' (cat [hF])) := by
 refine calls_fr (n := 26) Try.func69 rfl rfl rfl ?_
 unfold laws_eqIntS at he
 refine wp_seq ?_
 refine wp_region_lit ?_
 refine s_val (v := (.bool false)) (won rfl) rfl rfl (x_assign rfl rfl) ?_
 refine wpList_nil ?_
 refine nx ?_
 refine wp_seq ?_
 refine wp_seq ?_
 refine wp_region_lit ?_
 refine s_val (v := v0x0) (won rfl) rfl rfl (x_move rfl (ev (t := 0) rfl rfl)) ?_
 refine s_val (v := (.int .i64 (a0.length : Int))) (won rfl) rfl rfl (x_len rfl slt_26 (ev (t := 6) rfl rfl) (H0x0).sl) ?_
 refine s_val (v := v1x0) (won rfl) rfl rfl (x_move rfl (ev (t := 1) rfl rfl)) ?_
 refine s_val (v := (.int .i64 (a1.length : Int))) (won rfl) rfl rfl (x_len rfl slt_26 (ev (t := 8) rfl rfl) (H1x0).sl) ?_
 refine s_val (v := (.bool (!decide ((a0.length : Int) = (a1.length : Int))))) (won rfl) rfl rfl (x_neq rfl (ev (t := 7) rfl rfl) (ev (t := 9) rfl rfl)) ?_
 refine wpList_nil ?_
 refine nx ?_
 rcases Bool.eq_false_or_eq_true ((!decide ((a0.length : Int) = (a1.length : Int)))) with hb104 | hb104
 ·
  replace he := bifT he hb104
  refine c_true rfl (p := (!decide ((a0.length : Int) = (a1.length : Int)))) rfl rfl hb104 ?_
  refine wp_seq ?_
  refine wp_region_lit ?_
  refine s_val (v := (.bool false)) (won rfl) rfl rfl (x_assign rfl rfl) ?_
  refine wpList_nil ?_
  refine nx ?_
  refine wp_ret ?_
  refine xr ?_
  obtain rfl := Option.some.inj he
  refine r_ret (v := (.bool false)) (rv_one rfl (RVs.tmp (v := (.bool false)) rfl rfl RVs.nil)) rfl ?_
  exact ⟨rfl, Mem.pick [0] rfl hm⟩
 ·
  replace he := bifF he hb104
  refine c_false rfl (p := (!decide ((a0.length : Int) = (a1.length : Int)))) rfl rfl hb104 ?_
  refine wp_skip ?_
  refine nx ?_
  obtain ⟨l153, hT155, hk154⟩ := bindE he
  replace he := hT155
  refine wp_seqJ (fun a w => ∃ (s152 : (Unit)) (f : Nat → Value), l153 = Fl.go s152 ∧ a = fr 26 f ∧ Mem w0 w (cat [hF])) ?_ ?_
  ·
   refine wp_seq ?_
   refine wp_region_lit ?_
   refine s_val (v := (.int .i64 0)) (won rfl) rfl rfl (x_assign rfl rfl) ?_
   refine wpList_nil ?_
   refine nx ?_
   refine wp_block ?_
   refine wp_fuel (I := fun k => fun a w => ∃ (s173 : Int) (f : Nat → Value), laws_eqIntS_l1 F a0 a1 k s173 = some l153 ∧ a = fr 26 f ∧ f 0 = v0x0 ∧ f 1 = v1x0 ∧ f 5 = (.int .i64 s173) ∧ Mem w0 w (cat [hF])) F _ _ ⟨0, _, he, rfl, rfl, rfl, rfl, Mem.pick [0] rfl hm⟩ ?_ ?_
   ·
    rintro a w ⟨s173, f, he, rfl, q171, q172, q174, hm188⟩
    rw [laws_eqIntS_l1] at he; exact none_no he
   ·
    rintro k a w ⟨s173, f, he, rfl, q171, q172, q174, hm190⟩
    rw [laws_eqIntS_l1] at he
    refine wp_seq ?_
    refine wp_seq ?_
    refine wp_region_lit ?_
    refine s_val (v := (.int .i64 s173)) (won rfl) rfl rfl (x_move rfl (ev (t := 5) (v := (.int .i64 s173)) rfl q174)) ?_
    refine s_val (v := v0x0) (won rfl) rfl rfl (x_move rfl (ev (t := 0) (v := v0x0) rfl q171)) ?_
    refine s_val (v := (.int .i64 (a0.length : Int))) (won rfl) rfl rfl (x_len rfl slt_26 (ev (t := 12) rfl rfl) (H0x0).sl) ?_
    refine s_val (v := (.bool (decide (s173 < (a0.length : Int))))) (won rfl) rfl rfl (x_lss rfl (ev (t := 11) rfl rfl) (ev (t := 13) rfl rfl)) ?_
    refine wpList_nil ?_
    refine nx ?_
    rcases Bool.eq_false_or_eq_true ((decide (s173 < (a0.length : Int)))) with hb192 | hb192
    ·
     replace he := bifT he hb192
     refine c_true rfl (p := (decide (s173 < (a0.length : Int)))) rfl rfl hb192 ?_
     refine wp_skip ?_
     refine nx ?_
     refine wp_seq ?_
     refine wp_block ?_
     refine wp_seq ?_
     obtain ⟨hg198, he⟩ := gdE he
     obtain ⟨hg199, he⟩ := gdE he
     refine wp_qregion (cat [hF]) mixed (by kernel_rfl) hm190 ?_
     refine q_val (v := v0x0) (won rfl) rfl rfl (fun wq hq => (x_move rfl (ev (t := 0) (v := v0x0) rfl q171))) ?_
     refine q_val (v := (.int .i64 s173)) (won rfl) rfl rfl (fun wq hq => (x_move rfl (ev (t := 5) (v := (.int .i64 s173)) rfl q174))) ?_
     refine q_val (v := (.pointer (some ((slA v0x0).add (Int.toNat s173 * 1))))) (won rfl) rfl rfl (fun wq hq => (x_index (d := (FK.int .i64)) rfl slt_26 (ev (t := 17) rfl rfl) (ev (t := 18) rfl rfl) H0x0 hg198.1 hg198.2)) ?_
     refine q_val (v := (.int .i64 (ix a0 s173))) (won rfl) rfl rfl (fun wq hq => (x_load rfl ty1x3 (ev (t := 19) rfl rfl) (RdF.cell0 H0x0 hq (Sub.trans hs (Sub.at_ (k := 0) rfl)) hg198.1 hg198.2 rfl))) ?_
     refine q_val (v := v1x0) (won rfl) rfl rfl (fun wq hq => (x_move rfl (ev (t := 1) (v := v1x0) rfl q172))) ?_
     refine q_val (v := (.int .i64 s173)) (won rfl) rfl rfl (fun wq hq => (x_move rfl (ev (t := 5) (v := (.int .i64 s173)) rfl q174))) ?_
     refine q_val (v := (.pointer (some ((slA v1x0).add (Int.toNat s173 * 1))))) (won rfl) rfl rfl (fun wq hq => (x_index (d := (FK.int .i64)) rfl slt_26 (ev (t := 21) rfl rfl) (ev (t := 22) rfl rfl) H1x0 hg199.1 hg199.2)) ?_
     refine q_val (v := (.int .i64 (ix a1 s173))) (won rfl) rfl rfl (fun wq hq => (x_load rfl ty1x3 (ev (t := 23) rfl rfl) (RdF.cell0 H1x0 hq (Sub.trans hs (Sub.at_ (k := 0) rfl)) hg199.1 hg199.2 rfl))) ?_
     refine q_val (v := (.bool (!decide ((ix a0 s173) = (ix a1 s173))))) (won rfl) rfl rfl (fun wq hq => (x_neq rfl (ev (t := 20) rfl rfl) (ev (t := 24) rfl rfl))) ?_
     refine wpQuiet_nil ?_
     intro w200 hm201
     refine nx ?_
     rcases Bool.eq_false_or_eq_true ((!decide ((ix a0 s173) = (ix a1 s173)))) with hb202 | hb202
     ·
      replace he := bifT he hb202
      refine c_true rfl (p := (!decide ((ix a0 s173) = (ix a1 s173)))) rfl rfl hb202 ?_
      refine wp_seq ?_
      refine wp_region_lit ?_
      refine s_val (v := (.bool false)) (won rfl) rfl rfl (x_assign rfl rfl) ?_
      refine wpList_nil ?_
      refine nx ?_
      refine wp_ret ?_
      refine rb ?_
      refine xr ?_
      refine xr ?_
      refine rb ?_
      refine xr ?_
      obtain rfl := Option.some.inj he
      replace he := outE hk154
      obtain rfl := Option.some.inj he
      refine r_ret (v := (.bool false)) (rv_one rfl (RVs.tmp (v := (.bool false)) rfl rfl RVs.nil)) rfl ?_
      exact ⟨rfl, Mem.pick [0] rfl hm201⟩
     ·
      replace he := bifF he hb202
      refine c_false rfl (p := (!decide ((ix a0 s173) = (ix a1 s173)))) rfl rfl hb202 ?_
      refine wp_skip ?_
      refine nb ?_
      refine nx ?_
      refine wp_region_lit ?_
      refine s_val (v := (.int .i64 s173)) (won rfl) rfl rfl (x_move rfl (ev (t := 5) (v := (.int .i64 s173)) rfl q174)) ?_
      refine s_val (v := (.int .i64 (IntKind.wrap .i64 (s173 + 1)))) (won rfl) rfl rfl (x_add rfl (ev (t := 15) rfl rfl) rfl) ?_
      refine s_val (v := (.int .i64 (IntKind.wrap .i64 (s173 + 1)))) (won rfl) rfl rfl (x_assign rfl (ev (t := 16) rfl rfl)) ?_
      refine wpList_nil ?_
      refine nx ?_
      exact ⟨(IntKind.wrap .i64 (s173 + 1)), _, he, rfl, q171, q172, rfl, Mem.pick [0] rfl hm201⟩
    ·
     replace he := bifF he hb192
     refine c_false rfl (p := (decide (s173 < (a0.length : Int)))) rfl rfl hb192 ?_
     refine wp_exit ?_
     refine xs ?_
     refine xs ?_
     refine xb ?_
     refine nx ?_
     obtain rfl := Option.some.inj he
     exact ⟨(), _, rfl, rfl, Mem.pick [0] rfl hm190⟩
  ·
   rintro a w ⟨s152, f, rfl, rfl, hm204⟩
   replace he := goE hk154
   refine wp_seq ?_
   refine wp_region_lit ?_
   refine s_val (v := (.bool true)) (won rfl) rfl rfl (x_assign rfl rfl) ?_
   refine wpList_nil ?_
   refine nx ?_
   refine wp_ret ?_
   obtain rfl := Option.some.inj he
   refine r_ret (v := (.bool true)) (rv_one rfl (RVs.tmp (v := (.bool true)) rfl rfl RVs.nil)) rfl ?_
   exact ⟨rfl, Mem.pick [0] rfl hm204⟩
def laws_eqPool (F : Nat) (a0 : impl_Pool) (a1 : impl_Pool) : Option (Bool) := (laws_eqIntS F a0.Free a1.Free).bind fun r42 => (bif (!r42) then (some false) else (laws_eqIntS F a0.Owner a1.Owner).bind fun r52 => (bif (!r52) then (some false) else (some true)))
set_option maxHeartbeats 400000 in
set_option maxRecDepth 100000 in
theorem laws_eqPool_ok (F : Nat) {w0 w : World} {hR hF : Hp} {v0x0 : Value} {v0x1 : Value} {v1x0 : Value} {v1x1 : Value} (a0 : impl_Pool) (a1 : impl_Pool) {r : (Bool)} (H0x0 : RdF w0 (FK.int .i64) v0x0 a0.Free hR) (H0x1 : RdF w0 (FK.int .i64) v0x1 a0.Owner hR) (H1x0 : RdF w0 (FK.int .i64) v1x0 a1.Free hR) (H1x1 : RdF w0 (FK.int .i64) v1x1 a1.Owner hR) (hs : Sub hR hF) (hm : Mem w0 w (cat [hF])) (he : laws_eqPool F a0 a1 = some r) :
    Calls Try.prog 22 #[(.agg #[v0x0, v0x1]), (.agg #[v1x0, v1x1])] w (fun e w' => e = .returned (.bool r) ∧ Mem w0 w' (cat [hF])) := by
 refine calls_fr (n := 17) Try.func22 rfl rfl rfl ?_
 unfold laws_eqPool at he
 refine wp_seq ?_
 refine wp_region_lit ?_
 refine s_exv (won rfl) rfl rfl (e_box (vs := [v0x0, v0x1]) rfl (ev (t := 0) rfl rfl) rfl hm) ?_
 rintro g29 w30 hm31
 refine s_exv (won rfl) rfl rfl (e_box (vs := [v1x0, v1x1]) rfl (ev (t := 1) rfl rfl) rfl hm31) ?_
 rintro g33 w34 hm35
 refine s_val (v := (.bool false)) (won rfl) rfl rfl (x_assign rfl rfl) ?_
 refine wpList_nil ?_
 refine nx ?_
 refine wp_seq ?_
 refine wp_seq ?_
 obtain ⟨r42, hr42, he⟩ := bindE he
 refine wp_region_lit ?_
 refine s_val (v := (.pointer (some ⟨g29, 0, none⟩))) (won rfl) rfl rfl (x_field rfl fa_28x0 (ev (t := 2) rfl rfl)) ?_
 refine s_val (v := v0x0) (won rfl) rfl rfl (x_load rfl ty1x26 (ev (t := 5) rfl rfl) (seg_cell (o' := 0) (j := 0) hm35 (k := 1) rfl rfl rfl)) ?_
 refine s_val (v := (.pointer (some ⟨g33, 0, none⟩))) (won rfl) rfl rfl (x_field rfl fa_28x0 (ev (t := 3) rfl rfl)) ?_
 refine s_val (v := v1x0) (won rfl) rfl rfl (x_load rfl ty1x26 (ev (t := 7) rfl rfl) (seg_cell (o' := 0) (j := 0) hm35 (k := 0) rfl rfl rfl)) ?_
 refine s_call (won rfl) rfl rfl (x_call rfl rfl cl_69 (map_lit (map_cons (ev (t := 6) rfl rfl) (map_cons (ev (t := 8) rfl rfl) map_nil)))) (laws_eqIntS_ok F (hR := (cat [hR])) (hF := cat [sg g33 28 (0, 0) [] [v1x0, v1x1] [], sg g29 28 (0, 0) [] [v0x0, v0x1] [], hF]) a0.Free a1.Free (H0x0.mono (Sub.at_ (k := 0) rfl)) (H1x0.mono (Sub.at_ (k := 0) rfl)) (subc (Sub.trans hs (Sub.at_ (k := 2) rfl)) subn) (Mem.one hm35) hr42) ?_
 rintro e w43 ⟨rfl, hm44⟩
 refine ⟨_, rfl, ?_⟩
 replace hm44 : Mem w0 w43 (cat [sg g33 28 (0, 0) [] [v1x0, v1x1] [], sg g29 28 (0, 0) [] [v0x0, v0x1] [], hF]) := Mem.un hm44
 refine s_val (v := (.bool (!r42))) (won rfl) rfl rfl (x_not rfl (ev (t := 9) rfl rfl)) ?_
 refine wpList_nil ?_
 refine nx ?_
 rcases Bool.eq_false_or_eq_true ((!r42)) with hb45 | hb45
 ·
  replace he := bifT he hb45
  refine c_true rfl (p := (!r42)) rfl rfl hb45 ?_
  refine wp_seq ?_
  refine wp_region_lit ?_
  refine s_val (v := (.bool false)) (won rfl) rfl rfl (x_assign rfl rfl) ?_
  refine wpList_nil ?_
  have hm46 : Mem w0 w43 (cat [hF]) := Mem.pick [2] rfl hm44
  refine nx ?_
  refine wp_ret ?_
  refine xr ?_
  obtain rfl := Option.some.inj he
  refine r_ret (v := (.bool false)) (rv_one rfl (RVs.tmp (v := (.bool false)) rfl rfl RVs.nil)) rfl ?_
  exact ⟨rfl, Mem.pick [0] rfl hm46⟩
 ·
  replace he := bifF he hb45
  refine c_false rfl (p := (!r42)) rfl rfl hb45 ?_
  refine wp_skip ?_
  refine nx ?_
  refine wp_seq ?_
  refine wp_seq ?_
  obtain ⟨r52, hr52, he⟩ := bindE he
  refine wp_region_lit ?_
  refine s_val (v := (.pointer (some ⟨g29, 1, none⟩))) (won rfl) rfl rfl (x_field rfl fa_28x1 (ev (t := 2) rfl rfl)) ?_
  refine s_val (v := v0x1) (won rfl) rfl rfl (x_load rfl ty1x26 (ev (t := 11) rfl rfl) (seg_cell (o' := 0) (j := 1) hm44 (k := 1) rfl rfl rfl)) ?_
  refine s_val (v := (.pointer (some ⟨g33, 1, none⟩))) (won rfl) rfl rfl (x_field rfl fa_28x1 (ev (t := 3) rfl rfl)) ?_
  refine s_val (v := v1x1) (won rfl) rfl rfl (x_load rfl ty1x26 (ev (t := 13) rfl rfl) (seg_cell (o' := 0) (j := 1) hm44 (k := 0) rfl rfl rfl)) ?_
  refine s_call (won rfl) rfl rfl (x_call rfl rfl cl_69 (map_lit (map_cons (ev (t := 12) rfl rfl) (map_cons (ev (t := 14) rfl rfl) map_nil)))) (laws_eqIntS_ok F (hR := (cat [hR])) (hF := cat [sg g33 28 (0, 0) [] [v1x0, v1x1] [], sg g29 28 (0, 0) [] [v0x0, v0x1] [], hF]) a0.Owner a1.Owner (H0x1.mono (Sub.at_ (k := 0) rfl)) (H1x1.mono (Sub.at_ (k := 0) rfl)) (subc (Sub.trans hs (Sub.at_ (k := 2) rfl)) subn) (Mem.one hm44) hr52) ?_
  rintro e w53 ⟨rfl, hm54⟩
  refine ⟨_, rfl, ?_⟩
  replace hm54 : Mem w0 w53 (cat [sg g33 28 (0, 0) [] [v1x0, v1x1] [], sg g29 28 (0, 0) [] [v0x0, v0x1] [], hF]) := Mem.un hm54
  refine s_val (v := (.bool (!r52))) (won rfl) rfl rfl (x_not rfl (ev (t := 15) rfl rfl)) ?_
  refine wpList_nil ?_
  have hm55 : Mem w0 w53 (cat [hF]) := Mem.pick [2] rfl hm54
  refine nx ?_
  rcases Bool.eq_false_or_eq_true ((!r52)) with hb56 | hb56
  ·
   replace he := bifT he hb56
   refine c_true rfl (p := (!r52)) rfl rfl hb56 ?_
   refine wp_seq ?_
   refine wp_region_lit ?_
   refine s_val (v := (.bool false)) (won rfl) rfl rfl (x_assign rfl rfl) ?_
   refine wpList_nil ?_
   refine nx ?_
   refine wp_ret ?_
   refine xr ?_
   obtain rfl := Option.some.inj he
   refine r_ret (v := (.bool false)) (rv_one rfl (RVs.tmp (v := (.bool false)) rfl rfl RVs.nil)) rfl ?_
   exact ⟨rfl, Mem.pick [0] rfl hm55⟩
  ·
   replace he := bifF he hb56
   refine c_false rfl (p := (!r52)) rfl rfl hb56 ?_
   refine wp_skip ?_
   refine nx ?_
   refine wp_seq ?_
   refine wp_region_lit ?_
   refine s_val (v := (.bool true)) (won rfl) rfl rfl (x_assign rfl rfl) ?_
   refine wpList_nil ?_
   refine nx ?_
   refine wp_ret ?_
   obtain rfl := Option.some.inj he
   refine r_ret (v := (.bool true)) (rv_one rfl (RVs.tmp (v := (.bool true)) rfl rfl RVs.nil)) rfl ?_
   exact ⟨rfl, Mem.pick [0] rfl hm55⟩
def laws_eqPoolReply (a0 : impl_PoolReply) (a1 : impl_PoolReply) : Option (Bool) := (bif (!decide (a0.Code = a1.Code)) then (some false) else (bif (!decide (a0.Buffer = a1.Buffer)) then (some false) else (some true)))
set_option maxHeartbeats 400000 in
set_option maxRecDepth 100000 in
theorem laws_eqPoolReply_ok {w0 w : World} {hR hF : Hp} (a0 : impl_PoolReply) (a1 : impl_PoolReply) {r : (Bool)} (hm : Mem w0 w (cat [hF])) (he : laws_eqPoolReply a0 a1 = some r) :
    Calls Try.prog 23 #[(.agg #[(.int .i64 a0.Code), (.int .i64 a0.Buffer)]), (.agg #[(.int .i64 a1.Code), (.int .i64 a1.Buffer)])] w (fun e w' => e = .returned (.bool r) ∧ Mem w0 w' (cat [hF])) := by
 refine calls_fr (n := 15) Try.func23 rfl rfl rfl ?_
 unfold laws_eqPoolReply at he
 refine wp_seq ?_
 refine wp_region_lit ?_
 refine s_exv (won rfl) rfl rfl (e_box (vs := [(.int .i64 a0.Code), (.int .i64 a0.Buffer)]) rfl (ev (t := 0) rfl rfl) rfl hm) ?_
 rintro g17 w18 hm19
 refine s_exv (won rfl) rfl rfl (e_box (vs := [(.int .i64 a1.Code), (.int .i64 a1.Buffer)]) rfl (ev (t := 1) rfl rfl) rfl hm19) ?_
 rintro g21 w22 hm23
 refine s_val (v := (.bool false)) (won rfl) rfl rfl (x_assign rfl rfl) ?_
 refine wpList_nil ?_
 refine nx ?_
 refine wp_seq ?_
 refine wp_seq ?_
 refine wp_region_lit ?_
 refine s_val (v := (.pointer (some ⟨g17, 0, none⟩))) (won rfl) rfl rfl (x_field rfl fa_35x0 (ev (t := 2) rfl rfl)) ?_
 refine s_val (v := (.int .i64 a0.Code)) (won rfl) rfl rfl (x_load rfl ty1x3 (ev (t := 5) rfl rfl) (seg_cell (o' := 0) (j := 0) hm23 (k := 1) rfl rfl rfl)) ?_
 refine s_val (v := (.pointer (some ⟨g21, 0, none⟩))) (won rfl) rfl rfl (x_field rfl fa_35x0 (ev (t := 3) rfl rfl)) ?_
 refine s_val (v := (.int .i64 a1.Code)) (won rfl) rfl rfl (x_load rfl ty1x3 (ev (t := 7) rfl rfl) (seg_cell (o' := 0) (j := 0) hm23 (k := 0) rfl rfl rfl)) ?_
 refine s_val (v := (.bool (!decide (a0.Code = a1.Code)))) (won rfl) rfl rfl (x_neq rfl (ev (t := 6) rfl rfl) (ev (t := 8) rfl rfl)) ?_
 refine wpList_nil ?_
 refine nx ?_
 rcases Bool.eq_false_or_eq_true ((!decide (a0.Code = a1.Code))) with hb27 | hb27
 ·
  replace he := bifT he hb27
  refine c_true rfl (p := (!decide (a0.Code = a1.Code))) rfl rfl hb27 ?_
  refine wp_seq ?_
  refine wp_region_lit ?_
  refine s_val (v := (.bool false)) (won rfl) rfl rfl (x_assign rfl rfl) ?_
  refine wpList_nil ?_
  have hm28 : Mem w0 w22 (cat [hF]) := Mem.pick [2] rfl hm23
  refine nx ?_
  refine wp_ret ?_
  refine xr ?_
  obtain rfl := Option.some.inj he
  refine r_ret (v := (.bool false)) (rv_one rfl (RVs.tmp (v := (.bool false)) rfl rfl RVs.nil)) rfl ?_
  exact ⟨rfl, Mem.pick [0] rfl hm28⟩
 ·
  replace he := bifF he hb27
  refine c_false rfl (p := (!decide (a0.Code = a1.Code))) rfl rfl hb27 ?_
  refine wp_skip ?_
  refine nx ?_
  refine wp_seq ?_
  refine wp_seq ?_
  refine wp_region_lit ?_
  refine s_val (v := (.pointer (some ⟨g17, 1, none⟩))) (won rfl) rfl rfl (x_field rfl fa_35x1 (ev (t := 2) rfl rfl)) ?_
  refine s_val (v := (.int .i64 a0.Buffer)) (won rfl) rfl rfl (x_load rfl ty1x3 (ev (t := 10) rfl rfl) (seg_cell (o' := 0) (j := 1) hm23 (k := 1) rfl rfl rfl)) ?_
  refine s_val (v := (.pointer (some ⟨g21, 1, none⟩))) (won rfl) rfl rfl (x_field rfl fa_35x1 (ev (t := 3) rfl rfl)) ?_
  refine s_val (v := (.int .i64 a1.Buffer)) (won rfl) rfl rfl (x_load rfl ty1x3 (ev (t := 12) rfl rfl) (seg_cell (o' := 0) (j := 1) hm23 (k := 0) rfl rfl rfl)) ?_
  refine s_val (v := (.bool (!decide (a0.Buffer = a1.Buffer)))) (won rfl) rfl rfl (x_neq rfl (ev (t := 11) rfl rfl) (ev (t := 13) rfl rfl)) ?_
  refine wpList_nil ?_
  have hm31 : Mem w0 w22 (cat [hF]) := Mem.pick [2] rfl hm23
  refine nx ?_
  rcases Bool.eq_false_or_eq_true ((!decide (a0.Buffer = a1.Buffer))) with hb32 | hb32
  ·
   replace he := bifT he hb32
   refine c_true rfl (p := (!decide (a0.Buffer = a1.Buffer))) rfl rfl hb32 ?_
   refine wp_seq ?_
   refine wp_region_lit ?_
   refine s_val (v := (.bool false)) (won rfl) rfl rfl (x_assign rfl rfl) ?_
   refine wpList_nil ?_
   refine nx ?_
   refine wp_ret ?_
   refine xr ?_
   obtain rfl := Option.some.inj he
   refine r_ret (v := (.bool false)) (rv_one rfl (RVs.tmp (v := (.bool false)) rfl rfl RVs.nil)) rfl ?_
   exact ⟨rfl, Mem.pick [0] rfl hm31⟩
  ·
   replace he := bifF he hb32
   refine c_false rfl (p := (!decide (a0.Buffer = a1.Buffer))) rfl rfl hb32 ?_
   refine wp_skip ?_
   refine nx ?_
   refine wp_seq ?_
   refine wp_region_lit ?_
   refine s_val (v := (.bool true)) (won rfl) rfl rfl (x_assign rfl rfl) ?_
   refine wpList_nil ?_
   refine nx ?_
   refine wp_ret ?_
   obtain rfl := Option.some.inj he
   refine r_ret (v := (.bool true)) (rv_one rfl (RVs.tmp (v := (.bool true)) rfl rfl RVs.nil)) rfl ?_
   exact ⟨rfl, Mem.pick [0] rfl hm31⟩
def laws_markIntS_l1 (F : Nat) : Nat → (List Int) → Int → Int → Option ((List Int) × Int)
  | 0, _, _, _ => none
  | k + 1, s269, s273, s275 => (bif (decide (s275 < (s269.length : Int))) then gd ((0 : Int) ≤ s275 ∧ s275 < (s269.length : Int)) (laws_markIntS_l1 F k (List.set s269 (Int.toNat s275) s273) (IntKind.wrap .i64 (s273 + 1)) (IntKind.wrap .i64 (s275 + 1))) else (some (s269, s273)))
def laws_markIntS (F : Nat) (a0 : (List Int)) (a1 : Int) : Option (Int × (List Int)) := (laws_markIntS_l1 F F a0 a1 0 : Option ((List Int) × Int)).bind fun (s232 : ((List Int) × Int)) => (some (s232.2, s232.1))
set_option maxHeartbeats 400000 in
set_option maxRecDepth 100000 in
theorem laws_markIntS_ok (F : Nat) {w0 w : World} {hR hF : Hp} {v0x0 : Value} {h0x0 : Hp} (a0 : (List Int)) (a1 : Int) {r : (Int × (List Int))} (H0x0 : OwF 3 (FK.int .i64) v0x0 a0 h0x0) (hm : Mem w0 w (cat [h0x0, hF])) (he : laws_markIntS F a0 a1 = some r) :
    Calls Try.prog 70 #[v0x0, (.int .i64 a1)] w (fun e w' => ∃ (h'0 : Hp), e = .returned (.int .i64 r.1) ∧ OwF 3 (FK.int .i64) v0x0 r.2 h'0 ∧ Mem w0 w' (cat [h'0, hF])) := by
 refine calls_fr (n := 19) Try.func70 rfl rfl rfl ?_
 unfold laws_markIntS at he
 refine wp_seq ?_
 refine wp_region_lit ?_
 refine s_val (v := (.int .i64 0)) (won rfl) rfl rfl (x_assign rfl rfl) ?_
 refine wpList_nil ?_
 refine nx ?_
 obtain ⟨s232, hT234, hk233⟩ := bindE he
 replace he := hT234
 refine wp_seqJ (fun a w => ∃ (h228 : Hp) (f : Nat → Value), a = fr 19 f ∧ f 1 = (.int .i64 s232.2) ∧ OwF 3 (FK.int .i64) v0x0 s232.1 h228 ∧ Mem w0 w (cat [h228, hF])) ?_ ?_
 ·
  refine wp_seq ?_
  refine wp_region_lit ?_
  refine s_val (v := (.int .i64 0)) (won rfl) rfl rfl (x_assign rfl rfl) ?_
  refine wpList_nil ?_
  refine nx ?_
  refine wp_block ?_
  refine wp_fuel (I := fun k => fun a w => ∃ (s269 : (List Int)) (s273 : Int) (s275 : Int) (h270 : Hp) (f : Nat → Value), laws_markIntS_l1 F k s269 s273 s275 = some s232 ∧ a = fr 19 f ∧ f 0 = v0x0 ∧ f 1 = (.int .i64 s273) ∧ f 5 = (.int .i64 s275) ∧ OwF 3 (FK.int .i64) v0x0 s269 h270 ∧ Mem w0 w (cat [h270, hF])) F _ _ ⟨a0, a1, 0, h0x0, _, he, rfl, rfl, rfl, rfl, H0x0, Mem.pick [0, 1] rfl hm⟩ ?_ ?_
  ·
   rintro a w ⟨s269, s273, s275, h270, f, he, rfl, q272, q274, q276, H271, hm290⟩
   rw [laws_markIntS_l1] at he; exact none_no he
  ·
   rintro k a w ⟨s269, s273, s275, h270, f, he, rfl, q272, q274, q276, H271, hm292⟩
   rw [laws_markIntS_l1] at he
   refine wp_seq ?_
   refine wp_seq ?_
   refine wp_region_lit ?_
   refine s_val (v := (.int .i64 s275)) (won rfl) rfl rfl (x_move rfl (ev (t := 5) (v := (.int .i64 s275)) rfl q276)) ?_
   refine s_val (v := v0x0) (won rfl) rfl rfl (x_move rfl (ev (t := 0) (v := v0x0) rfl q272)) ?_
   refine s_val (v := (.int .i64 (s269.length : Int))) (won rfl) rfl rfl (x_len rfl slt_26 (ev (t := 7) rfl rfl) (H271).sl) ?_
   refine s_val (v := (.bool (decide (s275 < (s269.length : Int))))) (won rfl) rfl rfl (x_lss rfl (ev (t := 6) rfl rfl) (ev (t := 8) rfl rfl)) ?_
   refine wpList_nil ?_
   refine nx ?_
   rcases Bool.eq_false_or_eq_true ((decide (s275 < (s269.length : Int)))) with hb294 | hb294
   ·
    replace he := bifT he hb294
    refine c_true rfl (p := (decide (s275 < (s269.length : Int)))) rfl rfl hb294 ?_
    refine wp_skip ?_
    refine nx ?_
    refine wp_seq ?_
    refine wp_block ?_
    refine wp_seq ?_
    obtain ⟨hg300, he⟩ := gdE he
    refine wp_region_lit ?_
    refine s_val (v := v0x0) (won rfl) rfl rfl (x_move rfl (ev (t := 0) (v := v0x0) rfl q272)) ?_
    refine s_val (v := (.int .i64 s275)) (won rfl) rfl rfl (x_move rfl (ev (t := 5) (v := (.int .i64 s275)) rfl q276)) ?_
    refine s_val (v := (.int .i64 s273)) (won rfl) rfl rfl (x_move rfl (ev (t := 1) (v := (.int .i64 s273)) rfl q274)) ?_
    refine s_val (v := (.pointer (some ((slA v0x0).add (Int.toNat s275 * 1))))) (won rfl) rfl rfl (x_index (d := (FK.int .i64)) rfl slt_26 (ev (t := 12) rfl rfl) (ev (t := 13) rfl rfl) (H271.rd w0) hg300.1 hg300.2) ?_
    refine s_exw (won rfl) rfl (e_storeF (d := (FK.int .i64)) (s := s273) (vs := [(.int .i64 s273)]) (j := 0) rfl sz_3 (ev (t := 15) rfl rfl) (add_0 _).symm (ev (t := 14) rfl rfl) rfl rfl H271 hg300.1 hg300.2 rfl rfl hm292 (k := 0) rfl) ?_
    rintro h301 w303 ⟨H302, hm304⟩
    replace hm304 : Mem w0 w303 (cat [h301, hF]) := hm304
    refine wpList_nil ?_
    refine nx ?_
    refine wp_region_lit ?_
    refine s_val (v := (.int .i64 s273)) (won rfl) rfl rfl (x_move rfl (ev (t := 1) (v := (.int .i64 s273)) rfl q274)) ?_
    refine s_val (v := (.int .i64 (IntKind.wrap .i64 (s273 + 1)))) (won rfl) rfl rfl (x_add rfl (ev (t := 16) rfl rfl) rfl) ?_
    refine s_val (v := (.int .i64 (IntKind.wrap .i64 (s273 + 1)))) (won rfl) rfl rfl (x_assign rfl (ev (t := 17) rfl rfl)) ?_
    refine wpList_nil ?_
    refine nb ?_
    refine nx ?_
    refine wp_region_lit ?_
    refine s_val (v := (.int .i64 s275)) (won rfl) rfl rfl (x_move rfl (ev (t := 5) (v := (.int .i64 s275)) rfl q276)) ?_
    refine s_val (v := (.int .i64 (IntKind.wrap .i64 (s275 + 1)))) (won rfl) rfl rfl (x_add rfl (ev (t := 10) rfl rfl) rfl) ?_
    refine s_val (v := (.int .i64 (IntKind.wrap .i64 (s275 + 1)))) (won rfl) rfl rfl (x_assign rfl (ev (t := 11) rfl rfl)) ?_
    refine wpList_nil ?_
    refine nx ?_
    exact ⟨(List.set s269 (Int.toNat s275) s273), (IntKind.wrap .i64 (s273 + 1)), (IntKind.wrap .i64 (s275 + 1)), h301, _, he, rfl, q272, rfl, rfl, H302, Mem.pick [0, 1] rfl hm304⟩
   ·
    replace he := bifF he hb294
    refine c_false rfl (p := (decide (s275 < (s269.length : Int)))) rfl rfl hb294 ?_
    refine wp_exit ?_
    refine xs ?_
    refine xs ?_
    refine xb ?_
    refine nx ?_
    obtain rfl := Option.some.inj he
    exact ⟨h270, _, rfl, q274, H271, Mem.pick [0, 1] rfl hm292⟩
 ·
  rintro a w ⟨h228, f, rfl, q231, H229, hm306⟩
  replace he := hk233
  refine wp_seq ?_
  refine wp_region_lit ?_
  refine s_val (v := (.int .i64 s232.2)) (won rfl) rfl rfl (x_move rfl (ev (t := 1) (v := (.int .i64 s232.2)) rfl q231)) ?_
  refine s_val (v := (.int .i64 s232.2)) (won rfl) rfl rfl (x_assign rfl (ev (t := 18) rfl rfl)) ?_
  refine wpList_nil ?_
  refine nx ?_
  refine wp_ret ?_
  obtain rfl := Option.some.inj he
  refine r_ret (v := (.int .i64 s232.2)) (rv_one rfl (RVs.tmp (v := (.int .i64 s232.2)) rfl rfl RVs.nil)) rfl ?_
  exact ⟨h228, rfl, H229, Mem.pick [0, 1] rfl hm306⟩
def laws_markPool (F : Nat) (a0 : impl_Pool) (a1 : Int) : Option (Int × (List Int) × (List Int)) := (laws_markIntS F a0.Free a1).bind fun r33 => (laws_markIntS F a0.Owner r33.1).bind fun r38 => (some (r38.1, r33.2, r38.2))
set_option maxHeartbeats 400000 in
set_option maxRecDepth 100000 in
theorem laws_markPool_ok (F : Nat) {w0 w : World} {hR hF : Hp} {v0x0 : Value} {h0x0 : Hp} {v0x1 : Value} {h0x1 : Hp} (a0 : impl_Pool) (a1 : Int) {r : (Int × (List Int) × (List Int))} (H0x0 : OwF 3 (FK.int .i64) v0x0 a0.Free h0x0) (H0x1 : OwF 3 (FK.int .i64) v0x1 a0.Owner h0x1) (hm : Mem w0 w (cat [h0x0, h0x1, hF])) (he : laws_markPool F a0 a1 = some r) :
    Calls Try.prog 24 #[(.agg #[v0x0, v0x1]), (.int .i64 a1)] w (fun e w' => ∃ (h'0 : Hp) (h'1 : Hp), e = .returned (.int .i64 r.1) ∧ OwF 3 (FK.int .i64) v0x0 r.2.1 h'0 ∧ OwF 3 (FK.int .i64) v0x1 r.2.2 h'1 ∧ Mem w0 w' (cat [h'0, h'1, hF])) := by
 refine calls_fr (n := 14) Try.func24 rfl rfl rfl ?_
 unfold laws_markPool at he
 refine wp_seq ?_
 refine wp_region_lit ?_
 refine s_exv (won rfl) rfl rfl (e_box (vs := [v0x0, v0x1]) rfl (ev (t := 0) rfl rfl) rfl hm) ?_
 rintro g29 w30 hm31
 refine s_val (v := (.int .i64 0)) (won rfl) rfl rfl (x_assign rfl rfl) ?_
 refine wpList_nil ?_
 refine nx ?_
 refine wp_seq ?_
 obtain ⟨r33, hr33, he⟩ := bindE he
 refine wp_region_lit ?_
 refine s_val (v := (.pointer (some ⟨g29, 0, none⟩))) (won rfl) rfl rfl (x_field rfl fa_28x0 (ev (t := 2) rfl rfl)) ?_
 refine s_val (v := v0x0) (won rfl) rfl rfl (x_load rfl ty1x26 (ev (t := 5) rfl rfl) (seg_cell (o' := 0) (j := 0) hm31 (k := 0) rfl rfl rfl)) ?_
 refine s_val (v := (.int .i64 a1)) (won rfl) rfl rfl (x_move rfl (ev (t := 1) rfl rfl)) ?_
 refine s_call (won rfl) rfl rfl (x_call rfl rfl cl_70 (map_lit (map_cons (ev (t := 6) rfl rfl) (map_cons (ev (t := 7) rfl rfl) map_nil)))) (laws_markIntS_ok F (hR := (cat [])) (hF := cat [sg g29 28 (0, 0) [] [v0x0, v0x1] [], h0x1, hF]) a0.Free a1 H0x0 (Mem.grp [h0x0] [sg g29 28 (0, 0) [] [v0x0, v0x1] [], h0x1, hF] (Mem.pick [1, 0, 2, 3] rfl hm31)) hr33) ?_
 rintro e w36 ⟨h34, rfl, H35, hm37⟩
 refine ⟨_, rfl, ?_⟩
 replace hm37 : Mem w0 w36 (cat [h34, sg g29 28 (0, 0) [] [v0x0, v0x1] [], h0x1, hF]) := Mem.ung [h34] [sg g29 28 (0, 0) [] [v0x0, v0x1] [], h0x1, hF] hm37
 refine s_val (v := (.int .i64 r33.1)) (won rfl) rfl rfl (x_assign rfl (ev (t := 8) rfl rfl)) ?_
 refine wpList_nil ?_
 refine nx ?_
 refine wp_seq ?_
 obtain ⟨r38, hr38, he⟩ := bindE he
 refine wp_region_lit ?_
 refine s_val (v := (.pointer (some ⟨g29, 1, none⟩))) (won rfl) rfl rfl (x_field rfl fa_28x1 (ev (t := 2) rfl rfl)) ?_
 refine s_val (v := v0x1) (won rfl) rfl rfl (x_load rfl ty1x26 (ev (t := 9) rfl rfl) (seg_cell (o' := 0) (j := 1) hm37 (k := 1) rfl rfl rfl)) ?_
 refine s_val (v := (.int .i64 r33.1)) (won rfl) rfl rfl (x_move rfl (ev (t := 1) rfl rfl)) ?_
 refine s_call (won rfl) rfl rfl (x_call rfl rfl cl_70 (map_lit (map_cons (ev (t := 10) rfl rfl) (map_cons (ev (t := 11) rfl rfl) map_nil)))) (laws_markIntS_ok F (hR := (cat [])) (hF := cat [h34, sg g29 28 (0, 0) [] [v0x0, v0x1] [], hF]) a0.Owner r33.1 H0x1 (Mem.grp [h0x1] [h34, sg g29 28 (0, 0) [] [v0x0, v0x1] [], hF] (Mem.pick [2, 0, 1, 3] rfl hm37)) hr38) ?_
 rintro e w41 ⟨h39, rfl, H40, hm42⟩
 refine ⟨_, rfl, ?_⟩
 replace hm42 : Mem w0 w41 (cat [h39, h34, sg g29 28 (0, 0) [] [v0x0, v0x1] [], hF]) := Mem.ung [h39] [h34, sg g29 28 (0, 0) [] [v0x0, v0x1] [], hF] hm42
 refine s_val (v := (.int .i64 r38.1)) (won rfl) rfl rfl (x_assign rfl (ev (t := 12) rfl rfl)) ?_
 refine wpList_nil ?_
 have hm43 : Mem w0 w41 (cat [h39, h34, hF]) := Mem.pick [0, 1, 3] rfl hm42
 refine nx ?_
 refine wp_seq ?_
 refine wp_region_lit ?_
 refine s_val (v := (.int .i64 r38.1)) (won rfl) rfl rfl (x_move rfl (ev (t := 1) rfl rfl)) ?_
 refine s_val (v := (.int .i64 r38.1)) (won rfl) rfl rfl (x_assign rfl (ev (t := 13) rfl rfl)) ?_
 refine wpList_nil ?_
 refine nx ?_
 refine wp_ret ?_
 obtain rfl := Option.some.inj he
 refine r_ret (v := (.int .i64 r38.1)) (rv_one rfl (RVs.tmp (v := (.int .i64 r38.1)) rfl rfl RVs.nil)) rfl ?_
 exact ⟨h34, h39, rfl, H35, H40, Mem.pick [1, 0, 2] rfl hm43⟩
def laws_heldIntS_l1 (F : Nat) (a0 : (List Int)) : Nat → Int → Int → Option (Fl (Int) (Int))
  | 0, _, _ => none
  | k + 1, s155, s157 => (bif (decide (s157 < (a0.length : Int))) then gd ((0 : Int) ≤ s157 ∧ s157 < (a0.length : Int)) ((bif (!decide ((ix a0 s157) = s155)) then (some (Fl.out (-1))) else laws_heldIntS_l1 F a0 k (IntKind.wrap .i64 (s155 + 1)) (IntKind.wrap .i64 (s157 + 1)))) else (some (Fl.go s155)))
def laws_heldIntS (F : Nat) (a0 : (List Int)) (a1 : Int) : Option (Int) := (laws_heldIntS_l1 F a0 F a1 0 : Option (Fl (Int) (Int))).bind fun l138 => l138.on fun (s137 : (Int)) => (some s137)
set_option maxHeartbeats 400000 in
set_option maxRecDepth 100000 in
theorem laws_heldIntS_ok (F : Nat) {w0 w : World} {hR hF : Hp} {v0x0 : Value} (a0 : (List Int)) (a1 : Int) {r : (Int)} (H0x0 : RdF w0 (FK.int .i64) v0x0 a0 hR) (hs : Sub hR hF) (hm : Mem w0 w (cat [hF])) (he : laws_heldIntS F a0 a1 = some r) :
    Calls Try.prog 71 #[v0x0, (.int .i64 a1)] w (fun e w' => e = .returned (.int .i64 r) ∧ Mem w0 w' (cat [hF])) := by
 refine calls_fr (n := 21) Try.func71 rfl rfl rfl ?_
 unfold laws_heldIntS at he
 refine wp_seq ?_
 refine wp_region_lit ?_
 refine s_val (v := (.int .i64 0)) (won rfl) rfl rfl (x_assign rfl rfl) ?_
 refine wpList_nil ?_
 refine nx ?_
 obtain ⟨l138, hT140, hk139⟩ := bindE he
 replace he := hT140
 refine wp_seqJ (fun a w => ∃ (s137 : (Int)) (f : Nat → Value), l138 = Fl.go s137 ∧ a = fr 21 f ∧ f 1 = (.int .i64 s137) ∧ Mem w0 w (cat [hF])) ?_ ?_
 ·
  refine wp_seq ?_
  refine wp_region_lit ?_
  refine s_val (v := (.int .i64 0)) (won rfl) rfl rfl (x_assign rfl rfl) ?_
  refine wpList_nil ?_
  refine nx ?_
  refine wp_block ?_
  refine wp_fuel (I := fun k => fun a w => ∃ (s155 : Int) (s157 : Int) (f : Nat → Value), laws_heldIntS_l1 F a0 k s155 s157 = some l138 ∧ a = fr 21 f ∧ f 0 = v0x0 ∧ f 1 = (.int .i64 s155) ∧ f 5 = (.int .i64 s157) ∧ Mem w0 w (cat [hF])) F _ _ ⟨a1, 0, _, he, rfl, rfl, rfl, rfl, Mem.pick [0] rfl hm⟩ ?_ ?_
  ·
   rintro a w ⟨s155, s157, f, he, rfl, q154, q156, q158, hm170⟩
   rw [laws_heldIntS_l1] at he; exact none_no he
  ·
   rintro k a w ⟨s155, s157, f, he, rfl, q154, q156, q158, hm172⟩
   rw [laws_heldIntS_l1] at he
   refine wp_seq ?_
   refine wp_seq ?_
   refine wp_region_lit ?_
   refine s_val (v := (.int .i64 s157)) (won rfl) rfl rfl (x_move rfl (ev (t := 5) (v := (.int .i64 s157)) rfl q158)) ?_
   refine s_val (v := v0x0) (won rfl) rfl rfl (x_move rfl (ev (t := 0) (v := v0x0) rfl q154)) ?_
   refine s_val (v := (.int .i64 (a0.length : Int))) (won rfl) rfl rfl (x_len rfl slt_26 (ev (t := 7) rfl rfl) (H0x0).sl) ?_
   refine s_val (v := (.bool (decide (s157 < (a0.length : Int))))) (won rfl) rfl rfl (x_lss rfl (ev (t := 6) rfl rfl) (ev (t := 8) rfl rfl)) ?_
   refine wpList_nil ?_
   refine nx ?_
   rcases Bool.eq_false_or_eq_true ((decide (s157 < (a0.length : Int)))) with hb174 | hb174
   ·
    replace he := bifT he hb174
    refine c_true rfl (p := (decide (s157 < (a0.length : Int)))) rfl rfl hb174 ?_
    refine wp_skip ?_
    refine nx ?_
    refine wp_seq ?_
    refine wp_block ?_
    refine wp_seq ?_
    refine wp_seq ?_
    obtain ⟨hg181, he⟩ := gdE he
    refine wp_region_lit ?_
    refine s_val (v := v0x0) (won rfl) rfl rfl (x_move rfl (ev (t := 0) (v := v0x0) rfl q154)) ?_
    refine s_val (v := (.int .i64 s157)) (won rfl) rfl rfl (x_move rfl (ev (t := 5) (v := (.int .i64 s157)) rfl q158)) ?_
    refine s_val (v := (.pointer (some ((slA v0x0).add (Int.toNat s157 * 1))))) (won rfl) rfl rfl (x_index (d := (FK.int .i64)) rfl slt_26 (ev (t := 12) rfl rfl) (ev (t := 13) rfl rfl) H0x0 hg181.1 hg181.2) ?_
    refine s_val (v := (.int .i64 (ix a0 s157))) (won rfl) rfl rfl (x_load rfl ty1x3 (ev (t := 14) rfl rfl) (RdF.cell0 H0x0 hm172 (Sub.trans hs (Sub.at_ (k := 0) rfl)) hg181.1 hg181.2 rfl)) ?_
    refine s_val (v := (.int .i64 s155)) (won rfl) rfl rfl (x_move rfl (ev (t := 1) (v := (.int .i64 s155)) rfl q156)) ?_
    refine s_val (v := (.bool (!decide ((ix a0 s157) = s155)))) (won rfl) rfl rfl (x_neq rfl (ev (t := 15) rfl rfl) (ev (t := 16) rfl rfl)) ?_
    refine wpList_nil ?_
    refine nx ?_
    rcases Bool.eq_false_or_eq_true ((!decide ((ix a0 s157) = s155))) with hb182 | hb182
    ·
     replace he := bifT he hb182
     refine c_true rfl (p := (!decide ((ix a0 s157) = s155))) rfl rfl hb182 ?_
     refine wp_seq ?_
     refine wp_region_lit ?_
     refine s_val (v := (.int .i64 (-1))) (won rfl) rfl rfl (x_assign rfl rfl) ?_
     refine wpList_nil ?_
     refine nx ?_
     refine wp_ret ?_
     refine xr ?_
     refine rb ?_
     refine xr ?_
     refine xr ?_
     refine rb ?_
     refine xr ?_
     obtain rfl := Option.some.inj he
     replace he := outE hk139
     obtain rfl := Option.some.inj he
     refine r_ret (v := (.int .i64 (-1))) (rv_one rfl (RVs.tmp (v := (.int .i64 (-1))) rfl rfl RVs.nil)) rfl ?_
     exact ⟨rfl, Mem.pick [0] rfl hm172⟩
    ·
     replace he := bifF he hb182
     refine c_false rfl (p := (!decide ((ix a0 s157) = s155))) rfl rfl hb182 ?_
     refine wp_skip ?_
     refine nx ?_
     refine wp_region_lit ?_
     refine s_val (v := (.int .i64 s155)) (won rfl) rfl rfl (x_move rfl (ev (t := 1) (v := (.int .i64 s155)) rfl q156)) ?_
     refine s_val (v := (.int .i64 (IntKind.wrap .i64 (s155 + 1)))) (won rfl) rfl rfl (x_add rfl (ev (t := 18) rfl rfl) rfl) ?_
     refine s_val (v := (.int .i64 (IntKind.wrap .i64 (s155 + 1)))) (won rfl) rfl rfl (x_assign rfl (ev (t := 19) rfl rfl)) ?_
     refine wpList_nil ?_
     refine nb ?_
     refine nx ?_
     refine wp_region_lit ?_
     refine s_val (v := (.int .i64 s157)) (won rfl) rfl rfl (x_move rfl (ev (t := 5) (v := (.int .i64 s157)) rfl q158)) ?_
     refine s_val (v := (.int .i64 (IntKind.wrap .i64 (s157 + 1)))) (won rfl) rfl rfl (x_add rfl (ev (t := 10) rfl rfl) rfl) ?_
     refine s_val (v := (.int .i64 (IntKind.wrap .i64 (s157 + 1)))) (won rfl) rfl rfl (x_assign rfl (ev (t := 11) rfl rfl)) ?_
     refine wpList_nil ?_
     refine nx ?_
     exact ⟨(IntKind.wrap .i64 (s155 + 1)), (IntKind.wrap .i64 (s157 + 1)), _, he, rfl, q154, rfl, rfl, Mem.pick [0] rfl hm172⟩
   ·
    replace he := bifF he hb174
    refine c_false rfl (p := (decide (s157 < (a0.length : Int)))) rfl rfl hb174 ?_
    refine wp_exit ?_
    refine xs ?_
    refine xs ?_
    refine xb ?_
    refine nx ?_
    obtain rfl := Option.some.inj he
    exact ⟨s155, _, rfl, rfl, q156, Mem.pick [0] rfl hm172⟩
 ·
  rintro a w ⟨s137, f, rfl, rfl, q136, hm184⟩
  replace he := goE hk139
  refine wp_seq ?_
  refine wp_region_lit ?_
  refine s_val (v := (.int .i64 s137)) (won rfl) rfl rfl (x_move rfl (ev (t := 1) (v := (.int .i64 s137)) rfl q136)) ?_
  refine s_val (v := (.int .i64 s137)) (won rfl) rfl rfl (x_assign rfl (ev (t := 20) rfl rfl)) ?_
  refine wpList_nil ?_
  refine nx ?_
  refine wp_ret ?_
  obtain rfl := Option.some.inj he
  refine r_ret (v := (.int .i64 s137)) (rv_one rfl (RVs.tmp (v := (.int .i64 s137)) rfl rfl RVs.nil)) rfl ?_
  exact ⟨rfl, Mem.pick [0] rfl hm184⟩
def laws_heldPool (F : Nat) (a0 : impl_Pool) (a1 : Int) : Option (Int) := (laws_heldIntS F a0.Free a1).bind fun r22 => (bif (decide (r22 < 0)) then (some (-1)) else (laws_heldIntS F a0.Owner r22).bind fun r29 => (bif (decide (r29 < 0)) then (some (-1)) else (some r29)))
set_option maxHeartbeats 400000 in
set_option maxRecDepth 100000 in
theorem laws_heldPool_ok (F : Nat) {w0 w : World} {hR hF : Hp} {v0x0 : Value} {v0x1 : Value} (a0 : impl_Pool) (a1 : Int) {r : (Int)} (H0x0 : RdF w0 (FK.int .i64) v0x0 a0.Free hR) (H0x1 : RdF w0 (FK.int .i64) v0x1 a0.Owner hR) (hs : Sub hR hF) (hm : Mem w0 w (cat [hF])) (he : laws_heldPool F a0 a1 = some r) :
    Calls Try.prog 25 #[(.agg #[v0x0, v0x1]), (.int .i64 a1)] w (fun e w' => e = .returned (.int .i64 r) ∧ Mem w0 w' (cat [hF])) := by
 refine calls_fr (n := 18) Try.func25 rfl rfl rfl ?_
 unfold laws_heldPool at he
 refine wp_seq ?_
 refine wp_region_lit ?_
 refine s_exv (won rfl) rfl rfl (e_box (vs := [v0x0, v0x1]) rfl (ev (t := 0) rfl rfl) rfl hm) ?_
 rintro g18 w19 hm20
 refine s_val (v := (.int .i64 0)) (won rfl) rfl rfl (x_assign rfl rfl) ?_
 refine wpList_nil ?_
 refine nx ?_
 refine wp_seq ?_
 obtain ⟨r22, hr22, he⟩ := bindE he
 refine wp_region_lit ?_
 refine s_val (v := (.pointer (some ⟨g18, 0, none⟩))) (won rfl) rfl rfl (x_field rfl fa_28x0 (ev (t := 2) rfl rfl)) ?_
 refine s_val (v := v0x0) (won rfl) rfl rfl (x_load rfl ty1x26 (ev (t := 5) rfl rfl) (seg_cell (o' := 0) (j := 0) hm20 (k := 0) rfl rfl rfl)) ?_
 refine s_val (v := (.int .i64 a1)) (won rfl) rfl rfl (x_move rfl (ev (t := 1) rfl rfl)) ?_
 refine s_call (won rfl) rfl rfl (x_call rfl rfl cl_71 (map_lit (map_cons (ev (t := 6) rfl rfl) (map_cons (ev (t := 7) rfl rfl) map_nil)))) (laws_heldIntS_ok F (hR := (cat [hR])) (hF := cat [sg g18 28 (0, 0) [] [v0x0, v0x1] [], hF]) a0.Free a1 (H0x0.mono (Sub.at_ (k := 0) rfl)) (subc (Sub.trans hs (Sub.at_ (k := 1) rfl)) subn) (Mem.one hm20) hr22) ?_
 rintro e w23 ⟨rfl, hm24⟩
 refine ⟨_, rfl, ?_⟩
 replace hm24 : Mem w0 w23 (cat [sg g18 28 (0, 0) [] [v0x0, v0x1] [], hF]) := Mem.un hm24
 refine s_val (v := (.int .i64 r22)) (won rfl) rfl rfl (x_assign rfl (ev (t := 8) rfl rfl)) ?_
 refine wpList_nil ?_
 refine nx ?_
 refine wp_seq ?_
 refine wp_seq ?_
 refine wp_region_lit ?_
 refine s_val (v := (.int .i64 r22)) (won rfl) rfl rfl (x_move rfl (ev (t := 1) rfl rfl)) ?_
 refine s_val (v := (.bool (decide (r22 < 0)))) (won rfl) rfl rfl (x_lss rfl (ev (t := 9) rfl rfl) rfl) ?_
 refine wpList_nil ?_
 refine nx ?_
 rcases Bool.eq_false_or_eq_true ((decide (r22 < 0))) with hb27 | hb27
 ·
  replace he := bifT he hb27
  refine c_true rfl (p := (decide (r22 < 0))) rfl rfl hb27 ?_
  refine wp_seq ?_
  refine wp_region_lit ?_
  refine s_val (v := (.int .i64 (-1))) (won rfl) rfl rfl (x_assign rfl rfl) ?_
  refine wpList_nil ?_
  have hm28 : Mem w0 w23 (cat [hF]) := Mem.pick [1] rfl hm24
  refine nx ?_
  refine wp_ret ?_
  refine xr ?_
  obtain rfl := Option.some.inj he
  refine r_ret (v := (.int .i64 (-1))) (rv_one rfl (RVs.tmp (v := (.int .i64 (-1))) rfl rfl RVs.nil)) rfl ?_
  exact ⟨rfl, Mem.pick [0] rfl hm28⟩
 ·
  replace he := bifF he hb27
  refine c_false rfl (p := (decide (r22 < 0))) rfl rfl hb27 ?_
  refine wp_skip ?_
  refine nx ?_
  refine wp_seq ?_
  obtain ⟨r29, hr29, he⟩ := bindE he
  refine wp_region_lit ?_
  refine s_val (v := (.pointer (some ⟨g18, 1, none⟩))) (won rfl) rfl rfl (x_field rfl fa_28x1 (ev (t := 2) rfl rfl)) ?_
  refine s_val (v := v0x1) (won rfl) rfl rfl (x_load rfl ty1x26 (ev (t := 11) rfl rfl) (seg_cell (o' := 0) (j := 1) hm24 (k := 0) rfl rfl rfl)) ?_
  refine s_val (v := (.int .i64 r22)) (won rfl) rfl rfl (x_move rfl (ev (t := 1) rfl rfl)) ?_
  refine s_call (won rfl) rfl rfl (x_call rfl rfl cl_71 (map_lit (map_cons (ev (t := 12) rfl rfl) (map_cons (ev (t := 13) rfl rfl) map_nil)))) (laws_heldIntS_ok F (hR := (cat [hR])) (hF := cat [sg g18 28 (0, 0) [] [v0x0, v0x1] [], hF]) a0.Owner r22 (H0x1.mono (Sub.at_ (k := 0) rfl)) (subc (Sub.trans hs (Sub.at_ (k := 1) rfl)) subn) (Mem.one hm24) hr29) ?_
  rintro e w30 ⟨rfl, hm31⟩
  refine ⟨_, rfl, ?_⟩
  replace hm31 : Mem w0 w30 (cat [sg g18 28 (0, 0) [] [v0x0, v0x1] [], hF]) := Mem.un hm31
  refine s_val (v := (.int .i64 r29)) (won rfl) rfl rfl (x_assign rfl (ev (t := 14) rfl rfl)) ?_
  refine wpList_nil ?_
  have hm32 : Mem w0 w30 (cat [hF]) := Mem.pick [1] rfl hm31
  refine nx ?_
  refine wp_seq ?_
  refine wp_seq ?_
  refine wp_region_lit ?_
  refine s_val (v := (.int .i64 r29)) (won rfl) rfl rfl (x_move rfl (ev (t := 1) rfl rfl)) ?_
  refine s_val (v := (.bool (decide (r29 < 0)))) (won rfl) rfl rfl (x_lss rfl (ev (t := 15) rfl rfl) rfl) ?_
  refine wpList_nil ?_
  refine nx ?_
  rcases Bool.eq_false_or_eq_true ((decide (r29 < 0))) with hb34 | hb34
  ·
   replace he := bifT he hb34
   refine c_true rfl (p := (decide (r29 < 0))) rfl rfl hb34 ?_
   refine wp_seq ?_
   refine wp_region_lit ?_
   refine s_val (v := (.int .i64 (-1))) (won rfl) rfl rfl (x_assign rfl rfl) ?_
   refine wpList_nil ?_
   refine nx ?_
   refine wp_ret ?_
   refine xr ?_
   obtain rfl := Option.some.inj he
   refine r_ret (v := (.int .i64 (-1))) (rv_one rfl (RVs.tmp (v := (.int .i64 (-1))) rfl rfl RVs.nil)) rfl ?_
   exact ⟨rfl, Mem.pick [0] rfl hm32⟩
  ·
   replace he := bifF he hb34
   refine c_false rfl (p := (decide (r29 < 0))) rfl rfl hb34 ?_
   refine wp_skip ?_
   refine nx ?_
   refine wp_seq ?_
   refine wp_region_lit ?_
   refine s_val (v := (.int .i64 r29)) (won rfl) rfl rfl (x_move rfl (ev (t := 1) rfl rfl)) ?_
   refine s_val (v := (.int .i64 r29)) (won rfl) rfl rfl (x_assign rfl (ev (t := 17) rfl rfl)) ?_
   refine wpList_nil ?_
   refine nx ?_
   refine wp_ret ?_
   obtain rfl := Option.some.inj he
   refine r_ret (v := (.int .i64 r29)) (rv_one rfl (RVs.tmp (v := (.int .i64 r29)) rfl rfl RVs.nil)) rfl ?_
   exact ⟨rfl, Mem.pick [0] rfl hm32⟩
end Go.Proofs.Ytpkdolmbhfmjcaa.FnExactPoolStep
