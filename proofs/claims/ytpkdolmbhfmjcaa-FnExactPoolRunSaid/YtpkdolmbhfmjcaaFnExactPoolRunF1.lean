/- What functions of the program compute, and their walks: printed. -/
import Derived.Test.YtpkdolmbhfmjcaaFnExactPoolRunT
import Derived.Test.YtpkdolmbhfmjcaaFnExactPoolRunF0
set_option linter.unusedVariables false
set_option linter.unusedSimpArgs false
set_option linter.unusedSectionVars false
namespace Go.Proofs.Ytpkdolmbhfmjcaa.FnExactPoolRun
open Go.RowKit Go.Proofs.Gw
attribute [local irreducible] wpList DG wpQuiet wl
def impl_NewPool_l1 (F : Nat) (a0 : Int) : Nat → (List Int) → (List Int) → Int → Option ((List Int) × (List Int))
  | 0, _, _, _ => none
  | k + 1, s3929, s3932, s3937 => (bif (decide (s3937 < a0)) then gd ((0 : Int) ≤ s3937 ∧ s3937 < (s3929.length : Int)) (gd ((0 : Int) ≤ s3937 ∧ s3937 < (s3932.length : Int)) (impl_NewPool_l1 F a0 k (List.set s3929 (Int.toNat s3937) s3937) (List.set s3932 (Int.toNat s3937) (-1)) (IntKind.wrap .i64 (s3937 + 1)))) else (some (s3929, s3932)))
def impl_NewPool (F : Nat) (a0 : Int) : Option (impl_Pool × Int) := (impl_inRange a0 1 32).bind fun r2010 => (bif (!r2010) then (some ((impl_Pool.mk ([] : List Int) ([] : List Int)), 4)) else gd ((0 : Int) ≤ a0 ∧ (Int.toNat a0) * 8 ≤ 140737488355328) (gd ((0 : Int) ≤ a0 ∧ (Int.toNat a0) * 8 ≤ 140737488355328) ((impl_NewPool_l1 F a0 F (List.replicate (Int.toNat a0) 0) (List.replicate (Int.toNat a0) 0) 0 : Option ((List Int) × (List Int))).bind fun (s3864 : ((List Int) × (List Int))) => (some ((impl_Pool.mk s3864.1 s3864.2), 0)))))
set_option maxHeartbeats 400000 in
set_option maxRecDepth 100000 in
theorem impl_NewPool_ok (F : Nat) {w0 w : World} {hR hF : Hp} (a0 : Int) {r : (impl_Pool × Int)} (hm : Mem w0 w (cat [hF])) (he : impl_NewPool F a0 = some r) :
    Calls Try.prog 11 #[(.int .i64 a0)] w (fun e w' => ∃ (v'0 : Value) (h'0 : Hp) (v'1 : Value) (h'1 : Hp), e = .returned (.tuple #[(.agg #[v'0, v'1]), (.int .i64 r.2)]) ∧ OwF 3 (FK.int .i64) v'0 r.1.Free h'0 ∧ OwF 3 (FK.int .i64) v'1 r.1.Owner h'1 ∧ Mem w0 w' (cat [h'0, h'1, hF])) := by
 refine calls_fr (n := 30) Try.func11 rfl rfl rfl ?_
 unfold impl_NewPool at he
 refine wp_seq ?_
 refine wp_region_lit ?_
 refine s_exv (won rfl) rfl rfl (e_alloc (vs := [(.slice none 0 0), (.slice none 0 0)]) rfl zt_28 rfl hm) ?_
 rintro g1998 w1999 hm2000
 refine s_val (v := (.int .i64 0)) (won rfl) rfl rfl (x_assign rfl rfl) ?_
 refine wpList_nil ?_
 refine nx ?_
 refine wp_seq ?_
 refine wp_seq ?_
 obtain ⟨r2010, hr2010, he⟩ := bindE he
 refine wp_region_lit ?_
 refine s_val (v := (.int .i64 a0)) (won rfl) rfl rfl (x_move rfl (ev (t := 0) rfl rfl)) ?_
 refine s_call (won rfl) rfl rfl (x_call rfl rfl cl_58 (map_lit (map_cons (ev (t := 6) rfl rfl) (map_cons rfl (map_cons rfl map_nil))))) (impl_inRange_ok (hR := (cat [])) (hF := cat [sg g1998 28 (0, 0) [] [(.slice none 0 0), (.slice none 0 0)] [], hF]) a0 1 32  (Mem.one hm2000) hr2010) ?_
 rintro e w2011 ⟨rfl, hm2012⟩
 refine ⟨_, rfl, ?_⟩
 replace hm2012 : Mem w0 w2011 (cat [sg g1998 28 (0, 0) [] [(.slice none 0 0), (.slice none 0 0)] [], hF]) := Mem.un hm2012
 refine s_val (v := (.bool (!r2010))) (won rfl) rfl rfl (x_not rfl (ev (t := 7) rfl rfl)) ?_
 refine wpList_nil ?_
 refine nx ?_
 rcases Bool.eq_false_or_eq_true ((!r2010)) with hb2013 | hb2013
 ·
  replace he := bifT he hb2013
  refine c_true rfl (p := (!r2010)) rfl rfl hb2013 ?_
  refine wp_seq ?_
  refine wp_region_lit ?_
  refine s_val (v := (.agg #[(.slice none 0 0), (.slice none 0 0)])) (won rfl) rfl rfl (x_build (cells := [(.slice none 0 0), (.slice none 0 0)]) (zc := [.slice none 0 0, .slice none 0 0]) (sizes := [(0, 1), (1, 1)]) (ps := []) rfl zt_28 rfl uf_28 ufz_28 (pmap_lit pmap_nil) fill_nil) ?_
  refine s_exs (won rfl) rfl (e_store (vs := [(.slice none 0 0), (.slice none 0 0)]) (o' := 0) (j := 0) rfl sz_28 (ev (t := 2) rfl rfl) (ev (t := 9) rfl rfl) rfl rfl hm2012 (k := 0) rfl rfl rfl) ?_
  intro w2016 hm2017
  replace hm2017 : Mem w0 w2016 (cat [sg g1998 28 (0, 0) [] [(.slice none 0 0), (.slice none 0 0)] [], hF]) := hm2017
  refine s_val (v := (.int .i64 4)) (won rfl) rfl rfl (x_assign rfl rfl) ?_
  refine wpList_nil ?_
  refine nx ?_
  refine wp_ret ?_
  refine xr ?_
  obtain rfl := Option.some.inj he
  refine r_ret (v := (.tuple #[(.agg #[(.slice none 0 0), (.slice none 0 0)]), (.int .i64 4)])) (rv_list rfl rfl (RVs.cell (cs := [(.slice none 0 0), (.slice none 0 0)]) rfl rfl tyN_28 (seg_cells (o' := 0) (j := 0) hm2017 (k := 0) rfl rfl rfl) (RVs.tmp (v := (.int .i64 4)) rfl rfl RVs.nil))) rfl ?_
  exact ⟨(.slice none 0 0), [], (.slice none 0 0), [], rfl, (OwF.nil 3 (FK.int .i64)), (OwF.nil 3 (FK.int .i64)), Mem.pick [1000, 1001, 1] rfl hm2017⟩
 ·
  replace he := bifF he hb2013
  refine c_false rfl (p := (!r2010)) rfl rfl hb2013 ?_
  refine wp_skip ?_
  refine nx ?_
  refine wp_seq ?_
  obtain ⟨hg3101, he⟩ := gdE he
  obtain ⟨hg3301, he⟩ := gdE he
  obtain ⟨hz3000, hze3000⟩ : ∃ hz : Hp, hz = cat [sg g1998 28 (0, 0) [] [(.slice none 0 0), (.slice none 0 0)] [], hF] := ⟨_, rfl⟩
  have hm3000 : Mem w0 w2011 (cat [hz3000]) := by rw [hze3000]; exact Mem.grp [] [sg g1998 28 (0, 0) [] [(.slice none 0 0), (.slice none 0 0)] [], hF] (Mem.pick [0, 1] rfl hm2012)
  refine wp_drawF (I := fun f b a w => ∃ (vs : Nat → Value) (p3103 : Value × Hp) (p3303 : Value × Hp) (g3503 : Nat), a = fr 30 (sel b [(0, 10), (1, 11), (2, 12), (3, 13), (4, 14), (5, 4)] vs f) ∧ (b 0 = true → vs 0 = (.int .i64 a0)) ∧ (b 1 = true → vs 1 = p3103.1) ∧ (b 2 = true → vs 2 = (.int .i64 a0)) ∧ (b 3 = true → vs 3 = p3303.1) ∧ (b 4 = true → vs 4 = (.agg #[p3103.1, p3303.1])) ∧ (b 5 = true → vs 5 = (.pointer (some ⟨g3503, 0, none⟩))) ∧ (b 1 = true → OwF 3 (FK.int .i64) p3103.1 (List.replicate (Int.toNat a0) 0) p3103.2) ∧ (b 3 = true → OwF 3 (FK.int .i64) p3303.1 (List.replicate (Int.toNat a0) 0) p3303.2) ∧ Mem w0 w (cat [hz3000, (bif b 1 then p3103.2 else []), (bif b 3 then p3303.2 else []), (bif b 6 then sg g3503 28 (0, 0) [] [p3103.1, p3303.1] [] else (bif b 5 then sg g3503 28 (0, 0) [] [(.slice none 0 0), (.slice none 0 0)] [] else []))])) mixed (by kernel_rfl) ⟨fun _ => undef, (undef, []), (undef, []), 0, (by rw [sel_false]), fun h => fno h, fun h => fno h, fun h => fno h, fun h => fno h, fun h => fno h, fun h => fno h, fun h => fno h, fun h => fno h, Mem.drew (Mem.pick [0, 1000, 1001, 1002] rfl hm3000)⟩ (steps_cons (i := 0) ?_ (steps_cons (i := 1) ?_ (steps_cons (i := 2) ?_ (steps_cons (i := 3) ?_ (steps_cons (i := 4) ?_ (steps_cons (i := 5) ?_ (steps_cons (i := 6) ?_ steps_nil))))))) ?_
  ·
   intro b a w hI hbi hn hc K hK
   obtain ⟨vs, p3103, p3303, g3503, ha, y0, y1, y2, y3, y4, y5, H3104, H3304, hm⟩ := hI
   subst ha
   have b1 : b 1 = false := later (j := 1) hc rfl (i := 0) (da rfl) hbi
   have b4 : b 4 = false := later (j := 4) hc rfl (i := 1) (da rfl) b1
   have b6 : b 6 = false := later (j := 6) hc rfl (i := 0) (da rfl) hbi
   have hm3701 : Mem w0 w (cat [hz3000, (bif b 3 then p3303.2 else []), (bif b 5 then sg g3503 28 (0, 0) [] [(.slice none 0 0), (.slice none 0 0)] [] else [])]) := Mem.pick [0, 2, 3] rfl (Mem.cg (B := [hz3000, [], (bif b 3 then p3303.2 else []), (bif b 5 then sg g3503 28 (0, 0) [] [(.slice none 0 0), (.slice none 0 0)] [] else [])]) (cat_cons rfl (cat_cons (off_ b1 rfl) (cat_cons rfl (cat_cons (off_ b6 rfl) rfl)))) hm)
   refine e_val (i := 0) hbi rfl rfl (v := (.int .i64 a0)) (won rfl) rfl rfl (x_move rfl (ev (t := 0) (v := (.int .i64 a0)) rfl ((sel_no rfl).trans rfl))) ?_
   exact hK _ _ ⟨_, p3103, p3303, g3503, rfl, fun _ => rfl, y1, y2, y3, y4, y5, H3104, H3304, Mem.gc (A := [hz3000, [], (bif b 3 then p3303.2 else []), (bif b 5 then sg g3503 28 (0, 0) [] [(.slice none 0 0), (.slice none 0 0)] [] else [])]) (cat_cons rfl (cat_cons (off_ b1 rfl) (cat_cons rfl (cat_cons (off_ b6 rfl) rfl)))) (Mem.pick [0, 1001, 1, 2] rfl hm3701)⟩
  ·
   intro b a w hI hbi hn hc K hK
   obtain ⟨vs, p3103, p3303, g3503, ha, y0, y1, y2, y3, y4, y5, H3104, H3304, hm⟩ := hI
   subst ha
   have b0 : b 0 = true := hn 0 (da rfl)
   have b4 : b 4 = false := later (j := 4) hc rfl (i := 1) (da rfl) hbi
   have b6 : b 6 = false := later (j := 6) hc rfl (i := 1) (da rfl) hbi
   have hm3704 : Mem w0 w (cat [hz3000, (bif b 3 then p3303.2 else []), (bif b 5 then sg g3503 28 (0, 0) [] [(.slice none 0 0), (.slice none 0 0)] [] else [])]) := Mem.pick [0, 2, 3] rfl (Mem.cg (B := [hz3000, [], (bif b 3 then p3303.2 else []), (bif b 5 then sg g3503 28 (0, 0) [] [(.slice none 0 0), (.slice none 0 0)] [] else [])]) (cat_cons rfl (cat_cons (off_ hbi rfl) (cat_cons rfl (cat_cons (off_ b6 rfl) rfl)))) hm)
   refine e_exv (i := 1) hbi rfl rfl (won rfl) rfl rfl (e_make (d := (FK.int .i64)) (a := 0) rfl slt_26 rfl (ev (t := 10) (v := (.int .i64 a0)) rfl ((sel_on (p := (0, 10)) rfl b0).trans (y0 b0))) (ev (t := 10) (v := (.int .i64 a0)) rfl ((sel_on (p := (0, 10)) rfl b0).trans (y0 b0))) hg3101.1 hg3101.2 (by have := hg3101; omega) hm3704) ?_
   rintro p3103 w3105 ⟨H3104, hm3106⟩
   replace hm3106 : Mem w0 w3105 (cat [p3103.2, hz3000, (bif b 3 then p3303.2 else []), (bif b 5 then sg g3503 28 (0, 0) [] [(.slice none 0 0), (.slice none 0 0)] [] else [])]) := hm3106
   exact hK _ _ ⟨_, p3103, p3303, g3503, rfl, y0, fun _ => rfl, y2, y3, fun hb => ab b4 hb, y5, fun _ => H3104, H3304, Mem.gc (A := [hz3000, p3103.2, (bif b 3 then p3303.2 else []), (bif b 5 then sg g3503 28 (0, 0) [] [(.slice none 0 0), (.slice none 0 0)] [] else [])]) (cat_cons rfl (cat_cons (on_ rfl rfl) (cat_cons rfl (cat_cons (off_ b6 rfl) rfl)))) (Mem.pick [1, 0, 2, 3] rfl hm3106)⟩
  ·
   intro b a w hI hbi hn hc K hK
   obtain ⟨vs, p3103, p3303, g3503, ha, y0, y1, y2, y3, y4, y5, H3104, H3304, hm⟩ := hI
   subst ha
   have b3 : b 3 = false := later (j := 3) hc rfl (i := 2) (da rfl) hbi
   have b4 : b 4 = false := later (j := 4) hc rfl (i := 3) (da rfl) b3
   have b6 : b 6 = false := later (j := 6) hc rfl (i := 2) (da rfl) hbi
   have hm3707 : Mem w0 w (cat [hz3000, (bif b 1 then p3103.2 else []), (bif b 5 then sg g3503 28 (0, 0) [] [(.slice none 0 0), (.slice none 0 0)] [] else [])]) := Mem.pick [0, 1, 3] rfl (Mem.cg (B := [hz3000, (bif b 1 then p3103.2 else []), [], (bif b 5 then sg g3503 28 (0, 0) [] [(.slice none 0 0), (.slice none 0 0)] [] else [])]) (cat_cons rfl (cat_cons rfl (cat_cons (off_ b3 rfl) (cat_cons (off_ b6 rfl) rfl)))) hm)
   refine e_val (i := 2) hbi rfl rfl (v := (.int .i64 a0)) (won rfl) rfl rfl (x_move rfl (ev (t := 0) (v := (.int .i64 a0)) rfl ((sel_no rfl).trans rfl))) ?_
   exact hK _ _ ⟨_, p3103, p3303, g3503, rfl, y0, y1, fun _ => rfl, y3, y4, y5, H3104, H3304, Mem.gc (A := [hz3000, (bif b 1 then p3103.2 else []), [], (bif b 5 then sg g3503 28 (0, 0) [] [(.slice none 0 0), (.slice none 0 0)] [] else [])]) (cat_cons rfl (cat_cons rfl (cat_cons (off_ b3 rfl) (cat_cons (off_ b6 rfl) rfl)))) (Mem.pick [0, 1, 1002, 2] rfl hm3707)⟩
  ·
   intro b a w hI hbi hn hc K hK
   obtain ⟨vs, p3103, p3303, g3503, ha, y0, y1, y2, y3, y4, y5, H3104, H3304, hm⟩ := hI
   subst ha
   have b2 : b 2 = true := hn 2 (da rfl)
   have b4 : b 4 = false := later (j := 4) hc rfl (i := 3) (da rfl) hbi
   have b6 : b 6 = false := later (j := 6) hc rfl (i := 3) (da rfl) hbi
   have hm3710 : Mem w0 w (cat [hz3000, (bif b 1 then p3103.2 else []), (bif b 5 then sg g3503 28 (0, 0) [] [(.slice none 0 0), (.slice none 0 0)] [] else [])]) := Mem.pick [0, 1, 3] rfl (Mem.cg (B := [hz3000, (bif b 1 then p3103.2 else []), [], (bif b 5 then sg g3503 28 (0, 0) [] [(.slice none 0 0), (.slice none 0 0)] [] else [])]) (cat_cons rfl (cat_cons rfl (cat_cons (off_ hbi rfl) (cat_cons (off_ b6 rfl) rfl)))) hm)
   refine e_exv (i := 3) hbi rfl rfl (won rfl) rfl rfl (e_make (d := (FK.int .i64)) (a := 0) rfl slt_26 rfl (ev (t := 12) (v := (.int .i64 a0)) rfl ((sel_on (p := (2, 12)) rfl b2).trans (y2 b2))) (ev (t := 12) (v := (.int .i64 a0)) rfl ((sel_on (p := (2, 12)) rfl b2).trans (y2 b2))) hg3301.1 hg3301.2 (by have := hg3301; omega) hm3710) ?_
   rintro p3303 w3305 ⟨H3304, hm3306⟩
   replace hm3306 : Mem w0 w3305 (cat [p3303.2, hz3000, (bif b 1 then p3103.2 else []), (bif b 5 then sg g3503 28 (0, 0) [] [(.slice none 0 0), (.slice none 0 0)] [] else [])]) := hm3306
   exact hK _ _ ⟨_, p3103, p3303, g3503, rfl, y0, y1, y2, fun _ => rfl, fun hb => ab b4 hb, y5, H3104, fun _ => H3304, Mem.gc (A := [hz3000, (bif b 1 then p3103.2 else []), p3303.2, (bif b 5 then sg g3503 28 (0, 0) [] [(.slice none 0 0), (.slice none 0 0)] [] else [])]) (cat_cons rfl (cat_cons rfl (cat_cons (on_ rfl rfl) (cat_cons (off_ b6 rfl) rfl)))) (Mem.pick [1, 2, 0, 3] rfl hm3306)⟩
  ·
   intro b a w hI hbi hn hc K hK
   obtain ⟨vs, p3103, p3303, g3503, ha, y0, y1, y2, y3, y4, y5, H3104, H3304, hm⟩ := hI
   subst ha
   have b1 : b 1 = true := hn 1 (da rfl)
   have b3 : b 3 = true := hn 3 (da rfl)
   have b0 : b 0 = true := hc 1 _ rfl b1 0 (da rfl)
   have b2 : b 2 = true := hc 3 _ rfl b3 2 (da rfl)
   have b6 : b 6 = false := later (j := 6) hc rfl (i := 4) (da rfl) hbi
   have H3104 := H3104 b1
   have H3304 := H3304 b3
   have hm3713 : Mem w0 w (cat [hz3000, p3103.2, p3303.2, (bif b 5 then sg g3503 28 (0, 0) [] [(.slice none 0 0), (.slice none 0 0)] [] else [])]) := Mem.pick [0, 1, 2, 3] rfl (Mem.cg (B := [hz3000, p3103.2, p3303.2, (bif b 5 then sg g3503 28 (0, 0) [] [(.slice none 0 0), (.slice none 0 0)] [] else [])]) (cat_cons rfl (cat_cons (on_ b1 rfl) (cat_cons (on_ b3 rfl) (cat_cons (off_ b6 rfl) rfl)))) hm)
   refine e_val (i := 4) hbi rfl rfl (v := (.agg #[p3103.1, p3303.1])) (won rfl) rfl rfl (x_build (cells := [p3103.1, p3303.1]) (zc := [.slice none 0 0, .slice none 0 0]) (sizes := [(0, 1), (1, 1)]) (ps := [(0, p3103.1), (1, p3303.1)]) rfl zt_28 rfl uf_28 ufz_28 (pmap_lit (pmap_cons (ev (t := 11) (v := p3103.1) rfl ((sel_on (p := (1, 11)) rfl b1).trans (y1 b1))) (pmap_cons (ev (t := 13) (v := p3303.1) rfl ((sel_on (p := (3, 13)) rfl b3).trans (y3 b3))) pmap_nil))) (fill_cons (cs := [p3103.1]) rfl (IsSl.cells (H3104).sl) rfl (fill_cons (cs := [p3303.1]) rfl (IsSl.cells (H3304).sl) rfl fill_nil))) ?_
   exact hK _ _ ⟨_, p3103, p3303, g3503, rfl, y0, y1, y2, y3, fun _ => rfl, y5, fun _ => H3104, fun _ => H3304, Mem.gc (A := [hz3000, p3103.2, p3303.2, (bif b 5 then sg g3503 28 (0, 0) [] [(.slice none 0 0), (.slice none 0 0)] [] else [])]) (cat_cons rfl (cat_cons (on_ b1 rfl) (cat_cons (on_ b3 rfl) (cat_cons (off_ b6 rfl) rfl)))) (Mem.pick [0, 1, 2, 3] rfl hm3713)⟩
  ·
   intro b a w hI hbi hn hc K hK
   obtain ⟨vs, p3103, p3303, g3503, ha, y0, y1, y2, y3, y4, y5, H3104, H3304, hm⟩ := hI
   subst ha
   have b6 : b 6 = false := later (j := 6) hc rfl (i := 5) (da rfl) hbi
   have hm3716 : Mem w0 w (cat [hz3000, (bif b 1 then p3103.2 else []), (bif b 3 then p3303.2 else [])]) := Mem.pick [0, 1, 2] rfl (Mem.cg (B := [hz3000, (bif b 1 then p3103.2 else []), (bif b 3 then p3303.2 else []), []]) (cat_cons rfl (cat_cons rfl (cat_cons rfl (cat_cons (off_ b6 (off_ hbi rfl)) rfl)))) hm)
   refine e_exv (i := 5) hbi rfl rfl (won rfl) rfl rfl (e_alloc (vs := [(.slice none 0 0), (.slice none 0 0)]) rfl zt_28 rfl hm3716) ?_
   rintro g3503 w3504 hm3505
   exact hK _ _ ⟨_, p3103, p3303, g3503, rfl, y0, y1, y2, y3, y4, fun _ => rfl, H3104, H3304, Mem.gc (A := [hz3000, (bif b 1 then p3103.2 else []), (bif b 3 then p3303.2 else []), sg g3503 28 (0, 0) [] [(.slice none 0 0), (.slice none 0 0)] []]) (cat_cons rfl (cat_cons rfl (cat_cons rfl (cat_cons (off_ b6 (on_ rfl rfl)) rfl)))) (Mem.pick [1, 2, 3, 0] rfl hm3505)⟩
  ·
   intro b a w hI hbi hn hc K hK
   obtain ⟨vs, p3103, p3303, g3503, ha, y0, y1, y2, y3, y4, y5, H3104, H3304, hm⟩ := hI
   subst ha
   have b0 : b 0 = true := hn 0 (da rfl)
   have b1 : b 1 = true := hn 1 (da rfl)
   have b2 : b 2 = true := hn 2 (da rfl)
   have b3 : b 3 = true := hn 3 (da rfl)
   have b4 : b 4 = true := hn 4 (da rfl)
   have b5 : b 5 = true := hn 5 (da rfl)
   have H3104 := H3104 b1
   have H3304 := H3304 b3
   have hm3719 : Mem w0 w (cat [hz3000, p3103.2, p3303.2, sg g3503 28 (0, 0) [] [(.slice none 0 0), (.slice none 0 0)] []]) := Mem.pick [0, 1, 2, 3] rfl (Mem.cg (B := [hz3000, p3103.2, p3303.2, sg g3503 28 (0, 0) [] [(.slice none 0 0), (.slice none 0 0)] []]) (cat_cons rfl (cat_cons (on_ b1 rfl) (cat_cons (on_ b3 rfl) (cat_cons (off_ hbi (on_ b5 rfl)) rfl)))) hm)
   refine e_exs (i := 6) hbi rfl (won rfl) rfl (e_store (vs := [p3103.1, p3303.1]) (o' := 0) (j := 0) rfl sz_28 (ev (t := 4) (v := (.pointer (some ⟨g3503, 0, none⟩))) rfl ((sel_on (p := (5, 4)) rfl b5).trans (y5 b5))) (ev (t := 14) (v := (.agg #[p3103.1, p3303.1])) rfl ((sel_on (p := (4, 14)) rfl b4).trans (y4 b4))) rfl (one_cons (IsSl.one (H3104).sl) (one_cons (IsSl.one (H3304).sl) one_nil)) hm3719 (k := 3) rfl rfl rfl) ?_
   intro w3601 hm3602
   replace hm3602 : Mem w0 w3601 (cat [hz3000, p3103.2, p3303.2, sg g3503 28 (0, 0) [] [p3103.1, p3303.1] []]) := hm3602
   exact hK _ _ ⟨_, p3103, p3303, g3503, rfl, y0, y1, y2, y3, y4, y5, fun _ => H3104, fun _ => H3304, Mem.gc (A := [hz3000, p3103.2, p3303.2, sg g3503 28 (0, 0) [] [p3103.1, p3303.1] []]) (cat_cons rfl (cat_cons (on_ b1 rfl) (cat_cons (on_ b3 rfl) (cat_cons (on_ rfl rfl) rfl)))) (Mem.pick [0, 1, 2, 3] rfl hm3602)⟩
  intro b a w hall hI
  obtain ⟨vs, p3103, p3303, g3503, ha, y0, y1, y2, y3, y4, y5, H3104, H3304, hm⟩ := hI
  have b0 : b 0 = true := hall 0 rfl
  have b1 : b 1 = true := hall 1 rfl
  have b2 : b 2 = true := hall 2 rfl
  have b3 : b 3 = true := hall 3 rfl
  have b4 : b 4 = true := hall 4 rfl
  have b5 : b 5 = true := hall 5 rfl
  have b6 : b 6 = true := hall 6 rfl
  replace H3104 := H3104 b1
  replace H3304 := H3304 b3
  have hm3722 : Mem w0 w (cat [p3103.2, p3303.2, sg g3503 28 (0, 0) [] [p3103.1, p3303.1] [], hz3000]) := Mem.pick [1, 2, 3, 0] rfl (Mem.cg (B := [hz3000, p3103.2, p3303.2, sg g3503 28 (0, 0) [] [p3103.1, p3303.1] []]) (cat_cons rfl (cat_cons (on_ b1 rfl) (cat_cons (on_ b3 rfl) (cat_cons (on_ b6 rfl) rfl)))) hm)
  obtain ⟨f3000, ha', z3000x0, z3000x2, z3000x4⟩ : ∃ f' : Nat → Value, a = fr 30 f' ∧ f' 0 = (.int .i64 a0) ∧ f' 2 = (.pointer (some ⟨g1998, 0, none⟩)) ∧ f' 4 = (.pointer (some ⟨g3503, 0, none⟩)) := ⟨_, ha, (sel_no rfl).trans rfl, (sel_no rfl).trans rfl, (sel_on (p := (5, 4)) rfl b5).trans (y5 b5)⟩
  subst ha'
  subst hze3000
  replace hm3722 : Mem w0 w (cat [p3103.2, p3303.2, sg g3503 28 (0, 0) [] [p3103.1, p3303.1] [], sg g1998 28 (0, 0) [] [(.slice none 0 0), (.slice none 0 0)] [], hF]) := Mem.ung [p3103.2, p3303.2, sg g3503 28 (0, 0) [] [p3103.1, p3303.1] []] [sg g1998 28 (0, 0) [] [(.slice none 0 0), (.slice none 0 0)] [], hF] hm3722
  refine nx ?_
  obtain ⟨s3864, hT3866, hk3865⟩ := bindE he
  replace he := hT3866
  refine wp_seqJ (fun a w => ∃ (h3858 : Hp) (h3861 : Hp) (f : Nat → Value), a = fr 30 f ∧ f 2 = (.pointer (some ⟨g1998, 0, none⟩)) ∧ f 4 = (.pointer (some ⟨g3503, 0, none⟩)) ∧ OwF 3 (FK.int .i64) p3103.1 s3864.1 h3858 ∧ OwF 3 (FK.int .i64) p3303.1 s3864.2 h3861 ∧ Mem w0 w (cat [sg g1998 28 (0, 0) [] [(.slice none 0 0), (.slice none 0 0)] [], sg g3503 28 (0, 0) [] [p3103.1, p3303.1] [], h3858, h3861, hF])) ?_ ?_
  ·
   refine wp_seq ?_
   refine wp_region_lit ?_
   refine s_val (v := (.int .i64 a0)) (won rfl) rfl rfl (x_move rfl (ev (t := 0) (v := (.int .i64 a0)) rfl z3000x0)) ?_
   refine s_val (v := (.int .i64 0)) (won rfl) rfl rfl (x_move rfl rfl) ?_
   refine wpList_nil ?_
   refine nx ?_
   refine wp_block ?_
   refine wp_fuel (I := fun k => fun a w => ∃ (s3929 : (List Int)) (s3932 : (List Int)) (s3937 : Int) (h3930 : Hp) (h3933 : Hp) (f : Nat → Value), impl_NewPool_l1 F a0 k s3929 s3932 s3937 = some s3864 ∧ a = fr 30 f ∧ f 2 = (.pointer (some ⟨g1998, 0, none⟩)) ∧ f 4 = (.pointer (some ⟨g3503, 0, none⟩)) ∧ f 15 = (.int .i64 a0) ∧ f 16 = (.int .i64 s3937) ∧ OwF 3 (FK.int .i64) p3103.1 s3929 h3930 ∧ OwF 3 (FK.int .i64) p3303.1 s3932 h3933 ∧ Mem w0 w (cat [sg g1998 28 (0, 0) [] [(.slice none 0 0), (.slice none 0 0)] [], sg g3503 28 (0, 0) [] [p3103.1, p3303.1] [], h3930, h3933, hF])) F _ _ ⟨(List.replicate (Int.toNat a0) 0), (List.replicate (Int.toNat a0) 0), 0, p3103.2, p3303.2, _, he, rfl, z3000x2, z3000x4, rfl, rfl, H3104, H3304, Mem.pick [3, 2, 0, 1, 4] rfl hm3722⟩ ?_ ?_
   ·
    rintro a w ⟨s3929, s3932, s3937, h3930, h3933, f, he, rfl, q3928, q3935, q3936, q3938, H3931, H3934, hm3964⟩
    rw [impl_NewPool_l1] at he; exact none_no he
   ·
    rintro k a w ⟨s3929, s3932, s3937, h3930, h3933, f, he, rfl, q3928, q3935, q3936, q3938, H3931, H3934, hm3966⟩
    rw [impl_NewPool_l1] at he
    refine wp_seq ?_
    refine wp_region_lit ?_
    refine s_val (v := (.bool (decide (s3937 < a0)))) (won rfl) rfl rfl (x_lss rfl (ev (t := 16) (v := (.int .i64 s3937)) rfl q3938) (ev (t := 15) (v := (.int .i64 a0)) rfl q3936)) ?_
    refine wpList_nil ?_
    refine nx ?_
    refine wp_seq ?_
    rcases Bool.eq_false_or_eq_true ((decide (s3937 < a0))) with hb3968 | hb3968
    ·
     replace he := bifT he hb3968
     refine c_true rfl (p := (decide (s3937 < a0))) rfl rfl hb3968 ?_
     refine wp_skip ?_
     refine nx ?_
     refine wp_seq ?_
     refine wp_block ?_
     refine wp_seq ?_
     refine wp_region_lit ?_
     refine s_val (v := (.int .i64 s3937)) (won rfl) rfl rfl (x_move rfl (ev (t := 16) (v := (.int .i64 s3937)) rfl q3938)) ?_
     refine s_val (v := (.int .i64 s3937)) (won rfl) rfl rfl (x_assign rfl (ev (t := 18) rfl rfl)) ?_
     refine wpList_nil ?_
     refine nx ?_
     obtain ⟨hg3981, he⟩ := gdE he
     obtain ⟨hg3986, he⟩ := gdE he
     refine wp_fit [(0, 1), (1, 1), (2, 1), (3, 0), (4, 0), (5, 0), (6, 1), (7, 1), (8, 2), (9, 1), (10, 2)] (fun w' => Mem w0 w' (cat [sg g1998 28 (0, 0) [] [(.slice none 0 0), (.slice none 0 0)] [], sg g3503 28 (0, 0) [] [p3103.1, p3303.1] [], hF])) mixed (by kernel_rfl) (Mem.drew (Mem.pick [0, 1, 4] rfl hm3966)) ?_
     have hm3980 := Mem.drew hm3966
     refine z_r (v := (.pointer (some ⟨g3503, 0, none⟩))) rfl (won rfl) rfl rfl ((x_field rfl fa_28x0 (ev (t := 4) (v := (.pointer (some ⟨g3503, 0, none⟩))) rfl q3935))) ?_
     refine z_r (v := p3103.1) rfl (won rfl) rfl rfl ((x_load rfl ty1x26 (ev (t := 19) rfl rfl) (seg_cell (o' := 0) (j := 0) hm3980 (k := 1) rfl rfl rfl))) ?_
     refine z_r (v := (.int .i64 s3937)) rfl (won rfl) rfl rfl ((x_move rfl (ev (t := 5) rfl rfl))) ?_
     refine z_q (v := (.pointer (some ⟨g3503, 1, none⟩))) rfl (won rfl) rfl rfl (fun wq hq => (x_field rfl fa_28x1 (ev (t := 4) (v := (.pointer (some ⟨g3503, 0, none⟩))) rfl q3935))) ?_
     refine z_q (v := p3303.1) rfl (won rfl) rfl rfl (fun wq hq => (x_load rfl ty1x26 (ev (t := 22) rfl rfl) (seg_cell (o' := 0) (j := 1) hq (k := 1) rfl rfl rfl))) ?_
     refine z_q (v := (.int .i64 s3937)) rfl (won rfl) rfl rfl (fun wq hq => (x_move rfl (ev (t := 5) rfl rfl))) ?_
     refine z_r (v := (.int .i64 s3937)) rfl (won rfl) rfl rfl ((x_move rfl (ev (t := 5) rfl rfl))) ?_
     refine z_r (v := (.pointer (some ((slA p3103.1).add (Int.toNat s3937 * 1))))) rfl (won rfl) rfl rfl ((x_index (d := (FK.int .i64)) rfl slt_26 (ev (t := 20) rfl rfl) (ev (t := 21) rfl rfl) (H3931.rd w0) hg3981.1 hg3981.2)) ?_
     refine z_exw rfl (won rfl) rfl (e_storeF (d := (FK.int .i64)) (s := s3937) (vs := [(.int .i64 s3937)]) (j := 0) rfl sz_3 (ev (t := 26) rfl rfl) (add_0 _).symm (ev (t := 25) rfl rfl) rfl rfl H3931 hg3981.1 hg3981.2 rfl rfl hm3980 (k := 2) rfl) ?_
     rintro h3982 w3984 ⟨H3983, hm3985⟩
     replace hm3985 : Mem w0 w3984 (cat [sg g1998 28 (0, 0) [] [(.slice none 0 0), (.slice none 0 0)] [], sg g3503 28 (0, 0) [] [p3103.1, p3303.1] [], h3982, h3933, hF]) := hm3985
     refine ⟨Mem.pick [0, 1, 4] rfl hm3985, ?_⟩
     refine z_r (v := (.pointer (some ((slA p3303.1).add (Int.toNat s3937 * 1))))) rfl (won rfl) rfl rfl ((x_index (d := (FK.int .i64)) rfl slt_26 (ev (t := 23) rfl rfl) (ev (t := 24) rfl rfl) (H3934.rd w0) hg3986.1 hg3986.2)) ?_
     refine z_exw rfl (won rfl) rfl (e_storeF (d := (FK.int .i64)) (s := (-1)) (vs := [(.int .i64 (-1))]) (j := 0) rfl sz_3 (ev (t := 27) rfl rfl) (add_0 _).symm rfl rfl rfl H3934 hg3986.1 hg3986.2 rfl rfl hm3985 (k := 3) rfl) ?_
     rintro h3987 w3989 ⟨H3988, hm3990⟩
     replace hm3990 : Mem w0 w3989 (cat [sg g1998 28 (0, 0) [] [(.slice none 0 0), (.slice none 0 0)] [], sg g3503 28 (0, 0) [] [p3103.1, p3303.1] [], h3982, h3987, hF]) := hm3990
     refine ⟨Mem.pick [0, 1, 4] rfl hm3990, ?_⟩
     refine z_nil ?_
     refine nb ?_
     refine nx ?_
     refine wp_region_lit ?_
     refine s_val (v := (.int .i64 (IntKind.wrap .i64 (s3937 + 1)))) (won rfl) rfl rfl (x_add rfl (ev (t := 16) (v := (.int .i64 s3937)) rfl q3938) rfl) ?_
     refine s_val (v := (.int .i64 (IntKind.wrap .i64 (s3937 + 1)))) (won rfl) rfl rfl (x_move rfl (ev (t := 28) rfl rfl)) ?_
     refine wpList_nil ?_
     refine nx ?_
     exact ⟨(List.set s3929 (Int.toNat s3937) s3937), (List.set s3932 (Int.toNat s3937) (-1)), (IntKind.wrap .i64 (s3937 + 1)), h3982, h3987, _, he, rfl, q3928, q3935, q3936, rfl, H3983, H3988, Mem.pick [0, 1, 2, 3, 4] rfl hm3990⟩
    ·
     replace he := bifF he hb3968
     refine c_false rfl (p := (decide (s3937 < a0))) rfl rfl hb3968 ?_
     refine wp_exit ?_
     refine xs ?_
     refine xs ?_
     refine xb ?_
     refine nx ?_
     obtain rfl := Option.some.inj he
     exact ⟨h3930, h3933, _, rfl, q3928, q3935, H3931, H3934, Mem.pick [0, 1, 2, 3, 4] rfl hm3966⟩
  ·
   rintro a w ⟨h3858, h3861, f, rfl, q3856, q3863, H3859, H3862, hm3992⟩
   replace he := hk3865
   refine wp_seq ?_
   refine wp_region_lit ?_
   refine s_val (v := (.agg #[p3103.1, p3303.1])) (won rfl) rfl rfl (x_loadN (vs := [p3103.1, p3303.1]) rfl tyN_28 (ev (t := 4) (v := (.pointer (some ⟨g3503, 0, none⟩))) rfl q3863) (seg_cells (o' := 0) (j := 0) hm3992 (k := 1) rfl rfl rfl)) ?_
   refine s_exs (won rfl) rfl (e_store (vs := [p3103.1, p3303.1]) (o' := 0) (j := 0) rfl sz_28 (ev (t := 2) (v := (.pointer (some ⟨g1998, 0, none⟩))) rfl q3856) (ev (t := 29) rfl rfl) rfl (one_cons (IsSl.one (H3859).sl) (one_cons (IsSl.one (H3862).sl) one_nil)) hm3992 (k := 0) rfl rfl rfl) ?_
   intro w3993 hm3994
   replace hm3994 : Mem w0 w3993 (cat [sg g1998 28 (0, 0) [] [p3103.1, p3303.1] [], sg g3503 28 (0, 0) [] [p3103.1, p3303.1] [], h3858, h3861, hF]) := hm3994
   refine s_val (v := (.int .i64 0)) (won rfl) rfl rfl (x_assign rfl rfl) ?_
   refine wpList_nil ?_
   have hm3995 : Mem w0 w3993 (cat [sg g1998 28 (0, 0) [] [p3103.1, p3303.1] [], h3858, h3861, hF]) := Mem.pick [0, 2, 3, 4] rfl hm3994
   refine nx ?_
   refine wp_ret ?_
   obtain rfl := Option.some.inj he
   refine r_ret (v := (.tuple #[(.agg #[p3103.1, p3303.1]), (.int .i64 0)])) (rv_list rfl rfl (RVs.cell (cs := [p3103.1, p3303.1]) rfl q3856 tyN_28 (seg_cells (o' := 0) (j := 0) hm3995 (k := 0) rfl rfl rfl) (RVs.tmp (v := (.int .i64 0)) rfl rfl RVs.nil))) rfl ?_
   exact ⟨p3103.1, h3858, p3303.1, h3861, rfl, H3859, H3862, Mem.pick [1, 2, 3] rfl hm3995⟩
def impl_isOwner (a0 : Int) : Option (Bool) := (impl_inRange a0 0 5).bind fun r4 => (some r4)
set_option maxHeartbeats 400000 in
set_option maxRecDepth 100000 in
theorem impl_isOwner_ok {w0 w : World} {hR hF : Hp} (a0 : Int) {r : (Bool)} (hm : Mem w0 w (cat [hF])) (he : impl_isOwner a0 = some r) :
    Calls Try.prog 64 #[(.int .i64 a0)] w (fun e w' => e = .returned (.bool r) ∧ Mem w0 w' (cat [hF])) := by
 refine calls_fr (n := 5) Try.func64 rfl rfl rfl ?_
 unfold impl_isOwner at he
 refine wp_seq ?_
 refine wp_region_lit ?_
 refine s_val (v := (.bool false)) (won rfl) rfl rfl (x_assign rfl rfl) ?_
 refine wpList_nil ?_
 refine nx ?_
 refine wp_seq ?_
 obtain ⟨r4, hr4, he⟩ := bindE he
 refine wp_region_lit ?_
 refine s_val (v := (.int .i64 a0)) (won rfl) rfl rfl (x_move rfl (ev (t := 0) rfl rfl)) ?_
 refine s_call (won rfl) rfl rfl (x_call rfl rfl cl_58 (map_lit (map_cons (ev (t := 3) rfl rfl) (map_cons rfl (map_cons rfl map_nil))))) (impl_inRange_ok (hR := (cat [])) (hF := cat [hF]) a0 0 5  (Mem.one hm) hr4) ?_
 rintro e w5 ⟨rfl, hm6⟩
 refine ⟨_, rfl, ?_⟩
 replace hm6 : Mem w0 w5 (cat [hF]) := Mem.un hm6
 refine s_val (v := (.bool r4)) (won rfl) rfl rfl (x_assign rfl (ev (t := 4) rfl rfl)) ?_
 refine wpList_nil ?_
 refine nx ?_
 refine wp_ret ?_
 obtain rfl := Option.some.inj he
 refine r_ret (v := (.bool r4)) (rv_one rfl (RVs.tmp (v := (.bool r4)) rfl rfl RVs.nil)) rfl ?_
 exact ⟨rfl, Mem.pick [0] rfl hm6⟩
def slices_Delete___int_int_ (a0 : (List Int)) (a1 : Int) (a2 : Int) : Option ((List Int)) := gd ((0 : Int) ≤ a1 ∧ a1 ≤ a2 ∧ a2 ≤ (a0.length : Int) ∧ (a0.length : Int) ≤ (a0.length : Int)) ((bif (decide (a1 = a2)) then (some a0) else gd ((0 : Int) ≤ a1 ∧ a1 ≤ (a0.length : Int)) (gd ((0 : Int) ≤ a2 ∧ a2 ≤ (a0.length : Int)) (gd ((slc a0 0 (Int.toNat a1)).length + (slc a0 (Int.toNat a2) a0.length).length ≤ a0.length) (gd ((0 : Int) ≤ (((slc a0 0 (Int.toNat a1)) ++ (slc a0 (Int.toNat a2) a0.length)).length : Int) ∧ (((slc a0 0 (Int.toNat a1)) ++ (slc a0 (Int.toNat a2) a0.length)).length : Int) ≤ (a0.length : Int) ∧ (a0.length : Int) ≤ (a0.length : Int)) ((some ((slc a0 0 (Int.toNat a1)) ++ (slc a0 (Int.toNat a2) a0.length)))))))))
set_option maxHeartbeats 400000 in
set_option maxRecDepth 100000 in
theorem slices_Delete___int_int__ok {w0 w : World} {hR hF : Hp} {v0x0 : Value} {h0x0 : Hp} (a0 : (List Int)) (a1 : Int) (a2 : Int) {r : ((List Int))} (H0x0 : OwF 3 (FK.int .i64) v0x0 a0 h0x0) (hm : Mem w0 w (cat [h0x0, hF])) (he : slices_Delete___int_int_ a0 a1 a2 = some r) :
    Calls Try.prog 95 #[v0x0, (.int .i64 a1), (.int .i64 a2)] w (fun e w' => ∃ (v'0 : Value) (h'0 : Hp), e = .returned v'0 ∧ OwF 3 (FK.int .i64) v'0 r h'0 ∧ Mem w0 w' (cat [h'0, hF])) := by
 refine calls_fr (n := 33) Try.func95 rfl rfl rfl ?_
 unfold slices_Delete___int_int_ at he
 refine wp_seq ?_
 refine wp_region_lit ?_
 refine s_val (v := (.slice none 0 0)) (won rfl) rfl rfl (x_assign rfl rfl) ?_
 refine wpList_nil ?_
 refine nx ?_
 refine wp_seq ?_
 obtain ⟨hg34, he⟩ := gdE he
 refine wp_region_lit ?_
 refine s_val (v := v0x0) (won rfl) rfl rfl (x_move rfl (ev (t := 0) rfl rfl)) ?_
 refine s_val (v := (.int .i64 a1)) (won rfl) rfl rfl (x_move rfl (ev (t := 1) rfl rfl)) ?_
 refine s_val (v := (.int .i64 a2)) (won rfl) rfl rfl (x_move rfl (ev (t := 2) rfl rfl)) ?_
 refine s_val (v := v0x0) (won rfl) rfl rfl (x_move rfl (ev (t := 0) rfl rfl)) ?_
 refine s_val (v := (.int .i64 (a0.length : Int))) (won rfl) rfl rfl (x_len rfl slt_26 (ev (t := 11) rfl rfl) (H0x0).sl) ?_
 refine s_exv (val := fun u => u) (won rfl) rfl rfl (x_slice3 rfl slt_26 (ev (t := 8) rfl rfl) (ev (t := 9) rfl rfl) (ev (t := 10) rfl rfl) (ev (t := 12) rfl rfl) (H0x0).sl hg34.1 hg34.2.1 hg34.2.2.1 hg34.2.2.2) ?_
 rintro u35 _ rfl
 refine wpList_nil ?_
 refine nx ?_
 refine wp_seq ?_
 refine wp_seq ?_
 refine wp_region_lit ?_
 refine s_val (v := (.int .i64 a1)) (won rfl) rfl rfl (x_move rfl (ev (t := 1) rfl rfl)) ?_
 refine s_val (v := (.int .i64 a2)) (won rfl) rfl rfl (x_move rfl (ev (t := 2) rfl rfl)) ?_
 refine s_val (v := (.bool (decide (a1 = a2)))) (won rfl) rfl rfl (x_eql rfl (ev (t := 14) rfl rfl) (ev (t := 15) rfl rfl)) ?_
 refine wpList_nil ?_
 refine nx ?_
 rcases Bool.eq_false_or_eq_true ((decide (a1 = a2))) with hb37 | hb37
 ·
  replace he := bifT he hb37
  refine c_true rfl (p := (decide (a1 = a2))) rfl rfl hb37 ?_
  refine wp_seq ?_
  refine wp_region_lit ?_
  refine s_val (v := v0x0) (won rfl) rfl rfl (x_move rfl (ev (t := 0) rfl rfl)) ?_
  refine s_val (v := v0x0) (won rfl) rfl rfl (x_assign rfl (ev (t := 17) rfl rfl)) ?_
  refine wpList_nil ?_
  refine nx ?_
  refine wp_ret ?_
  refine xr ?_
  obtain rfl := Option.some.inj he
  refine r_ret (v := v0x0) (rv_one rfl (RVs.tmp (v := v0x0) rfl rfl RVs.nil)) rfl ?_
  exact ⟨v0x0, h0x0, rfl, H0x0, Mem.pick [0, 1] rfl hm⟩
 ·
  replace he := bifF he hb37
  refine c_false rfl (p := (decide (a1 = a2))) rfl rfl hb37 ?_
  refine wp_skip ?_
  refine nx ?_
  refine wp_seq ?_
  refine wp_region_lit ?_
  refine s_val (v := v0x0) (won rfl) rfl rfl (x_move rfl (ev (t := 0) rfl rfl)) ?_
  refine s_val (v := (.int .i64 (a0.length : Int))) (won rfl) rfl rfl (x_len rfl slt_26 (ev (t := 18) rfl rfl) (H0x0).sl) ?_
  refine s_val (v := (.int .i64 (a0.length : Int))) (won rfl) rfl rfl (x_assign rfl (ev (t := 19) rfl rfl)) ?_
  refine wpList_nil ?_
  refine nx ?_
  refine wp_seq ?_
  obtain ⟨hg39, he⟩ := gdE he
  obtain ⟨hg41, he⟩ := gdE he
  obtain ⟨hg43, he⟩ := gdE he
  refine wp_fit [(0, 1), (1, 1), (2, 1), (3, 1), (4, 1), (5, 1), (6, 2), (7, 1)] (fun w' => Mem w0 w' (cat [hF])) mixed (by kernel_rfl) (Mem.drew (Mem.pick [1] rfl hm)) ?_
  have hm38 := Mem.drew hm
  refine z_r (v := v0x0) rfl (won rfl) rfl rfl ((x_move rfl (ev (t := 0) rfl rfl))) ?_
  refine z_r (v := (.int .i64 a1)) rfl (won rfl) rfl rfl ((x_move rfl (ev (t := 1) rfl rfl))) ?_
  refine z_r (v := (cutV v0x0 0 (Int.toNat a1) 1)) rfl (won rfl) rfl rfl ((y_slice_h rfl slt_26 (ev (t := 20) rfl rfl) (ev (t := 21) rfl rfl) (H0x0).sl hg39.1 hg39.2)) ?_
  refine z_r (v := v0x0) rfl (won rfl) rfl rfl ((x_move rfl (ev (t := 0) rfl rfl))) ?_
  refine z_r (v := (.int .i64 a2)) rfl (won rfl) rfl rfl ((x_move rfl (ev (t := 2) rfl rfl))) ?_
  refine z_r (v := (cutV v0x0 (Int.toNat a2) a0.length 1)) rfl (won rfl) rfl rfl ((y_slice_l rfl slt_26 (ev (t := 23) rfl rfl) (ev (t := 24) rfl rfl) (H0x0).sl hg41.1 hg41.2)) ?_
  refine z_exv rfl (won rfl) rfl rfl (e_append_room rfl slt_26 (ev (t := 22) rfl rfl) (ev (t := 25) rfl rfl) (OwR.cut0 (b := (Int.toNat a1)) (OwF.room H0x0) (by have := hg39; omega)) (k := 0) rfl (cutV_rd (a := (Int.toNat a2)) (b := a0.length) (H0x0.rd w0) (by have := hg41; omega) (Nat.le_refl _)) (Sub.at_ (k := 0) rfl) hm38 hg43) ?_
  rintro p46 w48 ⟨H47, hm49⟩
  replace hm49 : Mem w0 w48 (cat [p46.2, hF]) := hm49
  have H44 := H47.own
  refine ⟨Mem.pick [1] rfl hm49, ?_⟩
  refine z_r (v := p46.1) rfl (won rfl) rfl rfl ((x_assign rfl (ev (t := 26) rfl rfl))) ?_
  refine z_nil ?_
  refine nx ?_
  refine wp_seq ?_
  obtain ⟨hg50, he⟩ := gdE he
  refine wp_region_lit ?_
  refine s_val (v := p46.1) (won rfl) rfl rfl (x_move rfl (ev (t := 0) rfl rfl)) ?_
  refine s_val (v := p46.1) (won rfl) rfl rfl (x_move rfl (ev (t := 0) rfl rfl)) ?_
  refine s_val (v := (.int .i64 (((slc a0 0 (Int.toNat a1)) ++ (slc a0 (Int.toNat a2) a0.length)).length : Int))) (won rfl) rfl rfl (x_len rfl slt_26 (ev (t := 28) rfl rfl) (H44).sl) ?_
  refine s_val (v := (.int .i64 (a0.length : Int))) (won rfl) rfl rfl (x_move rfl (ev (t := 7) rfl rfl)) ?_
  refine s_val (v := (cutV p46.1 (Int.toNat (((slc a0 0 (Int.toNat a1)) ++ (slc a0 (Int.toNat a2) a0.length)).length : Int)) (Int.toNat (a0.length : Int)) 1)) (won rfl) rfl rfl (x_slice_spare rfl slt_26 (ev (t := 27) rfl rfl) (ev (t := 29) rfl rfl) (ev (t := 30) rfl rfl) H47 hg50.1 hg50.2.1 hg50.2.2) ?_
  refine s_vw (won rfl) rfl (e_clear_spare (d := (FK.int .i64)) (zc := [.int .i64 0]) (a := (Int.toNat (((slc a0 0 (Int.toNat a1)) ++ (slc a0 (Int.toNat a2) a0.length)).length : Int))) (b := (Int.toNat (a0.length : Int))) rfl rfl slt_26 rfl rfl rfl (ev (t := 31) rfl rfl) H47 (Int.toNat_natCast _) (by have := hg50; omega) (by have := hg50; omega) (k := 0) rfl hm49) ?_
  rintro h51 w54 ⟨H52, hm55⟩
  have H53 := H52.own
  replace hm55 : Mem w0 w54 (cat [h51, hF]) := hm55
  refine wpList_nil ?_
  refine nx ?_
  refine wp_seq ?_
  refine wp_region_lit ?_
  refine s_val (v := p46.1) (won rfl) rfl rfl (x_move rfl (ev (t := 0) rfl rfl)) ?_
  refine s_val (v := p46.1) (won rfl) rfl rfl (x_assign rfl (ev (t := 32) rfl rfl)) ?_
  refine wpList_nil ?_
  refine nx ?_
  refine wp_ret ?_
  obtain rfl := Option.some.inj he
  refine r_ret (v := p46.1) (rv_one rfl (RVs.tmp (v := p46.1) rfl rfl RVs.nil)) rfl ?_
  exact ⟨p46.1, h51, rfl, H53, Mem.pick [0, 1] rfl hm55⟩
def impl_Pool_take (a0 : impl_Pool) (a1 : Int) : Option (impl_PoolReply × impl_Pool) := (bif (decide ((a0.Free.length : Int) = 0)) then (some ((impl_PoolReply.mk 7 0), a0)) else gd ((0 : Int) ≤ 0 ∧ 0 < (a0.Free.length : Int)) ((slices_Delete___int_int_ a0.Free 0 1).bind fun r71 => gd ((0 : Int) ≤ (ix a0.Free 0) ∧ (ix a0.Free 0) < (a0.Owner.length : Int)) ((some ((impl_PoolReply.mk 0 (ix a0.Free 0)), (impl_Pool.mk r71 (List.set a0.Owner (Int.toNat (ix a0.Free 0)) a1)))))))
set_option maxHeartbeats 400000 in
set_option maxRecDepth 100000 in
theorem impl_Pool_take_ok {w0 w : World} {hR hF : Hp} {v0x0 : Value} {h0x0 : Hp} {v0x1 : Value} {h0x1 : Hp} {g0 T0 o0 : Nat} {fr0 : Nat × Nat} {pre0 post0 : List Value} (a0 : impl_Pool) (a1 : Int) {r : (impl_PoolReply × impl_Pool)} (H0x0 : OwF 3 (FK.int .i64) v0x0 a0.Free h0x0) (H0x1 : OwF 3 (FK.int .i64) v0x1 a0.Owner h0x1) (hp0 : pre0.length = o0) (hm : Mem w0 w (cat [sg g0 T0 fr0 pre0 [v0x0, v0x1] post0, h0x0, h0x1, hF])) (he : impl_Pool_take a0 a1 = some r) :
    Calls Try.prog 85 #[(.pointer (some ⟨g0, o0, none⟩)), (.int .i64 a1)] w (fun e w' => ∃ (v'0 : Value) (h'0 : Hp) (v'1 : Value) (h'1 : Hp), e = .returned (.agg #[(.int .i64 r.1.Code), (.int .i64 r.1.Buffer)]) ∧ OwF 3 (FK.int .i64) v'0 r.2.Free h'0 ∧ OwF 3 (FK.int .i64) v'1 r.2.Owner h'1 ∧ Mem w0 w' (cat [sg g0 T0 fr0 pre0 [v'0, v'1] post0, h'0, h'1, hF])) := by
 refine calls_fr (n := 36) Try.func85 rfl rfl rfl ?_
 unfold impl_Pool_take at he
 refine wp_seq ?_
 refine wp_region_lit ?_
 refine s_exv (won rfl) rfl rfl (e_alloc (vs := [(.int .i64 0), (.int .i64 0)]) rfl zt_35 rfl hm) ?_
 rintro g60 w61 hm62
 refine wpList_nil ?_
 refine nx ?_
 refine wp_seq ?_
 refine wp_seq ?_
 refine wp_region_lit ?_
 refine s_val (v := (.pointer (some ⟨g0, o0, none⟩))) (won rfl) rfl rfl (x_move rfl (ev (t := 0) rfl rfl)) ?_
 refine s_val (v := (.pointer (some ⟨g0, o0, none⟩))) (won rfl) rfl rfl (x_nil rfl (ev (t := 6) rfl rfl)) ?_
 refine s_val (v := (.pointer (some ⟨g0, o0, none⟩))) (won rfl) rfl rfl (x_field rfl fa_28x0 (ev (t := 7) rfl rfl)) ?_
 refine s_val (v := v0x0) (won rfl) rfl rfl (x_load rfl ty1x26 (ev (t := 8) rfl rfl) (seg_cell (o' := o0) (j := 0) hm62 (k := 1) rfl hp0 rfl)) ?_
 refine s_val (v := (.int .i64 (a0.Free.length : Int))) (won rfl) rfl rfl (x_len rfl slt_26 (ev (t := 9) rfl rfl) (H0x0).sl) ?_
 refine s_val (v := (.bool (decide ((a0.Free.length : Int) = 0)))) (won rfl) rfl rfl (x_eql rfl (ev (t := 10) rfl rfl) rfl) ?_
 refine wpList_nil ?_
 refine nx ?_
 rcases Bool.eq_false_or_eq_true ((decide ((a0.Free.length : Int) = 0))) with hb67 | hb67
 ·
  replace he := bifT he hb67
  refine c_true rfl (p := (decide ((a0.Free.length : Int) = 0))) rfl rfl hb67 ?_
  refine wp_seq ?_
  refine wp_region_lit ?_
  refine s_val (v := (.agg #[(.int .i64 7), (.int .i64 0)])) (won rfl) rfl rfl (x_build (cells := [(.int .i64 7), (.int .i64 0)]) (zc := [.int .i64 0, .int .i64 0]) (sizes := [(0, 1), (1, 1)]) (ps := [(0, (.int .i64 7))]) rfl zt_35 rfl uf_35 ufz_35 (pmap_lit (pmap_cons rfl pmap_nil)) (fill_cons (cs := [(.int .i64 7)]) rfl rfl rfl fill_nil)) ?_
  refine s_exs (won rfl) rfl (e_store (vs := [(.int .i64 7), (.int .i64 0)]) (o' := 0) (j := 0) rfl sz_35 (ev (t := 4) rfl rfl) (ev (t := 12) rfl rfl) rfl rfl hm62 (k := 0) rfl rfl rfl) ?_
  intro w68 hm69
  replace hm69 : Mem w0 w68 (cat [sg g60 35 (0, 0) [] [(.int .i64 7), (.int .i64 0)] [], sg g0 T0 fr0 pre0 [v0x0, v0x1] post0, h0x0, h0x1, hF]) := hm69
  refine wpList_nil ?_
  refine nx ?_
  refine wp_ret ?_
  refine xr ?_
  obtain rfl := Option.some.inj he
  refine r_ret (v := (.agg #[(.int .i64 7), (.int .i64 0)])) (rv_one rfl (RVs.cell (cs := [(.int .i64 7), (.int .i64 0)]) rfl rfl tyN_35 (seg_cells (o' := 0) (j := 0) hm69 (k := 0) rfl rfl rfl) RVs.nil)) rfl ?_
  exact ⟨v0x0, h0x0, v0x1, h0x1, rfl, H0x0, H0x1, Mem.pick [1, 2, 3, 4] rfl hm69⟩
 ·
  replace he := bifF he hb67
  refine c_false rfl (p := (decide ((a0.Free.length : Int) = 0))) rfl rfl hb67 ?_
  refine wp_skip ?_
  refine nx ?_
  refine wp_seq ?_
  obtain ⟨hg70, he⟩ := gdE he
  refine wp_region_lit ?_
  refine s_val (v := (.pointer (some ⟨g0, o0, none⟩))) (won rfl) rfl rfl (x_move rfl (ev (t := 0) rfl rfl)) ?_
  refine s_val (v := (.pointer (some ⟨g0, o0, none⟩))) (won rfl) rfl rfl (x_nil rfl (ev (t := 13) rfl rfl)) ?_
  refine s_val (v := (.pointer (some ⟨g0, o0, none⟩))) (won rfl) rfl rfl (x_field rfl fa_28x0 (ev (t := 14) rfl rfl)) ?_
  refine s_val (v := v0x0) (won rfl) rfl rfl (x_load rfl ty1x26 (ev (t := 15) rfl rfl) (seg_cell (o' := o0) (j := 0) hm62 (k := 1) rfl hp0 rfl)) ?_
  refine s_val (v := (.pointer (some ((slA v0x0).add (Int.toNat 0 * 1))))) (won rfl) rfl rfl (x_index (d := (FK.int .i64)) rfl slt_26 (ev (t := 16) rfl rfl) rfl (H0x0.rd w0) hg70.1 hg70.2) ?_
  refine s_val (v := (.int .i64 (ix a0.Free 0))) (won rfl) rfl rfl (x_load rfl ty1x3 (ev (t := 17) rfl rfl) (RdF.cell0 (H0x0.rd w0) hm62 (Sub.at_ (k := 2) rfl) hg70.1 hg70.2 rfl)) ?_
  refine s_val (v := (.int .i64 (ix a0.Free 0))) (won rfl) rfl rfl (x_assign rfl (ev (t := 18) rfl rfl)) ?_
  refine wpList_nil ?_
  refine nx ?_
  refine wp_seq ?_
  obtain ⟨r71, hr71, he⟩ := bindE he
  refine wp_region_lit ?_
  refine s_val (v := (.pointer (some ⟨g0, o0, none⟩))) (won rfl) rfl rfl (x_move rfl (ev (t := 0) rfl rfl)) ?_
  refine s_val (v := (.pointer (some ⟨g0, o0, none⟩))) (won rfl) rfl rfl (x_move rfl (ev (t := 0) rfl rfl)) ?_
  refine s_val (v := (.pointer (some ⟨g0, o0, none⟩))) (won rfl) rfl rfl (x_nil rfl (ev (t := 20) rfl rfl)) ?_
  refine s_val (v := (.pointer (some ⟨g0, o0, none⟩))) (won rfl) rfl rfl (x_field rfl fa_28x0 (ev (t := 21) rfl rfl)) ?_
  refine s_val (v := v0x0) (won rfl) rfl rfl (x_load rfl ty1x26 (ev (t := 22) rfl rfl) (seg_cell (o' := o0) (j := 0) hm62 (k := 1) rfl hp0 rfl)) ?_
  refine s_call (won rfl) rfl rfl (x_call rfl rfl cl_95 (map_lit (map_cons (ev (t := 23) rfl rfl) (map_cons rfl (map_cons rfl map_nil))))) (slices_Delete___int_int__ok (hR := (cat [])) (hF := cat [sg g60 35 (0, 0) [] [(.int .i64 0), (.int .i64 0)] [], sg g0 T0 fr0 pre0 [v0x0, v0x1] post0, h0x1, hF]) a0.Free 0 1 H0x0 (Mem.grp [h0x0] [sg g60 35 (0, 0) [] [(.int .i64 0), (.int .i64 0)] [], sg g0 T0 fr0 pre0 [v0x0, v0x1] post0, h0x1, hF] (Mem.pick [2, 0, 1, 3, 4] rfl hm62)) hr71) ?_
  rintro e w76 ⟨v73, h75, rfl, H74, hm77⟩
  refine ⟨_, rfl, ?_⟩
  replace hm77 : Mem w0 w76 (cat [h75, sg g60 35 (0, 0) [] [(.int .i64 0), (.int .i64 0)] [], sg g0 T0 fr0 pre0 [v0x0, v0x1] post0, h0x1, hF]) := Mem.ung [h75] [sg g60 35 (0, 0) [] [(.int .i64 0), (.int .i64 0)] [], sg g0 T0 fr0 pre0 [v0x0, v0x1] post0, h0x1, hF] hm77
  refine s_val (v := (.pointer (some ⟨g0, o0, none⟩))) (won rfl) rfl rfl (x_nil rfl (ev (t := 19) rfl rfl)) ?_
  refine s_val (v := (.pointer (some ⟨g0, o0, none⟩))) (won rfl) rfl rfl (x_field rfl fa_28x0 (ev (t := 25) rfl rfl)) ?_
  refine s_exs (won rfl) rfl (e_store (vs := [v73]) (o' := o0) (j := 0) rfl sz_26 (ev (t := 26) rfl rfl) (ev (t := 24) rfl rfl) (IsSl.cells (H74).sl) (one_cons (IsSl.one (H74).sl) one_nil) hm77 (k := 2) rfl hp0 rfl) ?_
  intro w78 hm79
  replace hm79 : Mem w0 w78 (cat [h75, sg g60 35 (0, 0) [] [(.int .i64 0), (.int .i64 0)] [], sg g0 T0 fr0 pre0 [v73, v0x1] post0, h0x1, hF]) := hm79
  refine wpList_nil ?_
  refine nx ?_
  refine wp_seq ?_
  obtain ⟨hg80, he⟩ := gdE he
  refine wp_region_lit ?_
  refine s_val (v := (.pointer (some ⟨g0, o0, none⟩))) (won rfl) rfl rfl (x_move rfl (ev (t := 0) rfl rfl)) ?_
  refine s_val (v := (.pointer (some ⟨g0, o0, none⟩))) (won rfl) rfl rfl (x_nil rfl (ev (t := 27) rfl rfl)) ?_
  refine s_val (v := (.pointer (some ⟨g0, o0 + 1, none⟩))) (won rfl) rfl rfl (x_field rfl fa_28x1 (ev (t := 28) rfl rfl)) ?_
  refine s_val (v := v0x1) (won rfl) rfl rfl (x_load rfl ty1x26 (ev (t := 29) rfl rfl) (seg_cell (o' := o0) (j := 1) hm79 (k := 2) rfl hp0 rfl)) ?_
  refine s_val (v := (.int .i64 (ix a0.Free 0))) (won rfl) rfl rfl (x_move rfl (ev (t := 5) rfl rfl)) ?_
  refine s_val (v := (.int .i64 a1)) (won rfl) rfl rfl (x_move rfl (ev (t := 1) rfl rfl)) ?_
  refine s_val (v := (.pointer (some ((slA v0x1).add (Int.toNat (ix a0.Free 0) * 1))))) (won rfl) rfl rfl (x_index (d := (FK.int .i64)) rfl slt_26 (ev (t := 30) rfl rfl) (ev (t := 31) rfl rfl) (H0x1.rd w0) hg80.1 hg80.2) ?_
  refine s_exw (won rfl) rfl (e_storeF (d := (FK.int .i64)) (s := a1) (vs := [(.int .i64 a1)]) (j := 0) rfl sz_3 (ev (t := 33) rfl rfl) (add_0 _).symm (ev (t := 32) rfl rfl) rfl rfl H0x1 hg80.1 hg80.2 rfl rfl hm79 (k := 3) rfl) ?_
  rintro h81 w83 ⟨H82, hm84⟩
  replace hm84 : Mem w0 w83 (cat [h75, sg g60 35 (0, 0) [] [(.int .i64 0), (.int .i64 0)] [], sg g0 T0 fr0 pre0 [v73, v0x1] post0, h81, hF]) := hm84
  refine wpList_nil ?_
  refine nx ?_
  refine wp_seq ?_
  refine wp_region_lit ?_
  refine s_val (v := (.int .i64 (ix a0.Free 0))) (won rfl) rfl rfl (x_move rfl (ev (t := 5) rfl rfl)) ?_
  refine s_val (v := (.agg #[(.int .i64 0), (.int .i64 (ix a0.Free 0))])) (won rfl) rfl rfl (x_build (cells := [(.int .i64 0), (.int .i64 (ix a0.Free 0))]) (zc := [.int .i64 0, .int .i64 0]) (sizes := [(0, 1), (1, 1)]) (ps := [(1, (.int .i64 (ix a0.Free 0)))]) rfl zt_35 rfl uf_35 ufz_35 (pmap_lit (pmap_cons (ev (t := 34) rfl rfl) pmap_nil)) (fill_cons (cs := [(.int .i64 (ix a0.Free 0))]) rfl rfl rfl fill_nil)) ?_
  refine s_exs (won rfl) rfl (e_store (vs := [(.int .i64 0), (.int .i64 (ix a0.Free 0))]) (o' := 0) (j := 0) rfl sz_35 (ev (t := 4) rfl rfl) (ev (t := 35) rfl rfl) rfl rfl hm84 (k := 1) rfl rfl rfl) ?_
  intro w85 hm86
  replace hm86 : Mem w0 w85 (cat [h75, sg g60 35 (0, 0) [] [(.int .i64 0), (.int .i64 (ix a0.Free 0))] [], sg g0 T0 fr0 pre0 [v73, v0x1] post0, h81, hF]) := hm86
  refine wpList_nil ?_
  refine nx ?_
  refine wp_ret ?_
  obtain rfl := Option.some.inj he
  refine r_ret (v := (.agg #[(.int .i64 0), (.int .i64 (ix a0.Free 0))])) (rv_one rfl (RVs.cell (cs := [(.int .i64 0), (.int .i64 (ix a0.Free 0))]) rfl rfl tyN_35 (seg_cells (o' := 0) (j := 0) hm86 (k := 1) rfl rfl rfl) RVs.nil)) rfl ?_
  exact ⟨v73, h75, v0x1, h81, rfl, H74, H82, Mem.pick [2, 0, 3, 4] rfl hm86⟩
def impl_Pool_held_l1 (F : Nat) (a0 : impl_Pool) (a1 : Int) : Nat → (List Int) → Int → Option ((List Int))
  | 0, _, _ => none
  | k + 1, s756, s763 => (bif (decide (s763 < (a0.Owner.length : Int))) then (gd ((0 : Int) ≤ s763 ∧ s763 < (a0.Owner.length : Int)) ((bif (decide ((ix a0.Owner s763) = a1)) then gd ((s756.length + ([s763] : List Int).length) * 8 ≤ 140737488355328) ((some (s756 ++ ([s763] : List Int)))) else (some s756))) : Option ((List Int))).bind fun (s840 : ((List Int))) => impl_Pool_held_l1 F a0 a1 k s840 (IntKind.wrap .i64 (s763 + 1)) else (some s756))
def impl_Pool_held (F : Nat) (a0 : impl_Pool) (a1 : Int) : Option ((List Int)) := (impl_Pool_held_l1 F a0 a1 F ([] : List Int) 0 : Option ((List Int))).bind fun (s649 : ((List Int))) => (some s649)
set_option maxHeartbeats 400000 in
set_option maxRecDepth 100000 in
theorem impl_Pool_held_ok (F : Nat) {w0 w : World} {hR hF : Hp} {v0x0 : Value} {v0x1 : Value} {g0 T0 o0 : Nat} {fr0 : Nat × Nat} {pre0 post0 : List Value} (a0 : impl_Pool) (a1 : Int) {r : ((List Int))} (H0x0 : RdF w0 (FK.int .i64) v0x0 a0.Free hR) (H0x1 : RdF w0 (FK.int .i64) v0x1 a0.Owner hR) (hs : Sub hR hF) (hp0 : pre0.length = o0) (hm : Mem w0 w (cat [sg g0 T0 fr0 pre0 [v0x0, v0x1] post0, hF])) (he : impl_Pool_held F a0 a1 = some r) :
    Calls Try.prog 65 #[(.pointer (some ⟨g0, o0, none⟩)), (.int .i64 a1)] w (fun e w' => ∃ (v'0 : Value) (h'0 : Hp), e = .returned v'0 ∧ OwF 3 (FK.int .i64) v'0 r h'0 ∧ Mem w0 w' (cat [sg g0 T0 fr0 pre0 [v0x0, v0x1] post0, h'0, hF])) := by
 refine calls_fr (n := 28) Try.func65 rfl rfl rfl ?_
 unfold impl_Pool_held at he
 refine wp_seq ?_
 refine wp_region_lit ?_
 refine s_val (v := (.slice none 0 0)) (won rfl) rfl rfl (x_assign rfl rfl) ?_
 refine wpList_nil ?_
 refine nx ?_
 refine wp_seq ?_
 refine wp_region_lit ?_
 refine s_exv (won rfl) rfl rfl (e_litp (cells := []) (ps := []) rfl slt_26 (pmap_lit pmap_nil) (fun w1 => run_bslice0 slt_26) hm) ?_
 rintro g434 w432 hm433
 have H435 : OwF 3 (FK.int .i64) (.slice (some ⟨g434, 0, none⟩) 0 0) ([] : List Int) (sg g434 3 (0, 0) [] (encs (FK.int .i64) ([] : List Int)) []) := OwF.lit g434 ([] : List Int) 0 rfl (by decide)
 replace hm433 : Mem w0 w432 (cat [(sg g434 3 (0, 0) [] (encs (FK.int .i64) ([] : List Int)) []), sg g0 T0 fr0 pre0 [v0x0, v0x1] post0, hF]) := hm433
 refine s_val (v := (.slice (some ⟨g434, 0, none⟩) 0 0)) (won rfl) rfl rfl (x_assign rfl (ev (t := 8) rfl rfl)) ?_
 refine wpList_nil ?_
 refine nx ?_
 obtain ⟨s649, hT651, hk650⟩ := bindE he
 replace he := hT651
 refine wp_seqJ (fun a w => ∃ (v645 : Value) (h646 : Hp) (f : Nat → Value), a = fr 28 f ∧ f 5 = v645 ∧ OwF 3 (FK.int .i64) v645 s649 h646 ∧ Mem w0 w (cat [sg g0 T0 fr0 pre0 [v0x0, v0x1] post0, h646, hF])) ?_ ?_
 ·
  refine wp_seq ?_
  refine wp_region_lit ?_
  refine s_val (v := (.pointer (some ⟨g0, o0, none⟩))) (won rfl) rfl rfl (x_move rfl (ev (t := 0) rfl rfl)) ?_
  refine s_val (v := (.pointer (some ⟨g0, o0, none⟩))) (won rfl) rfl rfl (x_nil rfl (ev (t := 9) rfl rfl)) ?_
  refine s_val (v := (.pointer (some ⟨g0, o0 + 1, none⟩))) (won rfl) rfl rfl (x_field rfl fa_28x1 (ev (t := 10) rfl rfl)) ?_
  refine s_val (v := v0x1) (won rfl) rfl rfl (x_load rfl ty1x26 (ev (t := 11) rfl rfl) (seg_cell (o' := o0) (j := 1) hm433 (k := 1) rfl hp0 rfl)) ?_
  refine s_val (v := (.int .i64 (a0.Owner.length : Int))) (won rfl) rfl rfl (x_len rfl slt_26 (ev (t := 12) rfl rfl) (H0x1).sl) ?_
  refine s_val (v := (.int .i64 0)) (won rfl) rfl rfl (x_move rfl rfl) ?_
  refine wpList_nil ?_
  refine nx ?_
  refine wp_block ?_
  refine wp_fuel (I := fun k => fun a w => ∃ (s756 : (List Int)) (s763 : Int) (v757 : Value) (h758 : Hp) (f : Nat → Value), impl_Pool_held_l1 F a0 a1 k s756 s763 = some s649 ∧ a = fr 28 f ∧ f 1 = (.int .i64 a1) ∧ f 5 = v757 ∧ f 12 = v0x1 ∧ f 13 = (.int .i64 (a0.Owner.length : Int)) ∧ f 14 = (.int .i64 s763) ∧ OwF 3 (FK.int .i64) v757 s756 h758 ∧ Mem w0 w (cat [sg g0 T0 fr0 pre0 [v0x0, v0x1] post0, h758, hF])) F _ _ ⟨([] : List Int), 0, (.slice (some ⟨g434, 0, none⟩) 0 0), (sg g434 3 (0, 0) [] (encs (FK.int .i64) ([] : List Int)) []), _, he, rfl, rfl, rfl, rfl, rfl, rfl, H435, Mem.pick [1, 0, 2] rfl hm433⟩ ?_ ?_
  ·
   rintro a w ⟨s756, s763, v757, h758, f, he, rfl, q755, q760, q761, q762, q764, H759, hm811⟩
   rw [impl_Pool_held_l1] at he; exact none_no he
  ·
   rintro k a w ⟨s756, s763, v757, h758, f, he, rfl, q755, q760, q761, q762, q764, H759, hm813⟩
   rw [impl_Pool_held_l1] at he
   refine wp_seq ?_
   refine wp_region_lit ?_
   refine s_val (v := (.bool (decide (s763 < (a0.Owner.length : Int))))) (won rfl) rfl rfl (x_lss rfl (ev (t := 14) (v := (.int .i64 s763)) rfl q764) (ev (t := 13) (v := (.int .i64 (a0.Owner.length : Int))) rfl q762)) ?_
   refine wpList_nil ?_
   refine nx ?_
   refine wp_seq ?_
   rcases Bool.eq_false_or_eq_true ((decide (s763 < (a0.Owner.length : Int)))) with hb815 | hb815
   ·
    replace he := bifT he hb815
    refine c_true rfl (p := (decide (s763 < (a0.Owner.length : Int)))) rfl rfl hb815 ?_
    refine wp_skip ?_
    refine nx ?_
    obtain ⟨s840, hT842, hk841⟩ := bindE he
    replace he := hT842
    refine wp_seqJ (fun a w => ∃ (v833 : Value) (h834 : Hp) (f : Nat → Value), a = fr 28 f ∧ f 1 = (.int .i64 a1) ∧ f 5 = v833 ∧ f 12 = v0x1 ∧ f 13 = (.int .i64 (a0.Owner.length : Int)) ∧ f 14 = (.int .i64 s763) ∧ OwF 3 (FK.int .i64) v833 s840 h834 ∧ Mem w0 w (cat [sg g0 T0 fr0 pre0 [v0x0, v0x1] post0, h834, hF])) ?_ ?_
    ·
     refine wp_block ?_
     refine wp_seq ?_
     obtain ⟨hg843, he⟩ := gdE he
     refine wp_region_lit ?_
     refine s_val (v := (.int .i64 s763)) (won rfl) rfl rfl (x_move rfl (ev (t := 14) (v := (.int .i64 s763)) rfl q764)) ?_
     refine s_val (v := (.pointer (some ((slA v0x1).add (Int.toNat s763 * 1))))) (won rfl) rfl rfl (x_index (d := (FK.int .i64)) rfl slt_26 (ev (t := 12) (v := v0x1) rfl q761) (ev (t := 14) (v := (.int .i64 s763)) rfl q764) H0x1 hg843.1 hg843.2) ?_
     refine s_val (v := (.int .i64 (ix a0.Owner s763))) (won rfl) rfl rfl (x_load rfl ty1x3 (ev (t := 17) rfl rfl) (RdF.cell0 H0x1 hm813 (Sub.trans hs (Sub.at_ (k := 2) rfl)) hg843.1 hg843.2 rfl)) ?_
     refine s_val (v := (.int .i64 s763)) (won rfl) rfl rfl (x_assign rfl (ev (t := 16) rfl rfl)) ?_
     refine s_val (v := (.int .i64 (ix a0.Owner s763))) (won rfl) rfl rfl (x_assign rfl (ev (t := 18) rfl rfl)) ?_
     refine wpList_nil ?_
     refine nx ?_
     refine wp_seq ?_
     refine wp_region_lit ?_
     refine s_val (v := (.int .i64 (ix a0.Owner s763))) (won rfl) rfl rfl (x_move rfl (ev (t := 7) rfl rfl)) ?_
     refine s_val (v := (.int .i64 a1)) (won rfl) rfl rfl (x_move rfl (ev (t := 1) (v := (.int .i64 a1)) rfl q755)) ?_
     refine s_val (v := (.bool (decide ((ix a0.Owner s763) = a1)))) (won rfl) rfl rfl (x_eql rfl (ev (t := 19) rfl rfl) (ev (t := 20) rfl rfl)) ?_
     refine wpList_nil ?_
     refine nx ?_
     rcases Bool.eq_false_or_eq_true ((decide ((ix a0.Owner s763) = a1))) with hb844 | hb844
     ·
      replace he := bifT he hb844
      refine c_true rfl (p := (decide ((ix a0.Owner s763) = a1))) rfl rfl hb844 ?_
      obtain ⟨hg850, he⟩ := gdE he
      refine wp_region_lit ?_
      refine s_val (v := v757) (won rfl) rfl rfl (x_move rfl (ev (t := 5) (v := v757) rfl q760)) ?_
      refine s_val (v := (.int .i64 s763)) (won rfl) rfl rfl (x_move rfl (ev (t := 6) rfl rfl)) ?_
      refine s_exv (won rfl) rfl rfl (e_litp (cells := [(.int .i64 s763)]) (ps := [(0, (.int .i64 s763))]) rfl slt_26 (pmap_lit (pmap_cons (ev (t := 23) rfl rfl) pmap_nil)) (fun w1 => run_bslicez (cells := [(.int .i64 s763)]) (zs := [.int .i64 0]) (zc := [.int .i64 0]) slt_26 rfl rfl (by kernel_rfl) (fill_cons (cs := [(.int .i64 s763)]) rfl rfl rfl fill_nil) (by decide)) hm813) ?_
      rintro g847 w845 hm846
      have H848 : OwF 3 (FK.int .i64) (.slice (some ⟨g847, 0, none⟩) 1 1) ([s763] : List Int) (sg g847 3 (0, 0) [] (encs (FK.int .i64) ([s763] : List Int)) []) := OwF.lit g847 ([s763] : List Int) 1 rfl (by decide)
      replace hm846 : Mem w0 w845 (cat [(sg g847 3 (0, 0) [] (encs (FK.int .i64) ([s763] : List Int)) []), sg g0 T0 fr0 pre0 [v0x0, v0x1] post0, h758, hF]) := hm846
      refine s_exv (won rfl) rfl rfl (e_append (bytes := 8) rfl slt_26 rfl (ev (t := 22) rfl rfl) (ev (t := 24) rfl rfl) H759 (k := 2) rfl (H848.rd w0) (Sub.at_ (k := 0) rfl) hm846 hg850 (len63 hg850 rfl)) ?_
      rintro p852 w854 ⟨H853, hm855⟩
      replace hm855 : Mem w0 w854 (cat [(sg g847 3 (0, 0) [] (encs (FK.int .i64) ([s763] : List Int)) []), sg g0 T0 fr0 pre0 [v0x0, v0x1] post0, p852.2, hF]) := hm855
      refine s_val (v := p852.1) (won rfl) rfl rfl (x_assign rfl (ev (t := 25) rfl rfl)) ?_
      refine wpList_nil ?_
      have hm856 : Mem w0 w854 (cat [sg g0 T0 fr0 pre0 [v0x0, v0x1] post0, p852.2, hF]) := Mem.pick [1, 2, 3] rfl hm855
      refine nb ?_
      refine nx ?_
      obtain rfl := Option.some.inj he
      exact ⟨p852.1, p852.2, _, rfl, q755, rfl, q761, q762, q764, H853, Mem.pick [0, 1, 2] rfl hm856⟩
     ·
      replace he := bifF he hb844
      refine c_false rfl (p := (decide ((ix a0.Owner s763) = a1))) rfl rfl hb844 ?_
      refine wp_skip ?_
      refine nb ?_
      refine nx ?_
      obtain rfl := Option.some.inj he
      exact ⟨v757, h758, _, rfl, q755, q760, q761, q762, q764, H759, Mem.pick [0, 1, 2] rfl hm813⟩
    ·
     rintro a w ⟨v833, h834, f, rfl, q830, q836, q837, q838, q839, H835, hm858⟩
     replace he := hk841
     refine wp_region_lit ?_
     refine s_val (v := (.int .i64 (IntKind.wrap .i64 (s763 + 1)))) (won rfl) rfl rfl (x_add rfl (ev (t := 14) (v := (.int .i64 s763)) rfl q839) rfl) ?_
     refine s_val (v := (.int .i64 (IntKind.wrap .i64 (s763 + 1)))) (won rfl) rfl rfl (x_move rfl (ev (t := 26) rfl rfl)) ?_
     refine wpList_nil ?_
     refine nx ?_
     exact ⟨s840, (IntKind.wrap .i64 (s763 + 1)), v833, h834, _, he, rfl, q830, q836, q837, q838, rfl, H835, Mem.pick [0, 1, 2] rfl hm858⟩
   ·
    replace he := bifF he hb815
    refine c_false rfl (p := (decide (s763 < (a0.Owner.length : Int)))) rfl rfl hb815 ?_
    refine wp_exit ?_
    refine xs ?_
    refine xs ?_
    refine xb ?_
    refine nx ?_
    obtain rfl := Option.some.inj he
    exact ⟨v757, h758, _, rfl, q760, H759, Mem.pick [0, 1, 2] rfl hm813⟩
 ·
  rintro a w ⟨v645, h646, f, rfl, q648, H647, hm860⟩
  replace he := hk650
  refine wp_seq ?_
  refine wp_region_lit ?_
  refine s_val (v := v645) (won rfl) rfl rfl (x_move rfl (ev (t := 5) (v := v645) rfl q648)) ?_
  refine s_val (v := v645) (won rfl) rfl rfl (x_assign rfl (ev (t := 27) rfl rfl)) ?_
  refine wpList_nil ?_
  refine nx ?_
  refine wp_ret ?_
  obtain rfl := Option.some.inj he
  refine r_ret (v := v645) (rv_one rfl (RVs.tmp (v := v645) rfl rfl RVs.nil)) rfl ?_
  exact ⟨v645, h646, rfl, H647, Mem.pick [0, 1, 2] rfl hm860⟩
def impl_Pool_release (a0 : impl_Pool) (a1 : Int) : Option (impl_Pool) := gd ((0 : Int) ≤ a1 ∧ a1 < (a0.Owner.length : Int)) (gd ((a0.Free.length + ([a1] : List Int).length) * 8 ≤ 140737488355328) ((some (impl_Pool.mk (a0.Free ++ ([a1] : List Int)) (List.set a0.Owner (Int.toNat a1) (-1))))))
set_option maxHeartbeats 400000 in
set_option maxRecDepth 100000 in
theorem impl_Pool_release_ok {w0 w : World} {hR hF : Hp} {v0x0 : Value} {h0x0 : Hp} {v0x1 : Value} {h0x1 : Hp} {g0 T0 o0 : Nat} {fr0 : Nat × Nat} {pre0 post0 : List Value} (a0 : impl_Pool) (a1 : Int) {r : (impl_Pool)} (H0x0 : OwF 3 (FK.int .i64) v0x0 a0.Free h0x0) (H0x1 : OwF 3 (FK.int .i64) v0x1 a0.Owner h0x1) (hp0 : pre0.length = o0) (hm : Mem w0 w (cat [sg g0 T0 fr0 pre0 [v0x0, v0x1] post0, h0x0, h0x1, hF])) (he : impl_Pool_release a0 a1 = some r) :
    Calls Try.prog 86 #[(.pointer (some ⟨g0, o0, none⟩)), (.int .i64 a1)] w (fun e w' => ∃ (v'0 : Value) (h'0 : Hp) (v'1 : Value) (h'1 : Hp), e = .returned (.tuple #[]) ∧ OwF 3 (FK.int .i64) v'0 r.Free h'0 ∧ OwF 3 (FK.int .i64) v'1 r.Owner h'1 ∧ Mem w0 w' (cat [sg g0 T0 fr0 pre0 [v'0, v'1] post0, h'0, h'1, hF])) := by
 refine calls_fr (n := 20) Try.func86 rfl rfl rfl ?_
 unfold impl_Pool_release at he
 refine wp_seq ?_
 obtain ⟨hg31, he⟩ := gdE he
 refine wp_region_lit ?_
 refine s_val (v := (.pointer (some ⟨g0, o0, none⟩))) (won rfl) rfl rfl (x_move rfl (ev (t := 0) rfl rfl)) ?_
 refine s_val (v := (.pointer (some ⟨g0, o0, none⟩))) (won rfl) rfl rfl (x_nil rfl (ev (t := 4) rfl rfl)) ?_
 refine s_val (v := (.pointer (some ⟨g0, o0 + 1, none⟩))) (won rfl) rfl rfl (x_field rfl fa_28x1 (ev (t := 5) rfl rfl)) ?_
 refine s_val (v := v0x1) (won rfl) rfl rfl (x_load rfl ty1x26 (ev (t := 6) rfl rfl) (seg_cell (o' := o0) (j := 1) hm (k := 0) rfl hp0 rfl)) ?_
 refine s_val (v := (.int .i64 a1)) (won rfl) rfl rfl (x_move rfl (ev (t := 1) rfl rfl)) ?_
 refine s_val (v := (.pointer (some ((slA v0x1).add (Int.toNat a1 * 1))))) (won rfl) rfl rfl (x_index (d := (FK.int .i64)) rfl slt_26 (ev (t := 7) rfl rfl) (ev (t := 8) rfl rfl) (H0x1.rd w0) hg31.1 hg31.2) ?_
 refine s_exw (won rfl) rfl (e_storeF (d := (FK.int .i64)) (s := (-1)) (vs := [(.int .i64 (-1))]) (j := 0) rfl sz_3 (ev (t := 9) rfl rfl) (add_0 _).symm rfl rfl rfl H0x1 hg31.1 hg31.2 rfl rfl hm (k := 2) rfl) ?_
 rintro h32 w34 ⟨H33, hm35⟩
 replace hm35 : Mem w0 w34 (cat [sg g0 T0 fr0 pre0 [v0x0, v0x1] post0, h0x0, h32, hF]) := hm35
 refine wpList_nil ?_
 refine nx ?_
 obtain ⟨hg41, he⟩ := gdE he
 refine wp_region_lit ?_
 refine s_val (v := (.pointer (some ⟨g0, o0, none⟩))) (won rfl) rfl rfl (x_move rfl (ev (t := 0) rfl rfl)) ?_
 refine s_val (v := (.pointer (some ⟨g0, o0, none⟩))) (won rfl) rfl rfl (x_move rfl (ev (t := 0) rfl rfl)) ?_
 refine s_val (v := (.pointer (some ⟨g0, o0, none⟩))) (won rfl) rfl rfl (x_nil rfl (ev (t := 11) rfl rfl)) ?_
 refine s_val (v := (.pointer (some ⟨g0, o0, none⟩))) (won rfl) rfl rfl (x_field rfl fa_28x0 (ev (t := 12) rfl rfl)) ?_
 refine s_val (v := v0x0) (won rfl) rfl rfl (x_load rfl ty1x26 (ev (t := 13) rfl rfl) (seg_cell (o' := o0) (j := 0) hm35 (k := 0) rfl hp0 rfl)) ?_
 refine s_val (v := (.int .i64 a1)) (won rfl) rfl rfl (x_move rfl (ev (t := 1) rfl rfl)) ?_
 refine s_exv (won rfl) rfl rfl (e_litp (cells := [(.int .i64 a1)]) (ps := [(0, (.int .i64 a1))]) rfl slt_26 (pmap_lit (pmap_cons (ev (t := 15) rfl rfl) pmap_nil)) (fun w1 => run_bslicez (cells := [(.int .i64 a1)]) (zs := [.int .i64 0]) (zc := [.int .i64 0]) slt_26 rfl rfl (by kernel_rfl) (fill_cons (cs := [(.int .i64 a1)]) rfl rfl rfl fill_nil) (by decide)) hm35) ?_
 rintro g38 w36 hm37
 have H39 : OwF 3 (FK.int .i64) (.slice (some ⟨g38, 0, none⟩) 1 1) ([a1] : List Int) (sg g38 3 (0, 0) [] (encs (FK.int .i64) ([a1] : List Int)) []) := OwF.lit g38 ([a1] : List Int) 1 rfl (by decide)
 replace hm37 : Mem w0 w36 (cat [(sg g38 3 (0, 0) [] (encs (FK.int .i64) ([a1] : List Int)) []), sg g0 T0 fr0 pre0 [v0x0, v0x1] post0, h0x0, h32, hF]) := hm37
 refine s_exv (won rfl) rfl rfl (e_append (bytes := 8) rfl slt_26 rfl (ev (t := 14) rfl rfl) (ev (t := 16) rfl rfl) H0x0 (k := 2) rfl (H39.rd w0) (Sub.at_ (k := 0) rfl) hm37 hg41 (len63 hg41 rfl)) ?_
 rintro p43 w45 ⟨H44, hm46⟩
 replace hm46 : Mem w0 w45 (cat [(sg g38 3 (0, 0) [] (encs (FK.int .i64) ([a1] : List Int)) []), sg g0 T0 fr0 pre0 [v0x0, v0x1] post0, p43.2, h32, hF]) := hm46
 refine s_val (v := (.pointer (some ⟨g0, o0, none⟩))) (won rfl) rfl rfl (x_nil rfl (ev (t := 10) rfl rfl)) ?_
 refine s_val (v := (.pointer (some ⟨g0, o0, none⟩))) (won rfl) rfl rfl (x_field rfl fa_28x0 (ev (t := 18) rfl rfl)) ?_
 refine s_exs (won rfl) rfl (e_store (vs := [p43.1]) (o' := o0) (j := 0) rfl sz_26 (ev (t := 19) rfl rfl) (ev (t := 17) rfl rfl) (IsSl.cells (H44).sl) (one_cons (IsSl.one (H44).sl) one_nil) hm46 (k := 1) rfl hp0 rfl) ?_
 intro w47 hm48
 replace hm48 : Mem w0 w47 (cat [(sg g38 3 (0, 0) [] (encs (FK.int .i64) ([a1] : List Int)) []), sg g0 T0 fr0 pre0 [p43.1, v0x1] post0, p43.2, h32, hF]) := hm48
 refine wpList_nil ?_
 have hm49 : Mem w0 w47 (cat [sg g0 T0 fr0 pre0 [p43.1, v0x1] post0, p43.2, h32, hF]) := Mem.pick [1, 2, 3, 4] rfl hm48
 obtain rfl := Option.some.inj he
 refine bodyPost_end (v := (.tuple #[])) (rv_list rfl rfl RVs.nil) rfl ?_
 exact ⟨p43.1, p43.2, v0x1, h32, rfl, H44, H33, Mem.pick [0, 1, 2, 3] rfl hm49⟩
def impl_Pool_act_l1 (F : Nat) (r1365 : ((List Int))) : Nat → (List Int) → (List Int) → Int → Option ((List Int) × (List Int))
  | 0, _, _, _ => none
  | k + 1, s1595, s1599, s1608 => (bif (decide (s1608 < (r1365.length : Int))) then gd ((0 : Int) ≤ s1608 ∧ s1608 < (r1365.length : Int)) ((impl_Pool_release (impl_Pool.mk s1595 s1599) (ix r1365 s1608)).bind fun r1655 => impl_Pool_act_l1 F r1365 k r1655.Free r1655.Owner (IntKind.wrap .i64 (s1608 + 1))) else (some (s1595, s1599)))
def impl_Pool_act (F : Nat) (a0 : impl_Pool) (a1 : impl_PoolAct) : Option (impl_PoolReply × impl_Pool) := (impl_inRange a1.Kind 1 4).bind fun r964 => (bif (!r964) then (some ((impl_PoolReply.mk 3 0), a0)) else ((bif ((decide (a1.Kind = 2)) || (decide (a1.Kind = 3))) then (some a1.Buffer) else (some 0)) : Option (Int)).bind fun (s985 : (Int)) => (impl_isOwner a1.Owner).bind fun r1006 => (bif ((!(!r1006)) && (decide (a1.Kind = 2))) then impl_isOwner a1.To else some false).bind fun r1009 => (bif ((!r1006) || ((decide (a1.Kind = 2)) && (!r1009))) then (some ((impl_PoolReply.mk 4 s985), a0)) else ((bif (decide (a1.Kind = 1)) then (impl_Pool_take a0 a1.Owner).bind fun r1350 => (some (Fl.out (r1350.1, r1350.2))) else (bif (decide (a1.Kind = 4)) then (impl_Pool_held F a0 a1.Owner).bind fun r1365 => (impl_Pool_act_l1 F r1365 F a0.Free a0.Owner 0 : Option ((List Int) × (List Int))).bind fun (s1523 : ((List Int) × (List Int))) => (some (Fl.out ((impl_PoolReply.mk 0 (r1365.length : Int)), (impl_Pool.mk s1523.1 s1523.2)))) else (some (Fl.go ())))) : Option (Fl (impl_PoolReply × impl_Pool) (Unit))).bind fun l1346 => l1346.on fun (s1345 : (Unit)) => (impl_inRange a1.Buffer 0 (IntKind.wrap .i64 ((a0.Owner.length : Int) - 1))).bind fun r1684 => gd ((!(!r1684)) = true → (0 : Int) ≤ a1.Buffer ∧ a1.Buffer < (a0.Owner.length : Int)) ((bif ((!r1684) || (!decide ((ix a0.Owner a1.Buffer) = a1.Owner))) then (some ((impl_PoolReply.mk 5 s985), a0)) else ((bif (decide (a1.Kind = 2)) then gd ((0 : Int) ≤ a1.Buffer ∧ a1.Buffer < (a0.Owner.length : Int)) ((some (a0.Free, (List.set a0.Owner (Int.toNat a1.Buffer) a1.To)))) else (impl_Pool_release a0 a1.Buffer).bind fun r1738 => (some (r1738.Free, r1738.Owner))) : Option ((List Int) × (List Int))).bind fun (s1727 : ((List Int) × (List Int))) => (some ((impl_PoolReply.mk 0 s985), (impl_Pool.mk s1727.1 s1727.2)))))))
set_option maxHeartbeats 400000 in
set_option maxRecDepth 100000 in
theorem impl_Pool_act_ok (F : Nat) {w0 w : World} {hR hF : Hp} {v0x0 : Value} {h0x0 : Hp} {v0x1 : Value} {h0x1 : Hp} {g0 T0 o0 : Nat} {fr0 : Nat × Nat} {pre0 post0 : List Value} (a0 : impl_Pool) (a1 : impl_PoolAct) {r : (impl_PoolReply × impl_Pool)} (H0x0 : OwF 3 (FK.int .i64) v0x0 a0.Free h0x0) (H0x1 : OwF 3 (FK.int .i64) v0x1 a0.Owner h0x1) (hp0 : pre0.length = o0) (hm : Mem w0 w (cat [sg g0 T0 fr0 pre0 [v0x0, v0x1] post0, h0x0, h0x1, hF])) (he : impl_Pool_act F a0 a1 = some r) :
    Calls Try.prog 59 #[(.pointer (some ⟨g0, o0, none⟩)), (.agg #[(.int .i64 a1.Kind), (.int .i64 a1.Owner), (.int .i64 a1.To), (.int .i64 a1.Buffer)])] w (fun e w' => ∃ (v'0 : Value) (h'0 : Hp) (v'1 : Value) (h'1 : Hp), e = .returned (.agg #[(.int .i64 r.1.Code), (.int .i64 r.1.Buffer)]) ∧ OwF 3 (FK.int .i64) v'0 r.2.Free h'0 ∧ OwF 3 (FK.int .i64) v'1 r.2.Owner h'1 ∧ Mem w0 w' (cat [sg g0 T0 fr0 pre0 [v'0, v'1] post0, h'0, h'1, hF])) := by
 refine calls_fr (n := 112) Try.func59 rfl rfl rfl ?_
 unfold impl_Pool_act at he
 refine wp_seq ?_
 refine wp_region_lit ?_
 refine s_exv (won rfl) rfl rfl (e_box (vs := [(.int .i64 a1.Kind), (.int .i64 a1.Owner), (.int .i64 a1.To), (.int .i64 a1.Buffer)]) rfl (ev (t := 1) rfl rfl) rfl hm) ?_
 rintro g949 w950 hm951
 refine s_exv (won rfl) rfl rfl (e_alloc (vs := [(.int .i64 0), (.int .i64 0)]) rfl zt_35 rfl hm951) ?_
 rintro g953 w954 hm955
 refine wpList_nil ?_
 refine nx ?_
 refine wp_seq ?_
 refine wp_seq ?_
 obtain ⟨r964, hr964, he⟩ := bindE he
 refine wp_region_lit ?_
 refine s_val (v := (.pointer (some ⟨g949, 0, none⟩))) (won rfl) rfl rfl (x_field rfl fa_39x0 (ev (t := 3) rfl rfl)) ?_
 refine s_val (v := (.int .i64 a1.Kind)) (won rfl) rfl rfl (x_load rfl ty1x3 (ev (t := 9) rfl rfl) (seg_cell (o' := 0) (j := 0) hm955 (k := 1) rfl rfl rfl)) ?_
 refine s_call (won rfl) rfl rfl (x_call rfl rfl cl_58 (map_lit (map_cons (ev (t := 10) rfl rfl) (map_cons rfl (map_cons rfl map_nil))))) (impl_inRange_ok (hR := (cat [])) (hF := cat [sg g953 35 (0, 0) [] [(.int .i64 0), (.int .i64 0)] [], sg g949 39 (0, 0) [] [(.int .i64 a1.Kind), (.int .i64 a1.Owner), (.int .i64 a1.To), (.int .i64 a1.Buffer)] [], sg g0 T0 fr0 pre0 [v0x0, v0x1] post0, h0x0, h0x1, hF]) a1.Kind 1 4  (Mem.one hm955) hr964) ?_
 rintro e w965 ⟨rfl, hm966⟩
 refine ⟨_, rfl, ?_⟩
 replace hm966 : Mem w0 w965 (cat [sg g953 35 (0, 0) [] [(.int .i64 0), (.int .i64 0)] [], sg g949 39 (0, 0) [] [(.int .i64 a1.Kind), (.int .i64 a1.Owner), (.int .i64 a1.To), (.int .i64 a1.Buffer)] [], sg g0 T0 fr0 pre0 [v0x0, v0x1] post0, h0x0, h0x1, hF]) := Mem.un hm966
 refine s_val (v := (.bool (!r964))) (won rfl) rfl rfl (x_not rfl (ev (t := 11) rfl rfl)) ?_
 refine wpList_nil ?_
 refine nx ?_
 rcases Bool.eq_false_or_eq_true ((!r964)) with hb967 | hb967
 ·
  replace he := bifT he hb967
  refine c_true rfl (p := (!r964)) rfl rfl hb967 ?_
  refine wp_seq ?_
  refine wp_region_lit ?_
  refine s_val (v := (.agg #[(.int .i64 3), (.int .i64 0)])) (won rfl) rfl rfl (x_build (cells := [(.int .i64 3), (.int .i64 0)]) (zc := [.int .i64 0, .int .i64 0]) (sizes := [(0, 1), (1, 1)]) (ps := [(0, (.int .i64 3))]) rfl zt_35 rfl uf_35 ufz_35 (pmap_lit (pmap_cons rfl pmap_nil)) (fill_cons (cs := [(.int .i64 3)]) rfl rfl rfl fill_nil)) ?_
  refine s_exs (won rfl) rfl (e_store (vs := [(.int .i64 3), (.int .i64 0)]) (o' := 0) (j := 0) rfl sz_35 (ev (t := 4) rfl rfl) (ev (t := 13) rfl rfl) rfl rfl hm966 (k := 0) rfl rfl rfl) ?_
  intro w968 hm969
  replace hm969 : Mem w0 w968 (cat [sg g953 35 (0, 0) [] [(.int .i64 3), (.int .i64 0)] [], sg g949 39 (0, 0) [] [(.int .i64 a1.Kind), (.int .i64 a1.Owner), (.int .i64 a1.To), (.int .i64 a1.Buffer)] [], sg g0 T0 fr0 pre0 [v0x0, v0x1] post0, h0x0, h0x1, hF]) := hm969
  refine wpList_nil ?_
  have hm970 : Mem w0 w968 (cat [sg g953 35 (0, 0) [] [(.int .i64 3), (.int .i64 0)] [], sg g0 T0 fr0 pre0 [v0x0, v0x1] post0, h0x0, h0x1, hF]) := Mem.pick [0, 2, 3, 4, 5] rfl hm969
  refine nx ?_
  refine wp_ret ?_
  refine xr ?_
  obtain rfl := Option.some.inj he
  refine r_ret (v := (.agg #[(.int .i64 3), (.int .i64 0)])) (rv_one rfl (RVs.cell (cs := [(.int .i64 3), (.int .i64 0)]) rfl rfl tyN_35 (seg_cells (o' := 0) (j := 0) hm970 (k := 0) rfl rfl rfl) RVs.nil)) rfl ?_
  exact ⟨v0x0, h0x0, v0x1, h0x1, rfl, H0x0, H0x1, Mem.pick [1, 2, 3, 4] rfl hm970⟩
 ·
  replace he := bifF he hb967
  refine c_false rfl (p := (!r964)) rfl rfl hb967 ?_
  refine wp_skip ?_
  refine nx ?_
  refine wp_seq ?_
  refine wp_region_lit ?_
  refine s_val (v := (.agg #[(.int .i64 0), (.int .i64 0)])) (won rfl) rfl rfl (x_build (cells := [(.int .i64 0), (.int .i64 0)]) (zc := [.int .i64 0, .int .i64 0]) (sizes := [(0, 1), (1, 1)]) (ps := []) rfl zt_35 rfl uf_35 ufz_35 (pmap_lit pmap_nil) fill_nil) ?_
  refine s_exv (won rfl) rfl rfl (e_alloc (vs := [(.int .i64 0), (.int .i64 0)]) rfl zt_35 rfl hm966) ?_
  rintro g971 w972 hm973
  refine s_exs (won rfl) rfl (e_store (vs := [(.int .i64 0), (.int .i64 0)]) (o' := 0) (j := 0) rfl sz_35 (ev (t := 5) rfl rfl) (ev (t := 14) rfl rfl) rfl rfl hm973 (k := 0) rfl rfl rfl) ?_
  intro w975 hm976
  replace hm976 : Mem w0 w975 (cat [sg g971 35 (0, 0) [] [(.int .i64 0), (.int .i64 0)] [], sg g953 35 (0, 0) [] [(.int .i64 0), (.int .i64 0)] [], sg g949 39 (0, 0) [] [(.int .i64 a1.Kind), (.int .i64 a1.Owner), (.int .i64 a1.To), (.int .i64 a1.Buffer)] [], sg g0 T0 fr0 pre0 [v0x0, v0x1] post0, h0x0, h0x1, hF]) := hm976
  refine wpList_nil ?_
  refine nx ?_
  obtain ⟨s985, hT987, hk986⟩ := bindE he
  replace he := hT987
  refine wp_seqJ (fun a w => ∃ (f : Nat → Value), a = fr 112 f ∧ f 0 = (.pointer (some ⟨g0, o0, none⟩)) ∧ f 3 = (.pointer (some ⟨g949, 0, none⟩)) ∧ f 4 = (.pointer (some ⟨g953, 0, none⟩)) ∧ f 5 = (.pointer (some ⟨g971, 0, none⟩)) ∧ Mem w0 w (cat [sg g0 T0 fr0 pre0 [v0x0, v0x1] post0, sg g949 39 (0, 0) [] [(.int .i64 a1.Kind), (.int .i64 a1.Owner), (.int .i64 a1.To), (.int .i64 a1.Buffer)] [], sg g953 35 (0, 0) [] [(.int .i64 0), (.int .i64 0)] [], sg g971 35 (0, 0) [] [(.int .i64 0), (.int .i64 s985)] [], h0x0, h0x1, hF])) ?_ ?_
  ·
   refine wp_seq ?_
   refine wp_region_lit ?_
   refine s_val (v := (.pointer (some ⟨g949, 0, none⟩))) (won rfl) rfl rfl (x_field rfl fa_39x0 (ev (t := 3) rfl rfl)) ?_
   refine s_val (v := (.int .i64 a1.Kind)) (won rfl) rfl rfl (x_load rfl ty1x3 (ev (t := 15) rfl rfl) (seg_cell (o' := 0) (j := 0) hm976 (k := 2) rfl rfl rfl)) ?_
   refine s_val (v := (.bool (decide (a1.Kind = 2)))) (won rfl) rfl rfl (x_eql rfl (ev (t := 16) rfl rfl) rfl) ?_
   refine s_val (v := (.bool (decide (a1.Kind = 2)))) (won rfl) rfl rfl (x_move rfl (ev (t := 17) rfl rfl)) ?_
   refine s_cval (p := (!(decide (a1.Kind = 2)))) (v := (.pointer (some ⟨g949, 0, none⟩))) (won_f (j := 3) (t := 18) (q := (decide (a1.Kind = 2))) rfl rfl rfl rfl rfl) rfl rfl (fun hp => (x_field rfl fa_39x0 (ev (t := 3) rfl rfl))) ?_
   refine s_cval (p := (!(decide (a1.Kind = 2)))) (v := (.int .i64 a1.Kind)) (won_f (j := 3) (t := 18) (q := (decide (a1.Kind = 2))) rfl rfl rfl rfl rfl) rfl rfl (fun hp => (x_load rfl ty1x3 (ev (t := 19) rfl (Eq.trans (b := cv (!(decide (a1.Kind = 2))) (.pointer (some ⟨g949, 0, none⟩))) rfl (on_c hp))) (seg_cell (o' := 0) (j := 0) hm976 (k := 2) rfl rfl rfl))) ?_
   refine s_cval (p := (!(decide (a1.Kind = 2)))) (v := (.bool (decide (a1.Kind = 3)))) (won_f (j := 3) (t := 18) (q := (decide (a1.Kind = 2))) rfl rfl rfl rfl rfl) rfl rfl (fun hp => (x_eql rfl (ev (t := 20) rfl (Eq.trans (b := cv (!(decide (a1.Kind = 2))) (.int .i64 a1.Kind)) rfl (on_c hp))) rfl)) ?_
   refine s_val (v := (.bool ((decide (a1.Kind = 2)) || (decide (a1.Kind = 3))))) (won rfl) rfl rfl (x_pick_or rfl (ev (t := 18) rfl rfl) rfl (fun hq => ev rfl (Eq.trans (b := cv (!(decide (a1.Kind = 2))) (.bool (decide (a1.Kind = 3)))) rfl (on_c (not_i hq))))) ?_
   refine wpList_nil ?_
   refine nx ?_
   rcases Bool.eq_false_or_eq_true (((decide (a1.Kind = 2)) || (decide (a1.Kind = 3)))) with hb988 | hb988
   ·
    replace he := bifT he hb988
    refine c_true rfl (p := ((decide (a1.Kind = 2)) || (decide (a1.Kind = 3)))) rfl rfl hb988 ?_
    refine wp_region_lit ?_
    refine s_val (v := (.pointer (some ⟨g949, 3, none⟩))) (won rfl) rfl rfl (x_field rfl fa_39x3 (ev (t := 3) rfl rfl)) ?_
    refine s_val (v := (.int .i64 a1.Buffer)) (won rfl) rfl rfl (x_load rfl ty1x3 (ev (t := 23) rfl rfl) (seg_cell (o' := 0) (j := 3) hm976 (k := 2) rfl rfl rfl)) ?_
    refine s_val (v := (.pointer (some ⟨g971, 1, none⟩))) (won rfl) rfl rfl (x_field rfl fa_35x1 (ev (t := 5) rfl rfl)) ?_
    refine s_exs (won rfl) rfl (e_store (vs := [(.int .i64 a1.Buffer)]) (o' := 0) (j := 1) rfl sz_3 (ev (t := 25) rfl rfl) (ev (t := 24) rfl rfl) rfl rfl hm976 (k := 0) rfl rfl rfl) ?_
    intro w989 hm990
    replace hm990 : Mem w0 w989 (cat [sg g971 35 (0, 0) [] [(.int .i64 0), (.int .i64 a1.Buffer)] [], sg g953 35 (0, 0) [] [(.int .i64 0), (.int .i64 0)] [], sg g949 39 (0, 0) [] [(.int .i64 a1.Kind), (.int .i64 a1.Owner), (.int .i64 a1.To), (.int .i64 a1.Buffer)] [], sg g0 T0 fr0 pre0 [v0x0, v0x1] post0, h0x0, h0x1, hF]) := hm990
    refine wpList_nil ?_
    refine nx ?_
    obtain rfl := Option.some.inj he
    exact ⟨_, rfl, rfl, rfl, rfl, rfl, Mem.pick [3, 2, 1, 0, 4, 5, 6] rfl hm990⟩
   ·
    replace he := bifF he hb988
    refine c_false rfl (p := ((decide (a1.Kind = 2)) || (decide (a1.Kind = 3)))) rfl rfl hb988 ?_
    refine wp_skip ?_
    refine nx ?_
    obtain rfl := Option.some.inj he
    exact ⟨_, rfl, rfl, rfl, rfl, rfl, Mem.pick [3, 2, 1, 0, 4, 5, 6] rfl hm976⟩
  ·
   rintro a w ⟨f, rfl, q980, q981, q982, q984, hm992⟩
   replace he := hk986
   refine wp_seq ?_
   refine wp_seq ?_
   obtain ⟨r1006, hr1006, he⟩ := bindE he
   obtain ⟨r1009, hr1009, he⟩ := bindE he
   refine wp_region_lit ?_
   refine s_val (v := (.pointer (some ⟨g949, 1, none⟩))) (won rfl) rfl rfl (x_field rfl fa_39x1 (ev (t := 3) (v := (.pointer (some ⟨g949, 0, none⟩))) rfl q981)) ?_
   refine s_val (v := (.int .i64 a1.Owner)) (won rfl) rfl rfl (x_load rfl ty1x3 (ev (t := 26) rfl rfl) (seg_cell (o' := 0) (j := 1) hm992 (k := 1) rfl rfl rfl)) ?_
   refine s_call (won rfl) rfl rfl (x_call rfl rfl cl_64 (map_lit (map_cons (ev (t := 27) rfl rfl) map_nil))) (impl_isOwner_ok (hR := (cat [])) (hF := cat [sg g0 T0 fr0 pre0 [v0x0, v0x1] post0, sg g949 39 (0, 0) [] [(.int .i64 a1.Kind), (.int .i64 a1.Owner), (.int .i64 a1.To), (.int .i64 a1.Buffer)] [], sg g953 35 (0, 0) [] [(.int .i64 0), (.int .i64 0)] [], sg g971 35 (0, 0) [] [(.int .i64 0), (.int .i64 s985)] [], h0x0, h0x1, hF]) a1.Owner  (Mem.one hm992) hr1006) ?_
   rintro e w1007 ⟨rfl, hm1008⟩
   refine ⟨_, rfl, ?_⟩
   replace hm1008 : Mem w0 w1007 (cat [sg g0 T0 fr0 pre0 [v0x0, v0x1] post0, sg g949 39 (0, 0) [] [(.int .i64 a1.Kind), (.int .i64 a1.Owner), (.int .i64 a1.To), (.int .i64 a1.Buffer)] [], sg g953 35 (0, 0) [] [(.int .i64 0), (.int .i64 0)] [], sg g971 35 (0, 0) [] [(.int .i64 0), (.int .i64 s985)] [], h0x0, h0x1, hF]) := Mem.un hm1008
   refine s_val (v := (.bool (!r1006))) (won rfl) rfl rfl (x_not rfl (ev (t := 28) rfl rfl)) ?_
   refine s_val (v := (.bool (!r1006))) (won rfl) rfl rfl (x_move rfl (ev (t := 29) rfl rfl)) ?_
   refine s_cval (p := (!(!r1006))) (v := (.pointer (some ⟨g949, 0, none⟩))) (won_f (j := 4) (t := 30) (q := (!r1006)) rfl rfl rfl rfl rfl) rfl rfl (fun hp => (x_field rfl fa_39x0 (ev (t := 3) (v := (.pointer (some ⟨g949, 0, none⟩))) rfl q981))) ?_
   refine s_cval (p := (!(!r1006))) (v := (.int .i64 a1.Kind)) (won_f (j := 4) (t := 30) (q := (!r1006)) rfl rfl rfl rfl rfl) rfl rfl (fun hp => (x_load rfl ty1x3 (ev (t := 31) rfl (Eq.trans (b := cv (!(!r1006)) (.pointer (some ⟨g949, 0, none⟩))) rfl (on_c hp))) (seg_cell (o' := 0) (j := 0) hm1008 (k := 1) rfl rfl rfl))) ?_
   refine s_cval (p := (!(!r1006))) (v := (.bool (decide (a1.Kind = 2)))) (won_f (j := 4) (t := 30) (q := (!r1006)) rfl rfl rfl rfl rfl) rfl rfl (fun hp => (x_eql rfl (ev (t := 32) rfl (Eq.trans (b := cv (!(!r1006)) (.int .i64 a1.Kind)) rfl (on_c hp))) rfl)) ?_
   refine s_cval (p := (!(!r1006))) (v := (.bool (decide (a1.Kind = 2)))) (won_f (j := 4) (t := 30) (q := (!r1006)) rfl rfl rfl rfl rfl) rfl rfl (fun hp => (x_move rfl (ev (t := 33) rfl (Eq.trans (b := cv (!(!r1006)) (.bool (decide (a1.Kind = 2)))) rfl (on_c hp))))) ?_
   refine s_cval (p := ((!(!r1006)) && (decide (a1.Kind = 2)))) (v := (.pointer (some ⟨g949, 2, none⟩))) (won_ct (j := 8) (t := 34) (p := (!(!r1006))) (q := (decide (a1.Kind = 2))) rfl rfl rfl rfl rfl) rfl rfl (fun hp => (x_field rfl fa_39x2 (ev (t := 3) (v := (.pointer (some ⟨g949, 0, none⟩))) rfl q981))) ?_
   refine s_cval (p := ((!(!r1006)) && (decide (a1.Kind = 2)))) (v := (.int .i64 a1.To)) (won_ct (j := 8) (t := 34) (p := (!(!r1006))) (q := (decide (a1.Kind = 2))) rfl rfl rfl rfl rfl) rfl rfl (fun hp => (x_load rfl ty1x3 (ev (t := 35) rfl (Eq.trans (b := cv ((!(!r1006)) && (decide (a1.Kind = 2))) (.pointer (some ⟨g949, 2, none⟩))) rfl (on_c hp))) (seg_cell (o' := 0) (j := 2) hm1008 (k := 1) rfl rfl rfl))) ?_
   refine s_ccall (p := ((!(!r1006)) && (decide (a1.Kind = 2)))) (v := (.bool r1009)) (J := fun w' => Mem w0 w' (cat [sg g0 T0 fr0 pre0 [v0x0, v0x1] post0, sg g949 39 (0, 0) [] [(.int .i64 a1.Kind), (.int .i64 a1.Owner), (.int .i64 a1.To), (.int .i64 a1.Buffer)] [], sg g953 35 (0, 0) [] [(.int .i64 0), (.int .i64 0)] [], sg g971 35 (0, 0) [] [(.int .i64 0), (.int .i64 s985)] [], h0x0, h0x1, hF])) (won_ct (j := 8) (t := 34) (p := (!(!r1006))) (q := (decide (a1.Kind = 2))) rfl rfl rfl rfl rfl) rfl rfl (fun hp => (x_call rfl rfl cl_64 (map_lit (map_cons (ev (t := 36) rfl (Eq.trans (b := cv ((!(!r1006)) && (decide (a1.Kind = 2))) (.int .i64 a1.To)) rfl (on_c hp))) map_nil)))) (fun hp => ((impl_isOwner_ok (hR := (cat [])) (hF := cat [sg g0 T0 fr0 pre0 [v0x0, v0x1] post0, sg g949 39 (0, 0) [] [(.int .i64 a1.Kind), (.int .i64 a1.Owner), (.int .i64 a1.To), (.int .i64 a1.Buffer)] [], sg g953 35 (0, 0) [] [(.int .i64 0), (.int .i64 0)] [], sg g971 35 (0, 0) [] [(.int .i64 0), (.int .i64 s985)] [], h0x0, h0x1, hF]) a1.To  (Mem.one hm1008) (bifT hr1009 hp))).mono fun e w2 h => ⟨h.1, Mem.un h.2⟩) hm1008 ?_
   intro w1010 hm1011
   refine s_cval (p := ((!(!r1006)) && (decide (a1.Kind = 2)))) (v := (.bool (!r1009))) (won_ct (j := 8) (t := 34) (p := (!(!r1006))) (q := (decide (a1.Kind = 2))) rfl rfl rfl rfl rfl) rfl rfl (fun hp => (x_not rfl (ev (t := 37) rfl (Eq.trans (b := cv ((!(!r1006)) && (decide (a1.Kind = 2))) (.bool r1009)) rfl (on_c hp))))) ?_
   refine s_cval (p := (!(!r1006))) (v := (.bool ((decide (a1.Kind = 2)) && (!r1009)))) (won_f (j := 4) (t := 30) (q := (!r1006)) rfl rfl rfl rfl rfl) rfl rfl (fun hp => (x_pick_and rfl (ev (t := 34) rfl (Eq.trans (b := cv (!(!r1006)) (.bool (decide (a1.Kind = 2)))) rfl (on_c hp))) (fun hq => ev rfl (Eq.trans (b := cv ((!(!r1006)) && (decide (a1.Kind = 2))) (.bool (!r1009))) rfl (on_c (and_i hp hq)))) rfl)) ?_
   refine s_val (v := (.bool ((!r1006) || ((decide (a1.Kind = 2)) && (!r1009))))) (won rfl) rfl rfl (x_pick_or rfl (ev (t := 30) rfl rfl) rfl (fun hq => ev rfl (Eq.trans (b := cv (!(!r1006)) (.bool ((decide (a1.Kind = 2)) && (!r1009)))) rfl (on_c (not_i hq))))) ?_
   refine wpList_nil ?_
   refine nx ?_
   rcases Bool.eq_false_or_eq_true (((!r1006) || ((decide (a1.Kind = 2)) && (!r1009)))) with hb1012 | hb1012
   ·
    replace he := bifT he hb1012
    refine c_true rfl (p := ((!r1006) || ((decide (a1.Kind = 2)) && (!r1009)))) rfl rfl hb1012 ?_
    refine wp_seq ?_
    refine wp_region_lit ?_
    refine s_val (v := (.pointer (some ⟨g971, 0, none⟩))) (won rfl) rfl rfl (x_field rfl fa_35x0 (ev (t := 5) (v := (.pointer (some ⟨g971, 0, none⟩))) rfl q984)) ?_
    refine s_exs (won rfl) rfl (e_store (vs := [(.int .i64 4)]) (o' := 0) (j := 0) rfl sz_3 (ev (t := 41) rfl rfl) rfl rfl rfl hm1011 (k := 3) rfl rfl rfl) ?_
    intro w1013 hm1014
    replace hm1014 : Mem w0 w1013 (cat [sg g0 T0 fr0 pre0 [v0x0, v0x1] post0, sg g949 39 (0, 0) [] [(.int .i64 a1.Kind), (.int .i64 a1.Owner), (.int .i64 a1.To), (.int .i64 a1.Buffer)] [], sg g953 35 (0, 0) [] [(.int .i64 0), (.int .i64 0)] [], sg g971 35 (0, 0) [] [(.int .i64 4), (.int .i64 s985)] [], h0x0, h0x1, hF]) := hm1014
    refine wpList_nil ?_
    have hm1015 : Mem w0 w1013 (cat [sg g0 T0 fr0 pre0 [v0x0, v0x1] post0, sg g953 35 (0, 0) [] [(.int .i64 0), (.int .i64 0)] [], sg g971 35 (0, 0) [] [(.int .i64 4), (.int .i64 s985)] [], h0x0, h0x1, hF]) := Mem.pick [0, 2, 3, 4, 5, 6] rfl hm1014
    refine nx ?_
    refine wp_seq ?_
    refine wp_region_lit ?_
    refine s_val (v := (.agg #[(.int .i64 4), (.int .i64 s985)])) (won rfl) rfl rfl (x_loadN (vs := [(.int .i64 4), (.int .i64 s985)]) rfl tyN_35 (ev (t := 5) (v := (.pointer (some ⟨g971, 0, none⟩))) rfl q984) (seg_cells (o' := 0) (j := 0) hm1015 (k := 2) rfl rfl rfl)) ?_
    refine s_exs (won rfl) rfl (e_store (vs := [(.int .i64 4), (.int .i64 s985)]) (o' := 0) (j := 0) rfl sz_35 (ev (t := 4) (v := (.pointer (some ⟨g953, 0, none⟩))) rfl q982) (ev (t := 42) rfl rfl) rfl rfl hm1015 (k := 1) rfl rfl rfl) ?_
    intro w1016 hm1017
    replace hm1017 : Mem w0 w1016 (cat [sg g0 T0 fr0 pre0 [v0x0, v0x1] post0, sg g953 35 (0, 0) [] [(.int .i64 4), (.int .i64 s985)] [], sg g971 35 (0, 0) [] [(.int .i64 4), (.int .i64 s985)] [], h0x0, h0x1, hF]) := hm1017
    refine wpList_nil ?_
    have hm1018 : Mem w0 w1016 (cat [sg g0 T0 fr0 pre0 [v0x0, v0x1] post0, sg g953 35 (0, 0) [] [(.int .i64 4), (.int .i64 s985)] [], h0x0, h0x1, hF]) := Mem.pick [0, 1, 3, 4, 5] rfl hm1017
    refine nx ?_
    refine wp_ret ?_
    refine xr ?_
    obtain rfl := Option.some.inj he
    refine r_ret (v := (.agg #[(.int .i64 4), (.int .i64 s985)])) (rv_one rfl (RVs.cell (cs := [(.int .i64 4), (.int .i64 s985)]) rfl q982 tyN_35 (seg_cells (o' := 0) (j := 0) hm1018 (k := 1) rfl rfl rfl) RVs.nil)) rfl ?_
    exact ⟨v0x0, h0x0, v0x1, h0x1, rfl, H0x0, H0x1, Mem.pick [0, 2, 3, 4] rfl hm1018⟩
   ·
    replace he := bifF he hb1012
    refine c_false rfl (p := ((!r1006) || ((decide (a1.Kind = 2)) && (!r1009)))) rfl rfl hb1012 ?_
    refine wp_skip ?_
    refine nx ?_
    obtain ⟨l1346, hT1348, hk1347⟩ := bindE he
    replace he := hT1348
    refine wp_seqJ (fun a w => ∃ (s1345 : (Unit)) (f : Nat → Value), l1346 = Fl.go s1345 ∧ a = fr 112 f ∧ f 0 = (.pointer (some ⟨g0, o0, none⟩)) ∧ f 3 = (.pointer (some ⟨g949, 0, none⟩)) ∧ f 4 = (.pointer (some ⟨g953, 0, none⟩)) ∧ f 5 = (.pointer (some ⟨g971, 0, none⟩)) ∧ Mem w0 w (cat [sg g0 T0 fr0 pre0 [v0x0, v0x1] post0, sg g949 39 (0, 0) [] [(.int .i64 a1.Kind), (.int .i64 a1.Owner), (.int .i64 a1.To), (.int .i64 a1.Buffer)] [], sg g953 35 (0, 0) [] [(.int .i64 0), (.int .i64 0)] [], sg g971 35 (0, 0) [] [(.int .i64 0), (.int .i64 s985)] [], h0x0, h0x1, hF])) ?_ ?_
    ·
     refine wp_seq ?_
     refine wp_region_lit ?_
     refine s_val (v := (.pointer (some ⟨g949, 0, none⟩))) (won rfl) rfl rfl (x_field rfl fa_39x0 (ev (t := 3) (v := (.pointer (some ⟨g949, 0, none⟩))) rfl q981)) ?_
     refine s_val (v := (.int .i64 a1.Kind)) (won rfl) rfl rfl (x_load rfl ty1x3 (ev (t := 43) rfl rfl) (seg_cell (o' := 0) (j := 0) hm1011 (k := 1) rfl rfl rfl)) ?_
     refine wpList_nil ?_
     refine nx ?_
     refine wp_block ?_
     refine wp_seq ?_
     refine wp_region_lit ?_
     refine s_val (v := (.bool (decide (a1.Kind = 1)))) (won rfl) rfl rfl (x_eql rfl (ev (t := 44) rfl rfl) rfl) ?_
     refine s_val (v := (.bool (decide (a1.Kind = 1)))) (won rfl) rfl rfl (x_assign rfl (ev (t := 46) rfl rfl)) ?_
     refine wpList_nil ?_
     refine nx ?_
     rcases Bool.eq_false_or_eq_true ((decide (a1.Kind = 1))) with hb1349 | hb1349
     ·
      replace he := bifT he hb1349
      refine c_true rfl (p := (decide (a1.Kind = 1))) rfl rfl hb1349 ?_
      refine wp_seq ?_
      obtain ⟨r1350, hr1350, he⟩ := bindE he
      refine wp_region_lit ?_
      refine s_val (v := (.pointer (some ⟨g0, o0, none⟩))) (won rfl) rfl rfl (x_move rfl (ev (t := 0) (v := (.pointer (some ⟨g0, o0, none⟩))) rfl q980)) ?_
      refine s_val (v := (.pointer (some ⟨g949, 1, none⟩))) (won rfl) rfl rfl (x_field rfl fa_39x1 (ev (t := 3) (v := (.pointer (some ⟨g949, 0, none⟩))) rfl q981)) ?_
      refine s_val (v := (.int .i64 a1.Owner)) (won rfl) rfl rfl (x_load rfl ty1x3 (ev (t := 48) rfl rfl) (seg_cell (o' := 0) (j := 1) hm1011 (k := 1) rfl rfl rfl)) ?_
      refine s_call (won rfl) rfl rfl (x_call rfl rfl cl_85 (map_lit (map_cons (ev (t := 47) rfl rfl) (map_cons (ev (t := 49) rfl rfl) map_nil)))) (impl_Pool_take_ok (hR := (cat [])) (hF := cat [sg g949 39 (0, 0) [] [(.int .i64 a1.Kind), (.int .i64 a1.Owner), (.int .i64 a1.To), (.int .i64 a1.Buffer)] [], sg g953 35 (0, 0) [] [(.int .i64 0), (.int .i64 0)] [], sg g971 35 (0, 0) [] [(.int .i64 0), (.int .i64 s985)] [], hF]) a0 a1.Owner H0x0 H0x1 hp0 (Mem.grp [sg g0 T0 fr0 pre0 [v0x0, v0x1] post0, h0x0, h0x1] [sg g949 39 (0, 0) [] [(.int .i64 a1.Kind), (.int .i64 a1.Owner), (.int .i64 a1.To), (.int .i64 a1.Buffer)] [], sg g953 35 (0, 0) [] [(.int .i64 0), (.int .i64 0)] [], sg g971 35 (0, 0) [] [(.int .i64 0), (.int .i64 s985)] [], hF] (Mem.pick [0, 4, 5, 1, 2, 3, 6] rfl hm1011)) hr1350) ?_
      rintro e w1359 ⟨v1352, h1354, v1356, h1358, rfl, H1353, H1357, hm1360⟩
      refine ⟨_, rfl, ?_⟩
      replace hm1360 : Mem w0 w1359 (cat [sg g0 T0 fr0 pre0 [v1352, v1356] post0, h1354, h1358, sg g949 39 (0, 0) [] [(.int .i64 a1.Kind), (.int .i64 a1.Owner), (.int .i64 a1.To), (.int .i64 a1.Buffer)] [], sg g953 35 (0, 0) [] [(.int .i64 0), (.int .i64 0)] [], sg g971 35 (0, 0) [] [(.int .i64 0), (.int .i64 s985)] [], hF]) := Mem.ung [sg g0 T0 fr0 pre0 [v1352, v1356] post0, h1354, h1358] [sg g949 39 (0, 0) [] [(.int .i64 a1.Kind), (.int .i64 a1.Owner), (.int .i64 a1.To), (.int .i64 a1.Buffer)] [], sg g953 35 (0, 0) [] [(.int .i64 0), (.int .i64 0)] [], sg g971 35 (0, 0) [] [(.int .i64 0), (.int .i64 s985)] [], hF] hm1360
      refine s_exs (won rfl) rfl (e_store (vs := [(.int .i64 r1350.1.Code), (.int .i64 r1350.1.Buffer)]) (o' := 0) (j := 0) rfl sz_35 (ev (t := 4) (v := (.pointer (some ⟨g953, 0, none⟩))) rfl q982) (ev (t := 50) rfl rfl) rfl rfl hm1360 (k := 4) rfl rfl rfl) ?_
      intro w1361 hm1362
      replace hm1362 : Mem w0 w1361 (cat [sg g0 T0 fr0 pre0 [v1352, v1356] post0, h1354, h1358, sg g949 39 (0, 0) [] [(.int .i64 a1.Kind), (.int .i64 a1.Owner), (.int .i64 a1.To), (.int .i64 a1.Buffer)] [], sg g953 35 (0, 0) [] [(.int .i64 r1350.1.Code), (.int .i64 r1350.1.Buffer)] [], sg g971 35 (0, 0) [] [(.int .i64 0), (.int .i64 s985)] [], hF]) := hm1362
      refine wpList_nil ?_
      have hm1363 : Mem w0 w1361 (cat [sg g0 T0 fr0 pre0 [v1352, v1356] post0, h1354, h1358, sg g953 35 (0, 0) [] [(.int .i64 r1350.1.Code), (.int .i64 r1350.1.Buffer)] [], hF]) := Mem.pick [0, 1, 2, 4, 6] rfl hm1362
      refine nx ?_
      refine wp_ret ?_
      refine rb ?_
      refine xr ?_
      obtain rfl := Option.some.inj he
      replace he := outE hk1347
      obtain rfl := Option.some.inj he
      refine r_ret (v := (.agg #[(.int .i64 r1350.1.Code), (.int .i64 r1350.1.Buffer)])) (rv_one rfl (RVs.cell (cs := [(.int .i64 r1350.1.Code), (.int .i64 r1350.1.Buffer)]) rfl q982 tyN_35 (seg_cells (o' := 0) (j := 0) hm1363 (k := 3) rfl rfl rfl) RVs.nil)) rfl ?_
      exact ⟨v1352, h1354, v1356, h1358, rfl, H1353, H1357, Mem.pick [0, 1, 2, 4] rfl hm1363⟩
     ·
      replace he := bifF he hb1349
      refine c_false rfl (p := (decide (a1.Kind = 1))) rfl rfl hb1349 ?_
      refine wp_seq ?_
      refine wp_region_lit ?_
      refine s_val (v := (.bool (decide (a1.Kind = 4)))) (won rfl) rfl rfl (x_eql rfl (ev (t := 44) rfl rfl) rfl) ?_
      refine s_val (v := (.bool (decide (a1.Kind = 4)))) (won rfl) rfl rfl (x_assign rfl (ev (t := 52) rfl rfl)) ?_
      refine wpList_nil ?_
      refine nx ?_
      rcases Bool.eq_false_or_eq_true ((decide (a1.Kind = 4))) with hb1364 | hb1364
      ·
       replace he := bifT he hb1364
       refine c_true rfl (p := (decide (a1.Kind = 4))) rfl rfl hb1364 ?_
       refine wp_seq ?_
       obtain ⟨r1365, hr1365, he⟩ := bindE he
       refine wp_region_lit ?_
       refine s_val (v := (.pointer (some ⟨g0, o0, none⟩))) (won rfl) rfl rfl (x_move rfl (ev (t := 0) (v := (.pointer (some ⟨g0, o0, none⟩))) rfl q980)) ?_
       refine s_val (v := (.pointer (some ⟨g949, 1, none⟩))) (won rfl) rfl rfl (x_field rfl fa_39x1 (ev (t := 3) (v := (.pointer (some ⟨g949, 0, none⟩))) rfl q981)) ?_
       refine s_val (v := (.int .i64 a1.Owner)) (won rfl) rfl rfl (x_load rfl ty1x3 (ev (t := 54) rfl rfl) (seg_cell (o' := 0) (j := 1) hm1011 (k := 1) rfl rfl rfl)) ?_
       refine s_call (won rfl) rfl rfl (x_call rfl rfl cl_65 (map_lit (map_cons (ev (t := 53) rfl rfl) (map_cons (ev (t := 55) rfl rfl) map_nil)))) (impl_Pool_held_ok F (hR := (cat [h0x0, h0x1])) (hF := cat [sg g949 39 (0, 0) [] [(.int .i64 a1.Kind), (.int .i64 a1.Owner), (.int .i64 a1.To), (.int .i64 a1.Buffer)] [], sg g953 35 (0, 0) [] [(.int .i64 0), (.int .i64 0)] [], sg g971 35 (0, 0) [] [(.int .i64 0), (.int .i64 s985)] [], h0x0, h0x1, hF]) a0 a1.Owner ((H0x0.rd w0).mono (Sub.at_ (k := 0) rfl)) ((H0x1.rd w0).mono (Sub.at_ (k := 1) rfl)) (subc (Sub.at_ (k := 3) rfl) (subc (Sub.at_ (k := 4) rfl) subn)) hp0 (Mem.grp [sg g0 T0 fr0 pre0 [v0x0, v0x1] post0] [sg g949 39 (0, 0) [] [(.int .i64 a1.Kind), (.int .i64 a1.Owner), (.int .i64 a1.To), (.int .i64 a1.Buffer)] [], sg g953 35 (0, 0) [] [(.int .i64 0), (.int .i64 0)] [], sg g971 35 (0, 0) [] [(.int .i64 0), (.int .i64 s985)] [], h0x0, h0x1, hF] (Mem.pick [0, 1, 2, 3, 4, 5, 6] rfl hm1011)) hr1365) ?_
       rintro e w1370 ⟨v1367, h1369, rfl, H1368, hm1371⟩
       refine ⟨_, rfl, ?_⟩
       replace hm1371 : Mem w0 w1370 (cat [sg g0 T0 fr0 pre0 [v0x0, v0x1] post0, h1369, sg g949 39 (0, 0) [] [(.int .i64 a1.Kind), (.int .i64 a1.Owner), (.int .i64 a1.To), (.int .i64 a1.Buffer)] [], sg g953 35 (0, 0) [] [(.int .i64 0), (.int .i64 0)] [], sg g971 35 (0, 0) [] [(.int .i64 0), (.int .i64 s985)] [], h0x0, h0x1, hF]) := Mem.ung [sg g0 T0 fr0 pre0 [v0x0, v0x1] post0, h1369] [sg g949 39 (0, 0) [] [(.int .i64 a1.Kind), (.int .i64 a1.Owner), (.int .i64 a1.To), (.int .i64 a1.Buffer)] [], sg g953 35 (0, 0) [] [(.int .i64 0), (.int .i64 0)] [], sg g971 35 (0, 0) [] [(.int .i64 0), (.int .i64 s985)] [], h0x0, h0x1, hF] hm1371
       refine s_val (v := v1367) (won rfl) rfl rfl (x_assign rfl (ev (t := 56) rfl rfl)) ?_
       refine wpList_nil ?_
       have hm1372 : Mem w0 w1370 (cat [sg g0 T0 fr0 pre0 [v0x0, v0x1] post0, h1369, sg g953 35 (0, 0) [] [(.int .i64 0), (.int .i64 0)] [], h0x0, h0x1, hF]) := Mem.pick [0, 1, 3, 5, 6, 7] rfl hm1371
       refine nx ?_
       obtain ⟨s1523, hT1525, hk1524⟩ := bindE he
       replace he := hT1525
       refine wp_seqJ (fun a w => ∃ (v1514 : Value) (h1515 : Hp) (v1518 : Value) (h1519 : Hp) (f : Nat → Value), a = fr 112 f ∧ f 4 = (.pointer (some ⟨g953, 0, none⟩)) ∧ f 6 = v1367 ∧ OwF 3 (FK.int .i64) v1514 s1523.1 h1515 ∧ OwF 3 (FK.int .i64) v1518 s1523.2 h1519 ∧ Mem w0 w (cat [sg g0 T0 fr0 pre0 [v1514, v1518] post0, sg g953 35 (0, 0) [] [(.int .i64 0), (.int .i64 0)] [], h1515, h1519, h1369, hF])) ?_ ?_
       ·
        refine wp_seq ?_
        refine wp_region_lit ?_
        refine s_val (v := v1367) (won rfl) rfl rfl (x_move rfl (ev (t := 6) rfl rfl)) ?_
        refine s_val (v := (.int .i64 (r1365.length : Int))) (won rfl) rfl rfl (x_len rfl slt_26 (ev (t := 57) rfl rfl) (H1368).sl) ?_
        refine s_val (v := (.int .i64 0)) (won rfl) rfl rfl (x_move rfl rfl) ?_
        refine wpList_nil ?_
        refine nx ?_
        refine wp_block ?_
        refine wp_fuel (I := fun k => fun a w => ∃ (s1595 : (List Int)) (s1599 : (List Int)) (s1608 : Int) (v1596 : Value) (h1597 : Hp) (v1600 : Value) (h1601 : Hp) (f : Nat → Value), impl_Pool_act_l1 F r1365 k s1595 s1599 s1608 = some s1523 ∧ a = fr 112 f ∧ f 0 = (.pointer (some ⟨g0, o0, none⟩)) ∧ f 4 = (.pointer (some ⟨g953, 0, none⟩)) ∧ f 6 = v1367 ∧ f 57 = v1367 ∧ f 58 = (.int .i64 (r1365.length : Int)) ∧ f 59 = (.int .i64 s1608) ∧ OwF 3 (FK.int .i64) v1596 s1595 h1597 ∧ OwF 3 (FK.int .i64) v1600 s1599 h1601 ∧ Mem w0 w (cat [sg g0 T0 fr0 pre0 [v1596, v1600] post0, sg g953 35 (0, 0) [] [(.int .i64 0), (.int .i64 0)] [], h1597, h1601, h1369, hF])) F _ _ ⟨a0.Free, a0.Owner, 0, v0x0, h0x0, v0x1, h0x1, _, he, rfl, q980, q982, rfl, rfl, rfl, rfl, H0x0, H0x1, Mem.pick [0, 2, 3, 4, 1, 5] rfl hm1372⟩ ?_ ?_
        ·
         rintro a w ⟨s1595, s1599, s1608, v1596, h1597, v1600, h1601, f, he, rfl, q1603, q1604, q1605, q1606, q1607, q1609, H1598, H1602, hm1637⟩
         rw [impl_Pool_act_l1] at he; exact none_no he
        ·
         rintro k a w ⟨s1595, s1599, s1608, v1596, h1597, v1600, h1601, f, he, rfl, q1603, q1604, q1605, q1606, q1607, q1609, H1598, H1602, hm1639⟩
         rw [impl_Pool_act_l1] at he
         refine wp_seq ?_
         refine wp_region_lit ?_
         refine s_val (v := (.bool (decide (s1608 < (r1365.length : Int))))) (won rfl) rfl rfl (x_lss rfl (ev (t := 59) (v := (.int .i64 s1608)) rfl q1609) (ev (t := 58) (v := (.int .i64 (r1365.length : Int))) rfl q1607)) ?_
         refine wpList_nil ?_
         refine nx ?_
         refine wp_seq ?_
         rcases Bool.eq_false_or_eq_true ((decide (s1608 < (r1365.length : Int)))) with hb1641 | hb1641
         ·
          replace he := bifT he hb1641
          refine c_true rfl (p := (decide (s1608 < (r1365.length : Int)))) rfl rfl hb1641 ?_
          refine wp_skip ?_
          refine nx ?_
          refine wp_seq ?_
          refine wp_block ?_
          refine wp_seq ?_
          obtain ⟨hg1654, he⟩ := gdE he
          refine wp_region_lit ?_
          refine s_val (v := (.pointer (some ((slA v1367).add (Int.toNat s1608 * 1))))) (won rfl) rfl rfl (x_index (d := (FK.int .i64)) rfl slt_26 (ev (t := 57) (v := v1367) rfl q1606) (ev (t := 59) (v := (.int .i64 s1608)) rfl q1609) (H1368.rd w0) hg1654.1 hg1654.2) ?_
          refine s_val (v := (.int .i64 (ix r1365 s1608))) (won rfl) rfl rfl (x_load rfl ty1x3 (ev (t := 61) rfl rfl) (RdF.cell0 (H1368.rd w0) hm1639 (Sub.at_ (k := 4) rfl) hg1654.1 hg1654.2 rfl)) ?_
          refine s_val (v := (.int .i64 (ix r1365 s1608))) (won rfl) rfl rfl (x_assign rfl (ev (t := 62) rfl rfl)) ?_
          refine wpList_nil ?_
          refine nx ?_
          obtain ⟨r1655, hr1655, he⟩ := bindE he
          refine wp_region_lit ?_
          refine s_val (v := (.pointer (some ⟨g0, o0, none⟩))) (won rfl) rfl rfl (x_move rfl (ev (t := 0) (v := (.pointer (some ⟨g0, o0, none⟩))) rfl q1603)) ?_
          refine s_val (v := (.int .i64 (ix r1365 s1608))) (won rfl) rfl rfl (x_move rfl (ev (t := 8) rfl rfl)) ?_
          refine s_call (won rfl) rfl rfl (x_call rfl rfl cl_86 (map_lit (map_cons (ev (t := 63) rfl rfl) (map_cons (ev (t := 64) rfl rfl) map_nil)))) (impl_Pool_release_ok (hR := (cat [])) (hF := cat [sg g953 35 (0, 0) [] [(.int .i64 0), (.int .i64 0)] [], h1369, hF]) (impl_Pool.mk s1595 s1599) (ix r1365 s1608) H1598 H1602 hp0 (Mem.grp [sg g0 T0 fr0 pre0 [v1596, v1600] post0, h1597, h1601] [sg g953 35 (0, 0) [] [(.int .i64 0), (.int .i64 0)] [], h1369, hF] (Mem.pick [0, 2, 3, 1, 4, 5] rfl hm1639)) hr1655) ?_
          rintro e w1664 ⟨v1657, h1659, v1661, h1663, rfl, H1658, H1662, hm1665⟩
          refine ⟨_, rfl, ?_⟩
          replace hm1665 : Mem w0 w1664 (cat [sg g0 T0 fr0 pre0 [v1657, v1661] post0, h1659, h1663, sg g953 35 (0, 0) [] [(.int .i64 0), (.int .i64 0)] [], h1369, hF]) := Mem.ung [sg g0 T0 fr0 pre0 [v1657, v1661] post0, h1659, h1663] [sg g953 35 (0, 0) [] [(.int .i64 0), (.int .i64 0)] [], h1369, hF] hm1665
          refine wpList_nil ?_
          refine nb ?_
          refine nx ?_
          refine wp_region_lit ?_
          refine s_val (v := (.int .i64 (IntKind.wrap .i64 (s1608 + 1)))) (won rfl) rfl rfl (x_add rfl (ev (t := 59) (v := (.int .i64 s1608)) rfl q1609) rfl) ?_
          refine s_val (v := (.int .i64 (IntKind.wrap .i64 (s1608 + 1)))) (won rfl) rfl rfl (x_move rfl (ev (t := 66) rfl rfl)) ?_
          refine wpList_nil ?_
          refine nx ?_
          exact ⟨r1655.Free, r1655.Owner, (IntKind.wrap .i64 (s1608 + 1)), v1657, h1659, v1661, h1663, _, he, rfl, q1603, q1604, q1605, q1606, q1607, rfl, H1658, H1662, Mem.pick [0, 3, 1, 2, 4, 5] rfl hm1665⟩
         ·
          replace he := bifF he hb1641
          refine c_false rfl (p := (decide (s1608 < (r1365.length : Int)))) rfl rfl hb1641 ?_
          refine wp_exit ?_
          refine xs ?_
          refine xs ?_
          refine xb ?_
          refine nx ?_
          obtain rfl := Option.some.inj he
          exact ⟨v1596, h1597, v1600, h1601, _, rfl, q1604, q1605, H1598, H1602, Mem.pick [0, 1, 2, 3, 4, 5] rfl hm1639⟩
       ·
        rintro a w ⟨v1514, h1515, v1518, h1519, f, rfl, q1521, q1522, H1516, H1520, hm1667⟩
        replace he := hk1524
        refine wp_seq ?_
        refine wp_region_lit ?_
        refine s_val (v := v1367) (won rfl) rfl rfl (x_move rfl (ev (t := 6) (v := v1367) rfl q1522)) ?_
        refine s_val (v := (.int .i64 (r1365.length : Int))) (won rfl) rfl rfl (x_len rfl slt_26 (ev (t := 67) rfl rfl) (H1368).sl) ?_
        refine s_val (v := (.agg #[(.int .i64 0), (.int .i64 (r1365.length : Int))])) (won rfl) rfl rfl (x_build (cells := [(.int .i64 0), (.int .i64 (r1365.length : Int))]) (zc := [.int .i64 0, .int .i64 0]) (sizes := [(0, 1), (1, 1)]) (ps := [(1, (.int .i64 (r1365.length : Int)))]) rfl zt_35 rfl uf_35 ufz_35 (pmap_lit (pmap_cons (ev (t := 68) rfl rfl) pmap_nil)) (fill_cons (cs := [(.int .i64 (r1365.length : Int))]) rfl rfl rfl fill_nil)) ?_
        refine s_exs (won rfl) rfl (e_store (vs := [(.int .i64 0), (.int .i64 (r1365.length : Int))]) (o' := 0) (j := 0) rfl sz_35 (ev (t := 4) (v := (.pointer (some ⟨g953, 0, none⟩))) rfl q1521) (ev (t := 69) rfl rfl) rfl rfl hm1667 (k := 1) rfl rfl rfl) ?_
        intro w1668 hm1669
        replace hm1669 : Mem w0 w1668 (cat [sg g0 T0 fr0 pre0 [v1514, v1518] post0, sg g953 35 (0, 0) [] [(.int .i64 0), (.int .i64 (r1365.length : Int))] [], h1515, h1519, h1369, hF]) := hm1669
        refine wpList_nil ?_
        have hm1670 : Mem w0 w1668 (cat [sg g0 T0 fr0 pre0 [v1514, v1518] post0, sg g953 35 (0, 0) [] [(.int .i64 0), (.int .i64 (r1365.length : Int))] [], h1515, h1519, hF]) := Mem.pick [0, 1, 2, 3, 5] rfl hm1669
        refine nx ?_
        refine wp_ret ?_
        refine rb ?_
        refine xr ?_
        obtain rfl := Option.some.inj he
        replace he := outE hk1347
        obtain rfl := Option.some.inj he
        refine r_ret (v := (.agg #[(.int .i64 0), (.int .i64 (r1365.length : Int))])) (rv_one rfl (RVs.cell (cs := [(.int .i64 0), (.int .i64 (r1365.length : Int))]) rfl q1521 tyN_35 (seg_cells (o' := 0) (j := 0) hm1670 (k := 1) rfl rfl rfl) RVs.nil)) rfl ?_
        exact ⟨v1514, h1515, v1518, h1519, rfl, H1516, H1520, Mem.pick [0, 2, 3, 4] rfl hm1670⟩
      ·
       replace he := bifF he hb1364
       refine c_false rfl (p := (decide (a1.Kind = 4))) rfl rfl hb1364 ?_
       refine wp_skip ?_
       refine nb ?_
       refine nx ?_
       obtain rfl := Option.some.inj he
       exact ⟨(), _, rfl, rfl, q980, q981, q982, q984, Mem.pick [0, 1, 2, 3, 4, 5, 6] rfl hm1011⟩
    ·
     rintro a w ⟨s1345, f, rfl, rfl, q1341, q1342, q1343, q1344, hm1672⟩
     replace he := goE hk1347
     refine wp_seq ?_
     refine wp_seq ?_
     obtain ⟨r1684, hr1684, he⟩ := bindE he
     obtain ⟨hg1685, he⟩ := gdE he
     refine wp_qregion (cat [sg g0 T0 fr0 pre0 [v0x0, v0x1] post0, sg g949 39 (0, 0) [] [(.int .i64 a1.Kind), (.int .i64 a1.Owner), (.int .i64 a1.To), (.int .i64 a1.Buffer)] [], sg g953 35 (0, 0) [] [(.int .i64 0), (.int .i64 0)] [], sg g971 35 (0, 0) [] [(.int .i64 0), (.int .i64 s985)] [], h0x0, h0x1, hF]) mixed (by kernel_rfl) hm1672 ?_
     refine q_val (v := (.pointer (some ⟨g949, 3, none⟩))) (won rfl) rfl rfl (fun wq hq => (x_field rfl fa_39x3 (ev (t := 3) (v := (.pointer (some ⟨g949, 0, none⟩))) rfl q1342))) ?_
     refine q_val (v := (.int .i64 a1.Buffer)) (won rfl) rfl rfl (fun wq hq => (x_load rfl ty1x3 (ev (t := 70) rfl rfl) (seg_cell (o' := 0) (j := 3) hq (k := 1) rfl rfl rfl))) ?_
     refine q_val (v := (.pointer (some ⟨g0, o0, none⟩))) (won rfl) rfl rfl (fun wq hq => (x_move rfl (ev (t := 0) (v := (.pointer (some ⟨g0, o0, none⟩))) rfl q1341))) ?_
     refine q_val (v := (.pointer (some ⟨g0, o0, none⟩))) (won rfl) rfl rfl (fun wq hq => (x_nil rfl (ev (t := 72) rfl rfl))) ?_
     refine q_val (v := (.pointer (some ⟨g0, o0 + 1, none⟩))) (won rfl) rfl rfl (fun wq hq => (x_field rfl fa_28x1 (ev (t := 73) rfl rfl))) ?_
     refine q_val (v := v0x1) (won rfl) rfl rfl (fun wq hq => (x_load rfl ty1x26 (ev (t := 74) rfl rfl) (seg_cell (o' := o0) (j := 1) hq (k := 0) rfl hp0 rfl))) ?_
     refine q_val (v := (.int .i64 (a0.Owner.length : Int))) (won rfl) rfl rfl (fun wq hq => (x_len rfl slt_26 (ev (t := 75) rfl rfl) (H0x1).sl)) ?_
     refine q_val (v := (.int .i64 (IntKind.wrap .i64 ((a0.Owner.length : Int) - 1)))) (won rfl) rfl rfl (fun wq hq => (x_sub rfl (ev (t := 76) rfl rfl) rfl)) ?_
     refine q_call (v := (.bool r1684)) (won rfl) rfl rfl (fun wq hq => (x_call rfl rfl cl_58 (map_lit (map_cons (ev (t := 71) rfl rfl) (map_cons rfl (map_cons (ev (t := 77) rfl rfl) map_nil)))))) (fun wq hq => ((impl_inRange_ok (hR := (cat [])) (hF := cat [sg g0 T0 fr0 pre0 [v0x0, v0x1] post0, sg g949 39 (0, 0) [] [(.int .i64 a1.Kind), (.int .i64 a1.Owner), (.int .i64 a1.To), (.int .i64 a1.Buffer)] [], sg g953 35 (0, 0) [] [(.int .i64 0), (.int .i64 0)] [], sg g971 35 (0, 0) [] [(.int .i64 0), (.int .i64 s985)] [], h0x0, h0x1, hF]) a1.Buffer 0 (IntKind.wrap .i64 ((a0.Owner.length : Int) - 1))  (Mem.one hq) hr1684)).mono fun e w2 h => ⟨h.1, Mem.un h.2⟩) ?_
     refine q_val (v := (.bool (!r1684))) (won rfl) rfl rfl (fun wq hq => (x_not rfl (ev (t := 78) rfl rfl))) ?_
     refine q_val (v := (.bool (!r1684))) (won rfl) rfl rfl (fun wq hq => (x_move rfl (ev (t := 79) rfl rfl))) ?_
     refine q_cval (p := (!(!r1684))) (v := (.pointer (some ⟨g0, o0, none⟩))) (won_f (j := 10) (t := 80) (q := (!r1684)) rfl rfl rfl rfl rfl) rfl rfl (fun hp wq hq => (x_move rfl (ev (t := 0) (v := (.pointer (some ⟨g0, o0, none⟩))) rfl q1341))) ?_
     refine q_cval (p := (!(!r1684))) (v := (.pointer (some ⟨g0, o0, none⟩))) (won_f (j := 10) (t := 80) (q := (!r1684)) rfl rfl rfl rfl rfl) rfl rfl (fun hp wq hq => (x_nil rfl (ev (t := 81) rfl (Eq.trans (b := cv (!(!r1684)) (.pointer (some ⟨g0, o0, none⟩))) rfl (on_c hp))))) ?_
     refine q_cval (p := (!(!r1684))) (v := (.pointer (some ⟨g0, o0 + 1, none⟩))) (won_f (j := 10) (t := 80) (q := (!r1684)) rfl rfl rfl rfl rfl) rfl rfl (fun hp wq hq => (x_field rfl fa_28x1 (ev (t := 82) rfl (Eq.trans (b := cv (!(!r1684)) (.pointer (some ⟨g0, o0, none⟩))) rfl (on_c hp))))) ?_
     refine q_cval (p := (!(!r1684))) (v := v0x1) (won_f (j := 10) (t := 80) (q := (!r1684)) rfl rfl rfl rfl rfl) rfl rfl (fun hp wq hq => (x_load rfl ty1x26 (ev (t := 83) rfl (Eq.trans (b := cv (!(!r1684)) (.pointer (some ⟨g0, o0 + 1, none⟩))) rfl (on_c hp))) (seg_cell (o' := o0) (j := 1) hq (k := 0) rfl hp0 rfl))) ?_
     refine q_cval (p := (!(!r1684))) (v := (.pointer (some ⟨g949, 3, none⟩))) (won_f (j := 10) (t := 80) (q := (!r1684)) rfl rfl rfl rfl rfl) rfl rfl (fun hp wq hq => (x_field rfl fa_39x3 (ev (t := 3) (v := (.pointer (some ⟨g949, 0, none⟩))) rfl q1342))) ?_
     refine q_cval (p := (!(!r1684))) (v := (.int .i64 a1.Buffer)) (won_f (j := 10) (t := 80) (q := (!r1684)) rfl rfl rfl rfl rfl) rfl rfl (fun hp wq hq => (x_load rfl ty1x3 (ev (t := 85) rfl (Eq.trans (b := cv (!(!r1684)) (.pointer (some ⟨g949, 3, none⟩))) rfl (on_c hp))) (seg_cell (o' := 0) (j := 3) hq (k := 1) rfl rfl rfl))) ?_
     refine q_cval (p := (!(!r1684))) (v := (.pointer (some ((slA v0x1).add (Int.toNat a1.Buffer * 1))))) (won_f (j := 10) (t := 80) (q := (!r1684)) rfl rfl rfl rfl rfl) rfl rfl (fun hp wq hq => (x_index (d := (FK.int .i64)) rfl slt_26 (ev (t := 84) rfl (Eq.trans (b := cv (!(!r1684)) v0x1) rfl (on_c hp))) (ev (t := 86) rfl (Eq.trans (b := cv (!(!r1684)) (.int .i64 a1.Buffer)) rfl (on_c hp))) (H0x1.rd w0) (hg1685 hp).1 (hg1685 hp).2)) ?_
     refine q_cval (p := (!(!r1684))) (v := (.int .i64 (ix a0.Owner a1.Buffer))) (won_f (j := 10) (t := 80) (q := (!r1684)) rfl rfl rfl rfl rfl) rfl rfl (fun hp wq hq => (x_load rfl ty1x3 (ev (t := 87) rfl (Eq.trans (b := cv (!(!r1684)) (.pointer (some ((slA v0x1).add (Int.toNat a1.Buffer * 1))))) rfl (on_c hp))) (RdF.cell0 (H0x1.rd w0) hq (Sub.at_ (k := 5) rfl) (hg1685 hp).1 (hg1685 hp).2 rfl))) ?_
     refine q_cval (p := (!(!r1684))) (v := (.pointer (some ⟨g949, 1, none⟩))) (won_f (j := 10) (t := 80) (q := (!r1684)) rfl rfl rfl rfl rfl) rfl rfl (fun hp wq hq => (x_field rfl fa_39x1 (ev (t := 3) (v := (.pointer (some ⟨g949, 0, none⟩))) rfl q1342))) ?_
     refine q_cval (p := (!(!r1684))) (v := (.int .i64 a1.Owner)) (won_f (j := 10) (t := 80) (q := (!r1684)) rfl rfl rfl rfl rfl) rfl rfl (fun hp wq hq => (x_load rfl ty1x3 (ev (t := 89) rfl (Eq.trans (b := cv (!(!r1684)) (.pointer (some ⟨g949, 1, none⟩))) rfl (on_c hp))) (seg_cell (o' := 0) (j := 1) hq (k := 1) rfl rfl rfl))) ?_
     refine q_cval (p := (!(!r1684))) (v := (.bool (!decide ((ix a0.Owner a1.Buffer) = a1.Owner)))) (won_f (j := 10) (t := 80) (q := (!r1684)) rfl rfl rfl rfl rfl) rfl rfl (fun hp wq hq => (x_neq rfl (ev (t := 88) rfl (Eq.trans (b := cv (!(!r1684)) (.int .i64 (ix a0.Owner a1.Buffer))) rfl (on_c hp))) (ev (t := 90) rfl (Eq.trans (b := cv (!(!r1684)) (.int .i64 a1.Owner)) rfl (on_c hp))))) ?_
     refine q_val (v := (.bool ((!r1684) || (!decide ((ix a0.Owner a1.Buffer) = a1.Owner))))) (won rfl) rfl rfl (fun wq hq => (x_pick_or rfl (ev (t := 80) rfl rfl) rfl (fun hq => ev rfl (Eq.trans (b := cv (!(!r1684)) (.bool (!decide ((ix a0.Owner a1.Buffer) = a1.Owner)))) rfl (on_c (not_i hq)))))) ?_
     refine wpQuiet_nil ?_
     intro w1686 hm1687
     refine nx ?_
     rcases Bool.eq_false_or_eq_true (((!r1684) || (!decide ((ix a0.Owner a1.Buffer) = a1.Owner)))) with hb1688 | hb1688
     ·
      replace he := bifT he hb1688
      refine c_true rfl (p := ((!r1684) || (!decide ((ix a0.Owner a1.Buffer) = a1.Owner)))) rfl rfl hb1688 ?_
      refine wp_seq ?_
      refine wp_region_lit ?_
      refine s_val (v := (.pointer (some ⟨g971, 0, none⟩))) (won rfl) rfl rfl (x_field rfl fa_35x0 (ev (t := 5) (v := (.pointer (some ⟨g971, 0, none⟩))) rfl q1344)) ?_
      refine s_exs (won rfl) rfl (e_store (vs := [(.int .i64 5)]) (o' := 0) (j := 0) rfl sz_3 (ev (t := 93) rfl rfl) rfl rfl rfl hm1687 (k := 3) rfl rfl rfl) ?_
      intro w1689 hm1690
      replace hm1690 : Mem w0 w1689 (cat [sg g0 T0 fr0 pre0 [v0x0, v0x1] post0, sg g949 39 (0, 0) [] [(.int .i64 a1.Kind), (.int .i64 a1.Owner), (.int .i64 a1.To), (.int .i64 a1.Buffer)] [], sg g953 35 (0, 0) [] [(.int .i64 0), (.int .i64 0)] [], sg g971 35 (0, 0) [] [(.int .i64 5), (.int .i64 s985)] [], h0x0, h0x1, hF]) := hm1690
      refine wpList_nil ?_
      have hm1691 : Mem w0 w1689 (cat [sg g0 T0 fr0 pre0 [v0x0, v0x1] post0, sg g953 35 (0, 0) [] [(.int .i64 0), (.int .i64 0)] [], sg g971 35 (0, 0) [] [(.int .i64 5), (.int .i64 s985)] [], h0x0, h0x1, hF]) := Mem.pick [0, 2, 3, 4, 5, 6] rfl hm1690
      refine nx ?_
      refine wp_seq ?_
      refine wp_region_lit ?_
      refine s_val (v := (.agg #[(.int .i64 5), (.int .i64 s985)])) (won rfl) rfl rfl (x_loadN (vs := [(.int .i64 5), (.int .i64 s985)]) rfl tyN_35 (ev (t := 5) (v := (.pointer (some ⟨g971, 0, none⟩))) rfl q1344) (seg_cells (o' := 0) (j := 0) hm1691 (k := 2) rfl rfl rfl)) ?_
      refine s_exs (won rfl) rfl (e_store (vs := [(.int .i64 5), (.int .i64 s985)]) (o' := 0) (j := 0) rfl sz_35 (ev (t := 4) (v := (.pointer (some ⟨g953, 0, none⟩))) rfl q1343) (ev (t := 94) rfl rfl) rfl rfl hm1691 (k := 1) rfl rfl rfl) ?_
      intro w1692 hm1693
      replace hm1693 : Mem w0 w1692 (cat [sg g0 T0 fr0 pre0 [v0x0, v0x1] post0, sg g953 35 (0, 0) [] [(.int .i64 5), (.int .i64 s985)] [], sg g971 35 (0, 0) [] [(.int .i64 5), (.int .i64 s985)] [], h0x0, h0x1, hF]) := hm1693
      refine wpList_nil ?_
      have hm1694 : Mem w0 w1692 (cat [sg g0 T0 fr0 pre0 [v0x0, v0x1] post0, sg g953 35 (0, 0) [] [(.int .i64 5), (.int .i64 s985)] [], h0x0, h0x1, hF]) := Mem.pick [0, 1, 3, 4, 5] rfl hm1693
      refine nx ?_
      refine wp_ret ?_
      refine xr ?_
      obtain rfl := Option.some.inj he
      refine r_ret (v := (.agg #[(.int .i64 5), (.int .i64 s985)])) (rv_one rfl (RVs.cell (cs := [(.int .i64 5), (.int .i64 s985)]) rfl q1343 tyN_35 (seg_cells (o' := 0) (j := 0) hm1694 (k := 1) rfl rfl rfl) RVs.nil)) rfl ?_
      exact ⟨v0x0, h0x0, v0x1, h0x1, rfl, H0x0, H0x1, Mem.pick [0, 2, 3, 4] rfl hm1694⟩
     ·
      replace he := bifF he hb1688
      refine c_false rfl (p := ((!r1684) || (!decide ((ix a0.Owner a1.Buffer) = a1.Owner)))) rfl rfl hb1688 ?_
      refine wp_skip ?_
      refine nx ?_
      obtain ⟨s1727, hT1729, hk1728⟩ := bindE he
      replace he := hT1729
      refine wp_seqJ (fun a w => ∃ (v1717 : Value) (h1718 : Hp) (v1722 : Value) (h1723 : Hp) (f : Nat → Value), a = fr 112 f ∧ f 4 = (.pointer (some ⟨g953, 0, none⟩)) ∧ f 5 = (.pointer (some ⟨g971, 0, none⟩)) ∧ OwF 3 (FK.int .i64) v1717 s1727.1 h1718 ∧ OwF 3 (FK.int .i64) v1722 s1727.2 h1723 ∧ Mem w0 w (cat [sg g0 T0 fr0 pre0 [v1717, v1722] post0, sg g953 35 (0, 0) [] [(.int .i64 0), (.int .i64 0)] [], sg g971 35 (0, 0) [] [(.int .i64 0), (.int .i64 s985)] [], h1718, h1723, hF])) ?_ ?_
      ·
       refine wp_seq ?_
       refine wp_region_lit ?_
       refine s_val (v := (.pointer (some ⟨g949, 0, none⟩))) (won rfl) rfl rfl (x_field rfl fa_39x0 (ev (t := 3) (v := (.pointer (some ⟨g949, 0, none⟩))) rfl q1342)) ?_
       refine s_val (v := (.int .i64 a1.Kind)) (won rfl) rfl rfl (x_load rfl ty1x3 (ev (t := 95) rfl rfl) (seg_cell (o' := 0) (j := 0) hm1687 (k := 1) rfl rfl rfl)) ?_
       refine s_val (v := (.bool (decide (a1.Kind = 2)))) (won rfl) rfl rfl (x_eql rfl (ev (t := 96) rfl rfl) rfl) ?_
       refine wpList_nil ?_
       refine nx ?_
       rcases Bool.eq_false_or_eq_true ((decide (a1.Kind = 2))) with hb1730 | hb1730
       ·
        replace he := bifT he hb1730
        refine c_true rfl (p := (decide (a1.Kind = 2))) rfl rfl hb1730 ?_
        obtain ⟨hg1732, he⟩ := gdE he
        refine wp_fit [(0, 1), (1, 1), (2, 1), (3, 1), (4, 1), (5, 1), (6, 1), (7, 1), (8, 1), (9, 2)] (fun w' => Mem w0 w' (cat [sg g0 T0 fr0 pre0 [v0x0, v0x1] post0, sg g949 39 (0, 0) [] [(.int .i64 a1.Kind), (.int .i64 a1.Owner), (.int .i64 a1.To), (.int .i64 a1.Buffer)] [], sg g953 35 (0, 0) [] [(.int .i64 0), (.int .i64 0)] [], sg g971 35 (0, 0) [] [(.int .i64 0), (.int .i64 s985)] [], h0x0, hF])) mixed (by kernel_rfl) (Mem.drew (Mem.pick [0, 1, 2, 3, 4, 6] rfl hm1687)) ?_
        have hm1731 := Mem.drew hm1687
        refine z_r (v := (.pointer (some ⟨g0, o0, none⟩))) rfl (won rfl) rfl rfl ((x_move rfl (ev (t := 0) (v := (.pointer (some ⟨g0, o0, none⟩))) rfl q1341))) ?_
        refine z_r (v := (.pointer (some ⟨g0, o0, none⟩))) rfl (won rfl) rfl rfl ((x_nil rfl (ev (t := 98) rfl rfl))) ?_
        refine z_r (v := (.pointer (some ⟨g0, o0 + 1, none⟩))) rfl (won rfl) rfl rfl ((x_field rfl fa_28x1 (ev (t := 99) rfl rfl))) ?_
        refine z_r (v := v0x1) rfl (won rfl) rfl rfl ((x_load rfl ty1x26 (ev (t := 100) rfl rfl) (seg_cell (o' := o0) (j := 1) hm1731 (k := 0) rfl hp0 rfl))) ?_
        refine z_r (v := (.pointer (some ⟨g949, 3, none⟩))) rfl (won rfl) rfl rfl ((x_field rfl fa_39x3 (ev (t := 3) (v := (.pointer (some ⟨g949, 0, none⟩))) rfl q1342))) ?_
        refine z_r (v := (.int .i64 a1.Buffer)) rfl (won rfl) rfl rfl ((x_load rfl ty1x3 (ev (t := 102) rfl rfl) (seg_cell (o' := 0) (j := 3) hm1731 (k := 1) rfl rfl rfl))) ?_
        refine z_r (v := (.pointer (some ⟨g949, 2, none⟩))) rfl (won rfl) rfl rfl ((x_field rfl fa_39x2 (ev (t := 3) (v := (.pointer (some ⟨g949, 0, none⟩))) rfl q1342))) ?_
        refine z_r (v := (.int .i64 a1.To)) rfl (won rfl) rfl rfl ((x_load rfl ty1x3 (ev (t := 104) rfl rfl) (seg_cell (o' := 0) (j := 2) hm1731 (k := 1) rfl rfl rfl))) ?_
        refine z_r (v := (.pointer (some ((slA v0x1).add (Int.toNat a1.Buffer * 1))))) rfl (won rfl) rfl rfl ((x_index (d := (FK.int .i64)) rfl slt_26 (ev (t := 101) rfl rfl) (ev (t := 103) rfl rfl) (H0x1.rd w0) hg1732.1 hg1732.2)) ?_
        refine z_exw rfl (won rfl) rfl (e_storeF (d := (FK.int .i64)) (s := a1.To) (vs := [(.int .i64 a1.To)]) (j := 0) rfl sz_3 (ev (t := 106) rfl rfl) (add_0 _).symm (ev (t := 105) rfl rfl) rfl rfl H0x1 hg1732.1 hg1732.2 rfl rfl hm1731 (k := 5) rfl) ?_
        rintro h1733 w1735 ⟨H1734, hm1736⟩
        replace hm1736 : Mem w0 w1735 (cat [sg g0 T0 fr0 pre0 [v0x0, v0x1] post0, sg g949 39 (0, 0) [] [(.int .i64 a1.Kind), (.int .i64 a1.Owner), (.int .i64 a1.To), (.int .i64 a1.Buffer)] [], sg g953 35 (0, 0) [] [(.int .i64 0), (.int .i64 0)] [], sg g971 35 (0, 0) [] [(.int .i64 0), (.int .i64 s985)] [], h0x0, h1733, hF]) := hm1736
        refine ⟨Mem.pick [0, 1, 2, 3, 4, 6] rfl hm1736, ?_⟩
        refine z_nil ?_
        have hm1737 : Mem w0 w1735 (cat [sg g0 T0 fr0 pre0 [v0x0, v0x1] post0, sg g953 35 (0, 0) [] [(.int .i64 0), (.int .i64 0)] [], sg g971 35 (0, 0) [] [(.int .i64 0), (.int .i64 s985)] [], h0x0, h1733, hF]) := Mem.pick [0, 2, 3, 4, 5, 6] rfl hm1736
        refine nx ?_
        obtain rfl := Option.some.inj he
        exact ⟨v0x0, h0x0, v0x1, h1733, _, rfl, q1343, q1344, H0x0, H1734, Mem.pick [0, 1, 2, 3, 4, 5] rfl hm1737⟩
       ·
        replace he := bifF he hb1730
        refine c_false rfl (p := (decide (a1.Kind = 2))) rfl rfl hb1730 ?_
        obtain ⟨r1738, hr1738, he⟩ := bindE he
        refine wp_region_lit ?_
        refine s_val (v := (.pointer (some ⟨g0, o0, none⟩))) (won rfl) rfl rfl (x_move rfl (ev (t := 0) (v := (.pointer (some ⟨g0, o0, none⟩))) rfl q1341)) ?_
        refine s_val (v := (.pointer (some ⟨g949, 3, none⟩))) (won rfl) rfl rfl (x_field rfl fa_39x3 (ev (t := 3) (v := (.pointer (some ⟨g949, 0, none⟩))) rfl q1342)) ?_
        refine s_val (v := (.int .i64 a1.Buffer)) (won rfl) rfl rfl (x_load rfl ty1x3 (ev (t := 108) rfl rfl) (seg_cell (o' := 0) (j := 3) hm1687 (k := 1) rfl rfl rfl)) ?_
        refine s_call (won rfl) rfl rfl (x_call rfl rfl cl_86 (map_lit (map_cons (ev (t := 107) rfl rfl) (map_cons (ev (t := 109) rfl rfl) map_nil)))) (impl_Pool_release_ok (hR := (cat [])) (hF := cat [sg g949 39 (0, 0) [] [(.int .i64 a1.Kind), (.int .i64 a1.Owner), (.int .i64 a1.To), (.int .i64 a1.Buffer)] [], sg g953 35 (0, 0) [] [(.int .i64 0), (.int .i64 0)] [], sg g971 35 (0, 0) [] [(.int .i64 0), (.int .i64 s985)] [], hF]) a0 a1.Buffer H0x0 H0x1 hp0 (Mem.grp [sg g0 T0 fr0 pre0 [v0x0, v0x1] post0, h0x0, h0x1] [sg g949 39 (0, 0) [] [(.int .i64 a1.Kind), (.int .i64 a1.Owner), (.int .i64 a1.To), (.int .i64 a1.Buffer)] [], sg g953 35 (0, 0) [] [(.int .i64 0), (.int .i64 0)] [], sg g971 35 (0, 0) [] [(.int .i64 0), (.int .i64 s985)] [], hF] (Mem.pick [0, 4, 5, 1, 2, 3, 6] rfl hm1687)) hr1738) ?_
        rintro e w1747 ⟨v1740, h1742, v1744, h1746, rfl, H1741, H1745, hm1748⟩
        refine ⟨_, rfl, ?_⟩
        replace hm1748 : Mem w0 w1747 (cat [sg g0 T0 fr0 pre0 [v1740, v1744] post0, h1742, h1746, sg g949 39 (0, 0) [] [(.int .i64 a1.Kind), (.int .i64 a1.Owner), (.int .i64 a1.To), (.int .i64 a1.Buffer)] [], sg g953 35 (0, 0) [] [(.int .i64 0), (.int .i64 0)] [], sg g971 35 (0, 0) [] [(.int .i64 0), (.int .i64 s985)] [], hF]) := Mem.ung [sg g0 T0 fr0 pre0 [v1740, v1744] post0, h1742, h1746] [sg g949 39 (0, 0) [] [(.int .i64 a1.Kind), (.int .i64 a1.Owner), (.int .i64 a1.To), (.int .i64 a1.Buffer)] [], sg g953 35 (0, 0) [] [(.int .i64 0), (.int .i64 0)] [], sg g971 35 (0, 0) [] [(.int .i64 0), (.int .i64 s985)] [], hF] hm1748
        refine wpList_nil ?_
        have hm1749 : Mem w0 w1747 (cat [sg g0 T0 fr0 pre0 [v1740, v1744] post0, h1742, h1746, sg g953 35 (0, 0) [] [(.int .i64 0), (.int .i64 0)] [], sg g971 35 (0, 0) [] [(.int .i64 0), (.int .i64 s985)] [], hF]) := Mem.pick [0, 1, 2, 4, 5, 6] rfl hm1748
        refine nx ?_
        obtain rfl := Option.some.inj he
        exact ⟨v1740, h1742, v1744, h1746, _, rfl, q1343, q1344, H1741, H1745, Mem.pick [0, 3, 4, 1, 2, 5] rfl hm1749⟩
      ·
       rintro a w ⟨v1717, h1718, v1722, h1723, f, rfl, q1725, q1726, H1719, H1724, hm1751⟩
       replace he := hk1728
       refine wp_seq ?_
       refine wp_region_lit ?_
       refine s_val (v := (.agg #[(.int .i64 0), (.int .i64 s985)])) (won rfl) rfl rfl (x_loadN (vs := [(.int .i64 0), (.int .i64 s985)]) rfl tyN_35 (ev (t := 5) (v := (.pointer (some ⟨g971, 0, none⟩))) rfl q1726) (seg_cells (o' := 0) (j := 0) hm1751 (k := 2) rfl rfl rfl)) ?_
       refine s_exs (won rfl) rfl (e_store (vs := [(.int .i64 0), (.int .i64 s985)]) (o' := 0) (j := 0) rfl sz_35 (ev (t := 4) (v := (.pointer (some ⟨g953, 0, none⟩))) rfl q1725) (ev (t := 111) rfl rfl) rfl rfl hm1751 (k := 1) rfl rfl rfl) ?_
       intro w1752 hm1753
       replace hm1753 : Mem w0 w1752 (cat [sg g0 T0 fr0 pre0 [v1717, v1722] post0, sg g953 35 (0, 0) [] [(.int .i64 0), (.int .i64 s985)] [], sg g971 35 (0, 0) [] [(.int .i64 0), (.int .i64 s985)] [], h1718, h1723, hF]) := hm1753
       refine wpList_nil ?_
       have hm1754 : Mem w0 w1752 (cat [sg g0 T0 fr0 pre0 [v1717, v1722] post0, sg g953 35 (0, 0) [] [(.int .i64 0), (.int .i64 s985)] [], h1718, h1723, hF]) := Mem.pick [0, 1, 3, 4, 5] rfl hm1753
       refine nx ?_
       refine wp_ret ?_
       obtain rfl := Option.some.inj he
       refine r_ret (v := (.agg #[(.int .i64 0), (.int .i64 s985)])) (rv_one rfl (RVs.cell (cs := [(.int .i64 0), (.int .i64 s985)]) rfl q1725 tyN_35 (seg_cells (o' := 0) (j := 0) hm1754 (k := 1) rfl rfl rfl) RVs.nil)) rfl ?_
       exact ⟨v1717, h1718, v1722, h1723, rfl, H1719, H1724, Mem.pick [0, 2, 3, 4] rfl hm1754⟩
def impl_PoolRun_l1 (F : Nat) (a1 : (List impl_PoolAct)) : Nat → (List Int) → (List Int) → (List impl_PoolReply) → Int → Option ((List Int) × (List Int) × (List impl_PoolReply))
  | 0, _, _, _, _ => none
  | k + 1, s1027, s1031, s1036, s1042 => (bif (decide (s1042 < (a1.length : Int))) then gd ((0 : Int) ≤ s1042 ∧ s1042 < (a1.length : Int)) ((impl_Pool_act F (impl_Pool.mk s1027 s1031) (impl_PoolAct.mk (ix a1 s1042).Kind (ix a1 s1042).Owner (ix a1 s1042).To (ix a1 s1042).Buffer)).bind fun r1131 => gd ((0 : Int) ≤ s1042 ∧ s1042 < (s1036.length : Int)) (impl_PoolRun_l1 F a1 k r1131.2.Free r1131.2.Owner (List.set s1036 (Int.toNat s1042) r1131.1) (IntKind.wrap .i64 (s1042 + 1)))) else (some (s1027, s1031, s1036)))
def impl_PoolRun (F : Nat) (a0 : Int) (a1 : (List impl_PoolAct)) : Option (impl_Pool × (List impl_PoolReply) × Int) := (bif (decide ((4096 : Int) < (a1.length : Int))) then (some ((impl_Pool.mk ([] : List Int) ([] : List Int)), ([] : List impl_PoolReply), 2)) else (impl_NewPool F a0).bind fun r596 => (bif (!decide (r596.2 = 0)) then (some ((impl_Pool.mk ([] : List Int) ([] : List Int)), ([] : List impl_PoolReply), r596.2)) else (bif (decide ((300 : Int) < (a1.length : Int))) then (some ((impl_Pool.mk ([] : List Int) ([] : List Int)), ([] : List impl_PoolReply), 6)) else gd ((0 : Int) ≤ (a1.length : Int) ∧ (Int.toNat (a1.length : Int)) * 16 ≤ 140737488355328) ((impl_PoolRun_l1 F a1 F r596.1.Free r596.1.Owner (List.replicate (Int.toNat (a1.length : Int)) (impl_PoolReply.mk 0 0)) 0 : Option ((List Int) × (List Int) × (List impl_PoolReply))).bind fun (s904 : ((List Int) × (List Int) × (List impl_PoolReply))) => (some ((impl_Pool.mk s904.1 s904.2.1), s904.2.2, 0))))))
set_option maxHeartbeats 400000 in
set_option maxRecDepth 100000 in
theorem impl_PoolRun_ok (F : Nat) {w0 w : World} {hR hF : Hp} {v1x0 : Value} (a0 : Int) (a1 : (List impl_PoolAct)) {r : (impl_Pool × (List impl_PoolReply) × Int)} (H1x0 : RdF w0 impl_PoolAct.K v1x0 a1 hR) (hs : Sub hR hF) (hm : Mem w0 w (cat [hF])) (he : impl_PoolRun F a0 a1 = some r) :
    Calls Try.prog 12 #[(.int .i64 a0), v1x0] w (fun e w' => ∃ (v'0 : Value) (h'0 : Hp) (v'1 : Value) (h'1 : Hp) (v'2 : Value) (h'2 : Hp), e = .returned (.tuple #[(.agg #[v'0, v'1]), v'2, (.int .i64 r.2.2)]) ∧ OwF 3 (FK.int .i64) v'0 r.1.Free h'0 ∧ OwF 3 (FK.int .i64) v'1 r.1.Owner h'1 ∧ OwF 35 impl_PoolReply.K v'2 r.2.1 h'2 ∧ Mem w0 w' (cat [h'0, h'1, h'2, hF])) := by
 refine calls_fr (n := 47) Try.func12 rfl rfl rfl ?_
 unfold impl_PoolRun at he
 refine wp_seq ?_
 refine wp_region_lit ?_
 refine s_exv (won rfl) rfl rfl (e_alloc (vs := [(.slice none 0 0), (.slice none 0 0)]) rfl zt_28 rfl hm) ?_
 rintro g579 w580 hm581
 refine s_val (v := (.slice none 0 0)) (won rfl) rfl rfl (x_assign rfl rfl) ?_
 refine s_val (v := (.int .i64 0)) (won rfl) rfl rfl (x_assign rfl rfl) ?_
 refine wpList_nil ?_
 refine nx ?_
 refine wp_seq ?_
 refine wp_seq ?_
 refine wp_region_lit ?_
 refine s_val (v := v1x0) (won rfl) rfl rfl (x_move rfl (ev (t := 1) rfl rfl)) ?_
 refine s_val (v := (.int .i64 (a1.length : Int))) (won rfl) rfl rfl (x_len rfl slt_24 (ev (t := 12) rfl rfl) (H1x0).sl) ?_
 refine s_val (v := (.bool (decide ((4096 : Int) < (a1.length : Int))))) (won rfl) rfl rfl (x_gtr rfl (ev (t := 13) rfl rfl) rfl) ?_
 refine wpList_nil ?_
 refine nx ?_
 rcases Bool.eq_false_or_eq_true ((decide ((4096 : Int) < (a1.length : Int)))) with hb590 | hb590
 ·
  replace he := bifT he hb590
  refine c_true rfl (p := (decide ((4096 : Int) < (a1.length : Int)))) rfl rfl hb590 ?_
  refine wp_seq ?_
  refine wp_region_lit ?_
  refine s_val (v := (.agg #[(.slice none 0 0), (.slice none 0 0)])) (won rfl) rfl rfl (x_build (cells := [(.slice none 0 0), (.slice none 0 0)]) (zc := [.slice none 0 0, .slice none 0 0]) (sizes := [(0, 1), (1, 1)]) (ps := []) rfl zt_28 rfl uf_28 ufz_28 (pmap_lit pmap_nil) fill_nil) ?_
  refine s_exs (won rfl) rfl (e_store (vs := [(.slice none 0 0), (.slice none 0 0)]) (o' := 0) (j := 0) rfl sz_28 (ev (t := 4) rfl rfl) (ev (t := 15) rfl rfl) rfl rfl hm581 (k := 0) rfl rfl rfl) ?_
  intro w593 hm594
  replace hm594 : Mem w0 w593 (cat [sg g579 28 (0, 0) [] [(.slice none 0 0), (.slice none 0 0)] [], hF]) := hm594
  refine s_val (v := (.slice none 0 0)) (won rfl) rfl rfl (x_assign rfl rfl) ?_
  refine s_val (v := (.int .i64 2)) (won rfl) rfl rfl (x_assign rfl rfl) ?_
  refine wpList_nil ?_
  refine nx ?_
  refine wp_ret ?_
  refine xr ?_
  obtain rfl := Option.some.inj he
  refine r_ret (v := (.tuple #[(.agg #[(.slice none 0 0), (.slice none 0 0)]), (.slice none 0 0), (.int .i64 2)])) (rv_list rfl rfl (RVs.cell (cs := [(.slice none 0 0), (.slice none 0 0)]) rfl rfl tyN_28 (seg_cells (o' := 0) (j := 0) hm594 (k := 0) rfl rfl rfl) (RVs.tmp (v := (.slice none 0 0)) rfl rfl (RVs.tmp (v := (.int .i64 2)) rfl rfl RVs.nil)))) rfl ?_
  exact ⟨(.slice none 0 0), [], (.slice none 0 0), [], (.slice none 0 0), [], rfl, (OwF.nil 3 (FK.int .i64)), (OwF.nil 3 (FK.int .i64)), (OwF.nil 35 impl_PoolReply.K), Mem.pick [1000, 1001, 1002, 1] rfl hm594⟩
 ·
  replace he := bifF he hb590
  refine c_false rfl (p := (decide ((4096 : Int) < (a1.length : Int)))) rfl rfl hb590 ?_
  refine wp_skip ?_
  refine nx ?_
  refine wp_seq ?_
  obtain ⟨r596, hr596, he⟩ := bindE he
  refine wp_region_lit ?_
  refine s_val (v := (.int .i64 a0)) (won rfl) rfl rfl (x_move rfl (ev (t := 0) rfl rfl)) ?_
  refine s_call (won rfl) rfl rfl (x_call rfl rfl cl_11 (map_lit (map_cons (ev (t := 17) rfl rfl) map_nil))) (impl_NewPool_ok F (hR := (cat [])) (hF := cat [sg g579 28 (0, 0) [] [(.slice none 0 0), (.slice none 0 0)] [], hF]) a0  (Mem.one hm581) hr596) ?_
  rintro e w605 ⟨v598, h600, v602, h604, rfl, H599, H603, hm606⟩
  refine ⟨_, rfl, ?_⟩
  replace hm606 : Mem w0 w605 (cat [h600, h604, sg g579 28 (0, 0) [] [(.slice none 0 0), (.slice none 0 0)] [], hF]) := Mem.ung [h600, h604] [sg g579 28 (0, 0) [] [(.slice none 0 0), (.slice none 0 0)] [], hF] hm606
  refine s_val (v := (.tuple #[(.agg #[v598, v602]), (.int .i64 r596.2)])) (won rfl) rfl rfl (x_move rfl (ev (t := 18) rfl rfl)) ?_
  refine s_val (v := (.agg #[v598, v602])) (won rfl) rfl rfl (x_extract rfl (ev (t := 16) rfl rfl) rfl) ?_
  refine s_val (v := (.int .i64 r596.2)) (won rfl) rfl rfl (x_extract rfl (ev (t := 16) rfl rfl) rfl) ?_
  refine s_exv (won rfl) rfl rfl (e_alloc (vs := [(.slice none 0 0), (.slice none 0 0)]) rfl zt_28 rfl hm606) ?_
  rintro g609 w610 hm611
  refine s_exs (won rfl) rfl (e_store (vs := [v598, v602]) (o' := 0) (j := 0) rfl sz_28 (ev (t := 7) rfl rfl) (ev (t := 19) rfl rfl) rfl (one_cons (IsSl.one (H599).sl) (one_cons (IsSl.one (H603).sl) one_nil)) hm611 (k := 0) rfl rfl rfl) ?_
  intro w613 hm614
  replace hm614 : Mem w0 w613 (cat [sg g609 28 (0, 0) [] [v598, v602] [], h600, h604, sg g579 28 (0, 0) [] [(.slice none 0 0), (.slice none 0 0)] [], hF]) := hm614
  refine s_val (v := (.int .i64 r596.2)) (won rfl) rfl rfl (x_assign rfl (ev (t := 20) rfl rfl)) ?_
  refine wpList_nil ?_
  refine nx ?_
  refine wp_seq ?_
  refine wp_seq ?_
  refine wp_region_lit ?_
  refine s_val (v := (.int .i64 r596.2)) (won rfl) rfl rfl (x_move rfl (ev (t := 8) rfl rfl)) ?_
  refine s_val (v := (.bool (!decide (r596.2 = 0)))) (won rfl) rfl rfl (x_neq rfl (ev (t := 21) rfl rfl) rfl) ?_
  refine wpList_nil ?_
  refine nx ?_
  rcases Bool.eq_false_or_eq_true ((!decide (r596.2 = 0))) with hb622 | hb622
  ·
   replace he := bifT he hb622
   refine c_true rfl (p := (!decide (r596.2 = 0))) rfl rfl hb622 ?_
   refine wp_seq ?_
   refine wp_region_lit ?_
   refine s_val (v := (.agg #[(.slice none 0 0), (.slice none 0 0)])) (won rfl) rfl rfl (x_build (cells := [(.slice none 0 0), (.slice none 0 0)]) (zc := [.slice none 0 0, .slice none 0 0]) (sizes := [(0, 1), (1, 1)]) (ps := []) rfl zt_28 rfl uf_28 ufz_28 (pmap_lit pmap_nil) fill_nil) ?_
   refine s_val (v := (.int .i64 r596.2)) (won rfl) rfl rfl (x_move rfl (ev (t := 8) rfl rfl)) ?_
   refine s_exs (won rfl) rfl (e_store (vs := [(.slice none 0 0), (.slice none 0 0)]) (o' := 0) (j := 0) rfl sz_28 (ev (t := 4) rfl rfl) (ev (t := 23) rfl rfl) rfl rfl hm614 (k := 3) rfl rfl rfl) ?_
   intro w625 hm626
   replace hm626 : Mem w0 w625 (cat [sg g609 28 (0, 0) [] [v598, v602] [], h600, h604, sg g579 28 (0, 0) [] [(.slice none 0 0), (.slice none 0 0)] [], hF]) := hm626
   refine s_val (v := (.slice none 0 0)) (won rfl) rfl rfl (x_assign rfl rfl) ?_
   refine s_val (v := (.int .i64 r596.2)) (won rfl) rfl rfl (x_assign rfl (ev (t := 24) rfl rfl)) ?_
   refine wpList_nil ?_
   have hm628 : Mem w0 w625 (cat [sg g579 28 (0, 0) [] [(.slice none 0 0), (.slice none 0 0)] [], hF]) := Mem.pick [3, 4] rfl hm626
   refine nx ?_
   refine wp_ret ?_
   refine xr ?_
   obtain rfl := Option.some.inj he
   refine r_ret (v := (.tuple #[(.agg #[(.slice none 0 0), (.slice none 0 0)]), (.slice none 0 0), (.int .i64 r596.2)])) (rv_list rfl rfl (RVs.cell (cs := [(.slice none 0 0), (.slice none 0 0)]) rfl rfl tyN_28 (seg_cells (o' := 0) (j := 0) hm628 (k := 0) rfl rfl rfl) (RVs.tmp (v := (.slice none 0 0)) rfl rfl (RVs.tmp (v := (.int .i64 r596.2)) rfl rfl RVs.nil)))) rfl ?_
   exact ⟨(.slice none 0 0), [], (.slice none 0 0), [], (.slice none 0 0), [], rfl, (OwF.nil 3 (FK.int .i64)), (OwF.nil 3 (FK.int .i64)), (OwF.nil 35 impl_PoolReply.K), Mem.pick [1000, 1001, 1002, 1] rfl hm628⟩
  ·
   replace he := bifF he hb622
   refine c_false rfl (p := (!decide (r596.2 = 0))) rfl rfl hb622 ?_
   refine wp_skip ?_
   refine nx ?_
   refine wp_seq ?_
   refine wp_seq ?_
   refine wp_region_lit ?_
   refine s_val (v := v1x0) (won rfl) rfl rfl (x_move rfl (ev (t := 1) rfl rfl)) ?_
   refine s_val (v := (.int .i64 (a1.length : Int))) (won rfl) rfl rfl (x_len rfl slt_24 (ev (t := 25) rfl rfl) (H1x0).sl) ?_
   refine s_val (v := (.bool (decide ((300 : Int) < (a1.length : Int))))) (won rfl) rfl rfl (x_gtr rfl (ev (t := 26) rfl rfl) rfl) ?_
   refine wpList_nil ?_
   refine nx ?_
   rcases Bool.eq_false_or_eq_true ((decide ((300 : Int) < (a1.length : Int)))) with hb636 | hb636
   ·
    replace he := bifT he hb636
    refine c_true rfl (p := (decide ((300 : Int) < (a1.length : Int)))) rfl rfl hb636 ?_
    refine wp_seq ?_
    refine wp_region_lit ?_
    refine s_val (v := (.agg #[(.slice none 0 0), (.slice none 0 0)])) (won rfl) rfl rfl (x_build (cells := [(.slice none 0 0), (.slice none 0 0)]) (zc := [.slice none 0 0, .slice none 0 0]) (sizes := [(0, 1), (1, 1)]) (ps := []) rfl zt_28 rfl uf_28 ufz_28 (pmap_lit pmap_nil) fill_nil) ?_
    refine s_exs (won rfl) rfl (e_store (vs := [(.slice none 0 0), (.slice none 0 0)]) (o' := 0) (j := 0) rfl sz_28 (ev (t := 4) rfl rfl) (ev (t := 28) rfl rfl) rfl rfl hm614 (k := 3) rfl rfl rfl) ?_
    intro w639 hm640
    replace hm640 : Mem w0 w639 (cat [sg g609 28 (0, 0) [] [v598, v602] [], h600, h604, sg g579 28 (0, 0) [] [(.slice none 0 0), (.slice none 0 0)] [], hF]) := hm640
    refine s_val (v := (.slice none 0 0)) (won rfl) rfl rfl (x_assign rfl rfl) ?_
    refine s_val (v := (.int .i64 6)) (won rfl) rfl rfl (x_assign rfl rfl) ?_
    refine wpList_nil ?_
    have hm642 : Mem w0 w639 (cat [sg g579 28 (0, 0) [] [(.slice none 0 0), (.slice none 0 0)] [], hF]) := Mem.pick [3, 4] rfl hm640
    refine nx ?_
    refine wp_ret ?_
    refine xr ?_
    obtain rfl := Option.some.inj he
    refine r_ret (v := (.tuple #[(.agg #[(.slice none 0 0), (.slice none 0 0)]), (.slice none 0 0), (.int .i64 6)])) (rv_list rfl rfl (RVs.cell (cs := [(.slice none 0 0), (.slice none 0 0)]) rfl rfl tyN_28 (seg_cells (o' := 0) (j := 0) hm642 (k := 0) rfl rfl rfl) (RVs.tmp (v := (.slice none 0 0)) rfl rfl (RVs.tmp (v := (.int .i64 6)) rfl rfl RVs.nil)))) rfl ?_
    exact ⟨(.slice none 0 0), [], (.slice none 0 0), [], (.slice none 0 0), [], rfl, (OwF.nil 3 (FK.int .i64)), (OwF.nil 3 (FK.int .i64)), (OwF.nil 35 impl_PoolReply.K), Mem.pick [1000, 1001, 1002, 1] rfl hm642⟩
   ·
    replace he := bifF he hb636
    refine c_false rfl (p := (decide ((300 : Int) < (a1.length : Int)))) rfl rfl hb636 ?_
    refine wp_skip ?_
    refine nx ?_
    refine wp_seq ?_
    obtain ⟨hg643, he⟩ := gdE he
    refine wp_region_lit ?_
    refine s_val (v := v1x0) (won rfl) rfl rfl (x_move rfl (ev (t := 1) rfl rfl)) ?_
    refine s_val (v := (.int .i64 (a1.length : Int))) (won rfl) rfl rfl (x_len rfl slt_24 (ev (t := 29) rfl rfl) (H1x0).sl) ?_
    refine s_exv (won rfl) rfl rfl (e_make (d := impl_PoolReply.K) (a := (impl_PoolReply.mk 0 0)) rfl slt_31 rfl (ev (t := 30) rfl rfl) (ev (t := 30) rfl rfl) hg643.1 hg643.2 (by have := hg643; omega) hm614) ?_
    rintro p645 w647 ⟨H646, hm648⟩
    replace hm648 : Mem w0 w647 (cat [p645.2, sg g609 28 (0, 0) [] [v598, v602] [], h600, h604, sg g579 28 (0, 0) [] [(.slice none 0 0), (.slice none 0 0)] [], hF]) := hm648
    refine s_val (v := p645.1) (won rfl) rfl rfl (x_assign rfl (ev (t := 31) rfl rfl)) ?_
    refine wpList_nil ?_
    refine nx ?_
    obtain ⟨s904, hT906, hk905⟩ := bindE he
    replace he := hT906
    refine wp_seqJ (fun a w => ∃ (v892 : Value) (h893 : Hp) (v896 : Value) (h897 : Hp) (h901 : Hp) (f : Nat → Value), a = fr 47 f ∧ f 4 = (.pointer (some ⟨g579, 0, none⟩)) ∧ f 7 = (.pointer (some ⟨g609, 0, none⟩)) ∧ f 9 = p645.1 ∧ OwF 3 (FK.int .i64) v892 s904.1 h893 ∧ OwF 3 (FK.int .i64) v896 s904.2.1 h897 ∧ OwF 35 impl_PoolReply.K p645.1 s904.2.2 h901 ∧ Mem w0 w (cat [sg g579 28 (0, 0) [] [(.slice none 0 0), (.slice none 0 0)] [], sg g609 28 (0, 0) [] [v892, v896] [], h893, h897, h901, hF])) ?_ ?_
    ·
     refine wp_seq ?_
     refine wp_region_lit ?_
     refine s_val (v := v1x0) (won rfl) rfl rfl (x_move rfl (ev (t := 1) rfl rfl)) ?_
     refine s_val (v := (.int .i64 (a1.length : Int))) (won rfl) rfl rfl (x_len rfl slt_24 (ev (t := 32) rfl rfl) (H1x0).sl) ?_
     refine s_val (v := (.int .i64 0)) (won rfl) rfl rfl (x_move rfl rfl) ?_
     refine wpList_nil ?_
     refine nx ?_
     refine wp_block ?_
     refine wp_fuel (I := fun k => fun a w => ∃ (s1027 : (List Int)) (s1031 : (List Int)) (s1036 : (List impl_PoolReply)) (s1042 : Int) (v1028 : Value) (h1029 : Hp) (v1032 : Value) (h1033 : Hp) (h1037 : Hp) (f : Nat → Value), impl_PoolRun_l1 F a1 k s1027 s1031 s1036 s1042 = some s904 ∧ a = fr 47 f ∧ f 4 = (.pointer (some ⟨g579, 0, none⟩)) ∧ f 7 = (.pointer (some ⟨g609, 0, none⟩)) ∧ f 9 = p645.1 ∧ f 32 = v1x0 ∧ f 33 = (.int .i64 (a1.length : Int)) ∧ f 34 = (.int .i64 s1042) ∧ OwF 3 (FK.int .i64) v1028 s1027 h1029 ∧ OwF 3 (FK.int .i64) v1032 s1031 h1033 ∧ OwF 35 impl_PoolReply.K p645.1 s1036 h1037 ∧ Mem w0 w (cat [sg g579 28 (0, 0) [] [(.slice none 0 0), (.slice none 0 0)] [], sg g609 28 (0, 0) [] [v1028, v1032] [], h1029, h1033, h1037, hF])) F _ _ ⟨r596.1.Free, r596.1.Owner, (List.replicate (Int.toNat (a1.length : Int)) (impl_PoolReply.mk 0 0)), 0, v598, h600, v602, h604, p645.2, _, he, rfl, rfl, rfl, rfl, rfl, rfl, rfl, H599, H603, H646, Mem.pick [4, 1, 2, 3, 0, 5] rfl hm648⟩ ?_ ?_
     ·
      rintro a w ⟨s1027, s1031, s1036, s1042, v1028, h1029, v1032, h1033, h1037, f, he, rfl, q1026, q1035, q1039, q1040, q1041, q1043, H1030, H1034, H1038, hm1095⟩
      rw [impl_PoolRun_l1] at he; exact none_no he
     ·
      rintro k a w ⟨s1027, s1031, s1036, s1042, v1028, h1029, v1032, h1033, h1037, f, he, rfl, q1026, q1035, q1039, q1040, q1041, q1043, H1030, H1034, H1038, hm1097⟩
      rw [impl_PoolRun_l1] at he
      refine wp_seq ?_
      refine wp_region_lit ?_
      refine s_val (v := (.bool (decide (s1042 < (a1.length : Int))))) (won rfl) rfl rfl (x_lss rfl (ev (t := 34) (v := (.int .i64 s1042)) rfl q1043) (ev (t := 33) (v := (.int .i64 (a1.length : Int))) rfl q1041)) ?_
      refine wpList_nil ?_
      refine nx ?_
      refine wp_seq ?_
      rcases Bool.eq_false_or_eq_true ((decide (s1042 < (a1.length : Int)))) with hb1099 | hb1099
      ·
       replace he := bifT he hb1099
       refine c_true rfl (p := (decide (s1042 < (a1.length : Int)))) rfl rfl hb1099 ?_
       refine wp_skip ?_
       refine nx ?_
       refine wp_seq ?_
       refine wp_block ?_
       refine wp_seq ?_
       obtain ⟨hg1124, he⟩ := gdE he
       refine wp_region_lit ?_
       refine s_val (v := (.int .i64 s1042)) (won rfl) rfl rfl (x_move rfl (ev (t := 34) (v := (.int .i64 s1042)) rfl q1043)) ?_
       refine s_val (v := (.pointer (some ((slA v1x0).add (Int.toNat s1042 * 4))))) (won rfl) rfl rfl (x_index (d := impl_PoolAct.K) rfl slt_24 (ev (t := 32) (v := v1x0) rfl q1040) (ev (t := 34) (v := (.int .i64 s1042)) rfl q1043) H1x0 hg1124.1 hg1124.2) ?_
       refine s_val (v := (.agg #[(.int .i64 (ix a1 s1042).Kind), (.int .i64 (ix a1 s1042).Owner), (.int .i64 (ix a1 s1042).To), (.int .i64 (ix a1 s1042).Buffer)])) (won rfl) rfl rfl (x_loadN (vs := [(.int .i64 (ix a1 s1042).Kind), (.int .i64 (ix a1 s1042).Owner), (.int .i64 (ix a1 s1042).To), (.int .i64 (ix a1 s1042).Buffer)]) rfl tyN_39 (ev (t := 37) rfl rfl) (RdF.cells H1x0 hm1097 (Sub.trans hs (Sub.at_ (k := 5) rfl)) hg1124.1 hg1124.2)) ?_
       refine s_exv (won rfl) rfl rfl (e_alloc (vs := [(.int .i64 0), (.int .i64 0), (.int .i64 0), (.int .i64 0)]) rfl zt_39 rfl hm1097) ?_
       rintro g1125 w1126 hm1127
       refine s_val (v := (.int .i64 s1042)) (won rfl) rfl rfl (x_assign rfl (ev (t := 36) rfl rfl)) ?_
       refine s_exs (won rfl) rfl (e_store (vs := [(.int .i64 (ix a1 s1042).Kind), (.int .i64 (ix a1 s1042).Owner), (.int .i64 (ix a1 s1042).To), (.int .i64 (ix a1 s1042).Buffer)]) (o' := 0) (j := 0) rfl sz_39 (ev (t := 11) rfl rfl) (ev (t := 38) rfl rfl) rfl rfl hm1127 (k := 0) rfl rfl rfl) ?_
       intro w1129 hm1130
       replace hm1130 : Mem w0 w1129 (cat [sg g1125 39 (0, 0) [] [(.int .i64 (ix a1 s1042).Kind), (.int .i64 (ix a1 s1042).Owner), (.int .i64 (ix a1 s1042).To), (.int .i64 (ix a1 s1042).Buffer)] [], sg g579 28 (0, 0) [] [(.slice none 0 0), (.slice none 0 0)] [], sg g609 28 (0, 0) [] [v1028, v1032] [], h1029, h1033, h1037, hF]) := hm1130
       refine wpList_nil ?_
       refine nx ?_
       obtain ⟨r1131, hr1131, he⟩ := bindE he
       obtain ⟨hg1142, he⟩ := gdE he
       refine wp_region_lit ?_
       refine s_val (v := p645.1) (won rfl) rfl rfl (x_move rfl (ev (t := 9) (v := p645.1) rfl q1039)) ?_
       refine s_val (v := (.int .i64 s1042)) (won rfl) rfl rfl (x_move rfl (ev (t := 10) rfl rfl)) ?_
       refine s_val (v := (.agg #[(.int .i64 (ix a1 s1042).Kind), (.int .i64 (ix a1 s1042).Owner), (.int .i64 (ix a1 s1042).To), (.int .i64 (ix a1 s1042).Buffer)])) (won rfl) rfl rfl (x_loadN (vs := [(.int .i64 (ix a1 s1042).Kind), (.int .i64 (ix a1 s1042).Owner), (.int .i64 (ix a1 s1042).To), (.int .i64 (ix a1 s1042).Buffer)]) rfl tyN_39 (ev (t := 11) rfl rfl) (seg_cells (o' := 0) (j := 0) hm1130 (k := 0) rfl rfl rfl)) ?_
       refine s_call (won rfl) rfl rfl (x_call rfl rfl cl_59 (map_lit (map_cons (ev (t := 7) (v := (.pointer (some ⟨g609, 0, none⟩))) rfl q1035) (map_cons (ev (t := 41) rfl rfl) map_nil)))) (impl_Pool_act_ok F (hR := (cat [])) (hF := cat [sg g1125 39 (0, 0) [] [(.int .i64 (ix a1 s1042).Kind), (.int .i64 (ix a1 s1042).Owner), (.int .i64 (ix a1 s1042).To), (.int .i64 (ix a1 s1042).Buffer)] [], sg g579 28 (0, 0) [] [(.slice none 0 0), (.slice none 0 0)] [], h1037, hF]) (impl_Pool.mk s1027 s1031) (impl_PoolAct.mk (ix a1 s1042).Kind (ix a1 s1042).Owner (ix a1 s1042).To (ix a1 s1042).Buffer) H1030 H1034 rfl (Mem.grp [sg g609 28 (0, 0) [] [v1028, v1032] [], h1029, h1033] [sg g1125 39 (0, 0) [] [(.int .i64 (ix a1 s1042).Kind), (.int .i64 (ix a1 s1042).Owner), (.int .i64 (ix a1 s1042).To), (.int .i64 (ix a1 s1042).Buffer)] [], sg g579 28 (0, 0) [] [(.slice none 0 0), (.slice none 0 0)] [], h1037, hF] (Mem.pick [2, 3, 4, 0, 1, 5, 6] rfl hm1130)) hr1131) ?_
       rintro e w1140 ⟨v1133, h1135, v1137, h1139, rfl, H1134, H1138, hm1141⟩
       refine ⟨_, rfl, ?_⟩
       replace hm1141 : Mem w0 w1140 (cat [sg g609 28 (0, 0) [] [v1133, v1137] [], h1135, h1139, sg g1125 39 (0, 0) [] [(.int .i64 (ix a1 s1042).Kind), (.int .i64 (ix a1 s1042).Owner), (.int .i64 (ix a1 s1042).To), (.int .i64 (ix a1 s1042).Buffer)] [], sg g579 28 (0, 0) [] [(.slice none 0 0), (.slice none 0 0)] [], h1037, hF]) := Mem.ung [sg g609 28 (0, 0) [] [v1133, v1137] [], h1135, h1139] [sg g1125 39 (0, 0) [] [(.int .i64 (ix a1 s1042).Kind), (.int .i64 (ix a1 s1042).Owner), (.int .i64 (ix a1 s1042).To), (.int .i64 (ix a1 s1042).Buffer)] [], sg g579 28 (0, 0) [] [(.slice none 0 0), (.slice none 0 0)] [], h1037, hF] hm1141
       refine s_val (v := (.pointer (some ((slA p645.1).add (Int.toNat s1042 * 2))))) (won rfl) rfl rfl (x_index (d := impl_PoolReply.K) rfl slt_31 (ev (t := 39) rfl rfl) (ev (t := 40) rfl rfl) (H1038.rd w0) hg1142.1 hg1142.2) ?_
       refine s_exw (won rfl) rfl (e_storeF (d := impl_PoolReply.K) (s := r1131.1) (vs := [(.int .i64 r1131.1.Code), (.int .i64 r1131.1.Buffer)]) (j := 0) rfl sz_35 (ev (t := 43) rfl rfl) (add_0 _).symm (ev (t := 42) rfl rfl) rfl rfl H1038 hg1142.1 hg1142.2 rfl rfl hm1141 (k := 5) rfl) ?_
       rintro h1143 w1145 ⟨H1144, hm1146⟩
       replace hm1146 : Mem w0 w1145 (cat [sg g609 28 (0, 0) [] [v1133, v1137] [], h1135, h1139, sg g1125 39 (0, 0) [] [(.int .i64 (ix a1 s1042).Kind), (.int .i64 (ix a1 s1042).Owner), (.int .i64 (ix a1 s1042).To), (.int .i64 (ix a1 s1042).Buffer)] [], sg g579 28 (0, 0) [] [(.slice none 0 0), (.slice none 0 0)] [], h1143, hF]) := hm1146
       refine wpList_nil ?_
       have hm1147 : Mem w0 w1145 (cat [sg g609 28 (0, 0) [] [v1133, v1137] [], h1135, h1139, sg g579 28 (0, 0) [] [(.slice none 0 0), (.slice none 0 0)] [], h1143, hF]) := Mem.pick [0, 1, 2, 4, 5, 6] rfl hm1146
       refine nb ?_
       refine nx ?_
       refine wp_region_lit ?_
       refine s_val (v := (.int .i64 (IntKind.wrap .i64 (s1042 + 1)))) (won rfl) rfl rfl (x_add rfl (ev (t := 34) (v := (.int .i64 s1042)) rfl q1043) rfl) ?_
       refine s_val (v := (.int .i64 (IntKind.wrap .i64 (s1042 + 1)))) (won rfl) rfl rfl (x_move rfl (ev (t := 44) rfl rfl)) ?_
       refine wpList_nil ?_
       refine nx ?_
       exact ⟨r1131.2.Free, r1131.2.Owner, (List.set s1036 (Int.toNat s1042) r1131.1), (IntKind.wrap .i64 (s1042 + 1)), v1133, h1135, v1137, h1139, h1143, _, he, rfl, q1026, q1035, q1039, q1040, q1041, rfl, H1134, H1138, H1144, Mem.pick [3, 0, 1, 2, 4, 5] rfl hm1147⟩
      ·
       replace he := bifF he hb1099
       refine c_false rfl (p := (decide (s1042 < (a1.length : Int)))) rfl rfl hb1099 ?_
       refine wp_exit ?_
       refine xs ?_
       refine xs ?_
       refine xb ?_
       refine nx ?_
       obtain rfl := Option.some.inj he
       exact ⟨v1028, h1029, v1032, h1033, h1037, _, rfl, q1026, q1035, q1039, H1030, H1034, H1038, Mem.pick [0, 1, 2, 3, 4, 5] rfl hm1097⟩
    ·
     rintro a w ⟨v892, h893, v896, h897, h901, f, rfl, q890, q899, q903, H894, H898, H902, hm1149⟩
     replace he := hk905
     refine wp_seq ?_
     refine wp_region_lit ?_
     refine s_val (v := (.agg #[v892, v896])) (won rfl) rfl rfl (x_loadN (vs := [v892, v896]) rfl tyN_28 (ev (t := 7) (v := (.pointer (some ⟨g609, 0, none⟩))) rfl q899) (seg_cells (o' := 0) (j := 0) hm1149 (k := 1) rfl rfl rfl)) ?_
     refine s_val (v := p645.1) (won rfl) rfl rfl (x_move rfl (ev (t := 9) (v := p645.1) rfl q903)) ?_
     refine s_exs (won rfl) rfl (e_store (vs := [v892, v896]) (o' := 0) (j := 0) rfl sz_28 (ev (t := 4) (v := (.pointer (some ⟨g579, 0, none⟩))) rfl q890) (ev (t := 45) rfl rfl) rfl (one_cons (IsSl.one (H894).sl) (one_cons (IsSl.one (H898).sl) one_nil)) hm1149 (k := 0) rfl rfl rfl) ?_
     intro w1150 hm1151
     replace hm1151 : Mem w0 w1150 (cat [sg g579 28 (0, 0) [] [v892, v896] [], sg g609 28 (0, 0) [] [v892, v896] [], h893, h897, h901, hF]) := hm1151
     refine s_val (v := p645.1) (won rfl) rfl rfl (x_assign rfl (ev (t := 46) rfl rfl)) ?_
     refine s_val (v := (.int .i64 0)) (won rfl) rfl rfl (x_assign rfl rfl) ?_
     refine wpList_nil ?_
     have hm1152 : Mem w0 w1150 (cat [sg g579 28 (0, 0) [] [v892, v896] [], h893, h897, h901, hF]) := Mem.pick [0, 2, 3, 4, 5] rfl hm1151
     refine nx ?_
     refine wp_ret ?_
     obtain rfl := Option.some.inj he
     refine r_ret (v := (.tuple #[(.agg #[v892, v896]), p645.1, (.int .i64 0)])) (rv_list rfl rfl (RVs.cell (cs := [v892, v896]) rfl q890 tyN_28 (seg_cells (o' := 0) (j := 0) hm1152 (k := 0) rfl rfl rfl) (RVs.tmp (v := p645.1) rfl rfl (RVs.tmp (v := (.int .i64 0)) rfl rfl RVs.nil)))) rfl ?_
     exact ⟨v892, h893, v896, h897, p645.1, h901, rfl, H894, H898, H902, Mem.pick [1, 2, 3, 4] rfl hm1152⟩
def laws_eqIntS_l1 (F : Nat) (a0 : (List Int)) (a1 : (List Int)) : Nat → Int → Option (Fl (Bool) (Unit))
  | 0, _ => none
  | k + 1, s173 => (bif (decide (s173 < (a0.length : Int))) then gd ((0 : Int) ≤ s173 ∧ s173 < (a0.length : Int)) (gd ((0 : Int) ≤ s173 ∧ s173 < (a1.length : Int)) ((bif (!decide ((ix a0 s173) = (ix a1 s173))) then (some (Fl.out false)) else laws_eqIntS_l1 F a0 a1 k (IntKind.wrap .i64 (s173 + 1))))) else (some (Fl.go ())))
def laws_eqIntS (F : Nat) (a0 : (List Int)) (a1 : (List Int)) : Option (Bool) := (bif (!decide ((a0.length : Int) = (a1.length : Int))) then (some false) else (laws_eqIntS_l1 F a0 a1 F 0 : Option (Fl (Bool) (Unit))).bind fun l153 => l153.on fun (s152 : (Unit)) => (some true))
set_option maxHeartbeats 400000 in
set_option maxRecDepth 100000 in
theorem laws_eqIntS_ok (F : Nat) {w0 w : World} {hR hF : Hp} {v0x0 : Value} {v1x0 : Value} (a0 : (List Int)) (a1 : (List Int)) {r : (Bool)} (H0x0 : RdF w0 (FK.int .i64) v0x0 a0 hR) (H1x0 : RdF w0 (FK.int .i64) v1x0 a1 hR) (hs : Sub hR hF) (hm : Mem w0 w (cat [hF])) (he : laws_eqIntS F a0 a1 = some r) :
    Calls Try.prog 69 #[v0x0, v1x0] w (fun e w' => e = .returned (.bool r) ∧ Mem w0 w' (cat [hF])) := by
 refine calls_fr (n := 26) Try.func69 rfl rfl rfl ?_
 unfold laws_eqIntS at he
 refine wp_seq ?_
 refine wp_region_lit ?_
 refine s_val (v := (.bool false)) (won rfl) rfl rfl (x_assign rfl rfl) ?_
 refine wpList_nil ?_
 refine nx ?_
 refine wp_seq ?_
 refine wp_seq ?_
 refine wp_region_lit ?_
 refine s_val (v := v0x0) (won rfl) rfl rfl (x_move rfl (ev (t := 0) rfl rfl)) ?_
 refine s_val (v := (.int .i64 (a0.length : Int))) (won rfl) rfl rfl (x_len rfl slt_26 (ev (t := 6) rfl rfl) (H0x0).sl) ?_
 refine s_val (v := v1x0) (won rfl) rfl rfl (x_move rfl (ev (t := 1) rfl rfl)) ?_
 refine s_val (v := (.int .i64 (a1.length : Int))) (won rfl) rfl rfl (x_len rfl slt_26 (ev (t := 8) rfl rfl) (H1x0).sl) ?_
 refine s_val (v := (.bool (!decide ((a0.length : Int) = (a1.length : Int))))) (won rfl) rfl rfl (x_neq rfl (ev (t := 7) rfl rfl) (ev (t := 9) rfl rfl)) ?_
 refine wpList_nil ?_
 refine nx ?_
 rcases Bool.eq_false_or_eq_true ((!decide ((a0.length : Int) = (a1.length : Int)))) with hb104 | hb104
 ·
  replace he := bifT he hb104
  refine c_true rfl (p := (!decide ((a0.length : Int) = (a1.length : Int)))) rfl rfl hb104 ?_
  refine wp_seq ?_
  refine wp_region_lit ?_
  refine s_val (v := (.bool false)) (won rfl) rfl rfl (x_assign rfl rfl) ?_
  refine wpList_nil ?_
  refine nx ?_
  refine wp_ret ?_
  refine xr ?_
  obtain rfl := Option.some.inj he
  refine r_ret (v := (.bool false)) (rv_one rfl (RVs.tmp (v := (.bool false)) rfl rfl RVs.nil)) rfl ?_
  exact ⟨rfl, Mem.pick [0] rfl hm⟩
 ·
  replace he := bifF he hb104
  refine c_false rfl (p := (!decide ((a0.length : Int) = (a1.length : Int)))) rfl rfl hb104 ?_
  refine wp_skip ?_
  refine nx ?_
  obtain ⟨l153, hT155, hk154⟩ := bindE he
  replace he := hT155
  refine wp_seqJ (fun a w => ∃ (s152 : (Unit)) (f : Nat → Value), l153 = Fl.go s152 ∧ a = fr 26 f ∧ Mem w0 w (cat [hF])) ?_ ?_
  ·
   refine wp_seq ?_
   refine wp_region_lit ?_
   refine s_val (v := (.int .i64 0)) (won rfl) rfl rfl (x_assign rfl rfl) ?_
   refine wpList_nil ?_
   refine nx ?_
   refine wp_block ?_
   refine wp_fuel (I := fun k => fun a w => ∃ (s173 : Int) (f : Nat → Value), laws_eqIntS_l1 F a0 a1 k s173 = some l153 ∧ a = fr 26 f ∧ f 0 = v0x0 ∧ f 1 = v1x0 ∧ f 5 = (.int .i64 s173) ∧ Mem w0 w (cat [hF])) F _ _ ⟨0, _, he, rfl, rfl, rfl, rfl, Mem.pick [0] rfl hm⟩ ?_ ?_
   ·
    rintro a w ⟨s173, f, he, rfl, q171, q172, q174, hm188⟩
    rw [laws_eqIntS_l1] at he; exact none_no he
   ·
    rintro k a w ⟨s173, f, he, rfl, q171, q172, q174, hm190⟩
    rw [laws_eqIntS_l1] at he
    refine wp_seq ?_
    refine wp_seq ?_
    refine wp_region_lit ?_
    refine s_val (v := (.int .i64 s173)) (won rfl) rfl rfl (x_move rfl (ev (t := 5) (v := (.int .i64 s173)) rfl q174)) ?_
    refine s_val (v := v0x0) (won rfl) rfl rfl (x_move rfl (ev (t := 0) (v := v0x0) rfl q171)) ?_
    refine s_val (v := (.int .i64 (a0.length : Int))) (won rfl) rfl rfl (x_len rfl slt_26 (ev (t := 12) rfl rfl) (H0x0).sl) ?_
    refine s_val (v := (.bool (decide (s173 < (a0.length : Int))))) (won rfl) rfl rfl (x_lss rfl (ev (t := 11) rfl rfl) (ev (t := 13) rfl rfl)) ?_
    refine wpList_nil ?_
    refine nx ?_
    rcases Bool.eq_false_or_eq_true ((decide (s173 < (a0.length : Int)))) with hb192 | hb192
    ·
     replace he := bifT he hb192
     refine c_true rfl (p := (decide (s173 < (a0.length : Int)))) rfl rfl hb192 ?_
     refine wp_skip ?_
     refine nx ?_
     refine wp_seq ?_
     refine wp_block ?_
     refine wp_seq ?_
     obtain ⟨hg198, he⟩ := gdE he
     obtain ⟨hg199, he⟩ := gdE he
     refine wp_qregion (cat [hF]) mixed (by kernel_rfl) hm190 ?_
     refine q_val (v := v0x0) (won rfl) rfl rfl (fun wq hq => (x_move rfl (ev (t := 0) (v := v0x0) rfl q171))) ?_
     refine q_val (v := (.int .i64 s173)) (won rfl) rfl rfl (fun wq hq => (x_move rfl (ev (t := 5) (v := (.int .i64 s173)) rfl q174))) ?_
     refine q_val (v := (.pointer (some ((slA v0x0).add (Int.toNat s173 * 1))))) (won rfl) rfl rfl (fun wq hq => (x_index (d := (FK.int .i64)) rfl slt_26 (ev (t := 17) rfl rfl) (ev (t := 18) rfl rfl) H0x0 hg198.1 hg198.2)) ?_
     refine q_val (v := (.int .i64 (ix a0 s173))) (won rfl) rfl rfl (fun wq hq => (x_load rfl ty1x3 (ev (t := 19) rfl rfl) (RdF.cell0 H0x0 hq (Sub.trans hs (Sub.at_ (k := 0) rfl)) hg198.1 hg198.2 rfl))) ?_
     refine q_val (v := v1x0) (won rfl) rfl rfl (fun wq hq => (x_move rfl (ev (t := 1) (v := v1x0) rfl q172))) ?_
     refine q_val (v := (.int .i64 s173)) (won rfl) rfl rfl (fun wq hq => (x_move rfl (ev (t := 5) (v := (.int .i64 s173)) rfl q174))) ?_
     refine q_val (v := (.pointer (some ((slA v1x0).add (Int.toNat s173 * 1))))) (won rfl) rfl rfl (fun wq hq => (x_index (d := (FK.int .i64)) rfl slt_26 (ev (t := 21) rfl rfl) (ev (t := 22) rfl rfl) H1x0 hg199.1 hg199.2)) ?_
     refine q_val (v := (.int .i64 (ix a1 s173))) (won rfl) rfl rfl (fun wq hq => (x_load rfl ty1x3 (ev (t := 23) rfl rfl) (RdF.cell0 H1x0 hq (Sub.trans hs (Sub.at_ (k := 0) rfl)) hg199.1 hg199.2 rfl))) ?_
     refine q_val (v := (.bool (!decide ((ix a0 s173) = (ix a1 s173))))) (won rfl) rfl rfl (fun wq hq => (x_neq rfl (ev (t := 20) rfl rfl) (ev (t := 24) rfl rfl))) ?_
     refine wpQuiet_nil ?_
     intro w200 hm201
     refine nx ?_
     rcases Bool.eq_false_or_eq_true ((!decide ((ix a0 s173) = (ix a1 s173)))) with hb202 | hb202
     ·
      replace he := bifT he hb202
      refine c_true rfl (p := (!decide ((ix a0 s173) = (ix a1 s173)))) rfl rfl hb202 ?_
      refine wp_seq ?_
      refine wp_region_lit ?_
      refine s_val (v := (.bool false)) (won rfl) rfl rfl (x_assign rfl rfl) ?_
      refine wpList_nil ?_
      refine nx ?_
      refine wp_ret ?_
      refine rb ?_
      refine xr ?_
      refine xr ?_
      refine rb ?_
      refine xr ?_
      obtain rfl := Option.some.inj he
      replace he := outE hk154
      obtain rfl := Option.some.inj he
      refine r_ret (v := (.bool false)) (rv_one rfl (RVs.tmp (v := (.bool false)) rfl rfl RVs.nil)) rfl ?_
      exact ⟨rfl, Mem.pick [0] rfl hm201⟩
     ·
      replace he := bifF he hb202
      refine c_false rfl (p := (!decide ((ix a0 s173) = (ix a1 s173)))) rfl rfl hb202 ?_
      refine wp_skip ?_
      refine nb ?_
      refine nx ?_
      refine wp_region_lit ?_
      refine s_val (v := (.int .i64 s173)) (won rfl) rfl rfl (x_move rfl (ev (t := 5) (v := (.int .i64 s173)) rfl q174)) ?_
      refine s_val (v := (.int .i64 (IntKind.wrap .i64 (s173 + 1)))) (won rfl) rfl rfl (x_add rfl (ev (t := 15) rfl rfl) rfl) ?_
      refine s_val (v := (.int .i64 (IntKind.wrap .i64 (s173 + 1)))) (won rfl) rfl rfl (x_assign rfl (ev (t := 16) rfl rfl)) ?_
      refine wpList_nil ?_
      refine nx ?_
      exact ⟨(IntKind.wrap .i64 (s173 + 1)), _, he, rfl, q171, q172, rfl, Mem.pick [0] rfl hm201⟩
    ·
     replace he := bifF he hb192
     refine c_false rfl (p := (decide (s173 < (a0.length : Int)))) rfl rfl hb192 ?_
     refine wp_exit ?_
     refine xs ?_
     refine xs ?_
     refine xb ?_
     refine nx ?_
     obtain rfl := Option.some.inj he
     exact ⟨(), _, rfl, rfl, Mem.pick [0] rfl hm190⟩
  ·
   rintro a w ⟨s152, f, rfl, rfl, hm204⟩
   replace he := goE hk154
   refine wp_seq ?_
   refine wp_region_lit ?_
   refine s_val (v := (.bool true)) (won rfl) rfl rfl (x_assign rfl rfl) ?_
   refine wpList_nil ?_
   refine nx ?_
   refine wp_ret ?_
   obtain rfl := Option.some.inj he
   refine r_ret (v := (.bool true)) (rv_one rfl (RVs.tmp (v := (.bool true)) rfl rfl RVs.nil)) rfl ?_
   exact ⟨rfl, Mem.pick [0] rfl hm204⟩
def laws_eqPool (F : Nat) (a0 : impl_Pool) (a1 : impl_Pool) : Option (Bool) := (laws_eqIntS F a0.Free a1.Free).bind fun r42 => (bif (!r42) then (some false) else (laws_eqIntS F a0.Owner a1.Owner).bind fun r52 => (bif (!r52) then (some false) else (some true)))
set_option maxHeartbeats 400000 in
set_option maxRecDepth 100000 in
theorem laws_eqPool_ok (F : Nat) {w0 w : World} {hR hF : Hp} {v0x0 : Value} {v0x1 : Value} {v1x0 : Value} {v1x1 : Value} (a0 : impl_Pool) (a1 : impl_Pool) {r : (Bool)} (H0x0 : RdF w0 (FK.int .i64) v0x0 a0.Free hR) (H0x1 : RdF w0 (FK.int .i64) v0x1 a0.Owner hR) (H1x0 : RdF w0 (FK.int .i64) v1x0 a1.Free hR) (H1x1 : RdF w0 (FK.int .i64) v1x1 a1.Owner hR) (hs : Sub hR hF) (hm : Mem w0 w (cat [hF])) (he : laws_eqPool F a0 a1 = some r) :
    Calls Try.prog 22 #[(.agg #[v0x0, v0x1]), (.agg #[v1x0, v1x1])] w (fun e w' => e = .returned (.bool r) ∧ Mem w0 w' (cat [hF])) := by
 refine calls_fr (n := 17) Try.func22 rfl rfl rfl ?_
 unfold laws_eqPool at he
 refine wp_seq ?_
 refine wp_region_lit ?_
 refine s_exv (won rfl) rfl rfl (e_box (vs := [v0x0, v0x1]) rfl (ev (t := 0) rfl rfl) rfl hm) ?_
 rintro g29 w30 hm31
 refine s_exv (won rfl) rfl rfl (e_box (vs := [v1x0, v1x1]) rfl (ev (t := 1) rfl rfl) rfl hm31) ?_
 rintro g33 w34 hm35
 refine s_val (v := (.bool false)) (won rfl) rfl rfl (x_assign rfl rfl) ?_
 refine wpList_nil ?_
 refine nx ?_
 refine wp_seq ?_
 refine wp_seq ?_
 obtain ⟨r42, hr42, he⟩ := bindE he
 refine wp_region_lit ?_
 refine s_val (v := (.pointer (some ⟨g29, 0, none⟩))) (won rfl) rfl rfl (x_field rfl fa_28x0 (ev (t := 2) rfl rfl)) ?_
 refine s_val (v := v0x0) (won rfl) rfl rfl (x_load rfl ty1x26 (ev (t := 5) rfl rfl) (seg_cell (o' := 0) (j := 0) hm35 (k := 1) rfl rfl rfl)) ?_
 refine s_val (v := (.pointer (some ⟨g33, 0, none⟩))) (won rfl) rfl rfl (x_field rfl fa_28x0 (ev (t := 3) rfl rfl)) ?_
 refine s_val (v := v1x0) (won rfl) rfl rfl (x_load rfl ty1x26 (ev (t := 7) rfl rfl) (seg_cell (o' := 0) (j := 0) hm35 (k := 0) rfl rfl rfl)) ?_
 refine s_call (won rfl) rfl rfl (x_call rfl rfl cl_69 (map_lit (map_cons (ev (t := 6) rfl rfl) (map_cons (ev (t := 8) rfl rfl) map_nil)))) (laws_eqIntS_ok F (hR := (cat [hR])) (hF := cat [sg g33 28 (0, 0) [] [v1x0, v1x1] [], sg g29 28 (0, 0) [] [v0x0, v0x1] [], hF]) a0.Free a1.Free (H0x0.mono (Sub.at_ (k := 0) rfl)) (H1x0.mono (Sub.at_ (k := 0) rfl)) (subc (Sub.trans hs (Sub.at_ (k := 2) rfl)) subn) (Mem.one hm35) hr42) ?_
 rintro e w43 ⟨rfl, hm44⟩
 refine ⟨_, rfl, ?_⟩
 replace hm44 : Mem w0 w43 (cat [sg g33 28 (0, 0) [] [v1x0, v1x1] [], sg g29 28 (0, 0) [] [v0x0, v0x1] [], hF]) := Mem.un hm44
 refine s_val (v := (.bool (!r42))) (won rfl) rfl rfl (x_not rfl (ev (t := 9) rfl rfl)) ?_
 refine wpList_nil ?_
 refine nx ?_
 rcases Bool.eq_false_or_eq_true ((!r42)) with hb45 | hb45
 ·
  replace he := bifT he hb45
  refine c_true rfl (p := (!r42)) rfl rfl hb45 ?_
  refine wp_seq ?_
  refine wp_region_lit ?_
  refine s_val (v := (.bool false)) (won rfl) rfl rfl (x_assign rfl rfl) ?_
  refine wpList_nil ?_
  have hm46 : Mem w0 w43 (cat [hF]) := Mem.pick [2] rfl hm44
  refine nx ?_
  refine wp_ret ?_
  refine xr ?_
  obtain rfl := Option.some.inj he
  refine r_ret (v := (.bool false)) (rv_one rfl (RVs.tmp (v := (.bool false)) rfl rfl RVs.nil)) rfl ?_
  exact ⟨rfl, Mem.pick [0] rfl hm46⟩
 ·
  replace he := bifF he hb45
  refine c_false rfl (p := (!r42)) rfl rfl hb45 ?_
  refine wp_skip ?_
  refine nx ?_
  refine wp_seq ?_
  refine wp_seq ?_
  obtain ⟨r52, hr52, he⟩ := bindE he
  refine wp_region_lit ?_
  refine s_val (v := (.pointer (some ⟨g29, 1, none⟩))) (won rfl) rfl rfl (x_field rfl fa_28x1 (ev (t := 2) rfl rfl)) ?_
  refine s_val (v := v0x1) (won rfl) rfl rfl (x_load rfl ty1x26 (ev (t := 11) rfl rfl) (seg_cell (o' := 0) (j := 1) hm44 (k := 1) rfl rfl rfl)) ?_
  refine s_val (v := (.pointer (some ⟨g33, 1, none⟩))) (won rfl) rfl rfl (x_field rfl fa_28x1 (ev (t := 3) rfl rfl)) ?_
  refine s_val (v := v1x1) (won rfl) rfl rfl (x_load rfl ty1x26 (ev (t := 13) rfl rfl) (seg_cell (o' := 0) (j := 1) hm44 (k := 0) rfl rfl rfl)) ?_
  refine s_call (won rfl) rfl rfl (x_call rfl rfl cl_69 (map_lit (map_cons (ev (t := 12) rfl rfl) (map_cons (ev (t := 14) rfl rfl) map_nil)))) (laws_eqIntS_ok F (hR := (cat [hR])) (hF := cat [sg g33 28 (0, 0) [] [v1x0, v1x1] [], sg g29 28 (0, 0) [] [v0x0, v0x1] [], hF]) a0.Owner a1.Owner (H0x1.mono (Sub.at_ (k := 0) rfl)) (H1x1.mono (Sub.at_ (k := 0) rfl)) (subc (Sub.trans hs (Sub.at_ (k := 2) rfl)) subn) (Mem.one hm44) hr52) ?_
  rintro e w53 ⟨rfl, hm54⟩
  refine ⟨_, rfl, ?_⟩
  replace hm54 : Mem w0 w53 (cat [sg g33 28 (0, 0) [] [v1x0, v1x1] [], sg g29 28 (0, 0) [] [v0x0, v0x1] [], hF]) := Mem.un hm54
  refine s_val (v := (.bool (!r52))) (won rfl) rfl rfl (x_not rfl (ev (t := 15) rfl rfl)) ?_
  refine wpList_nil ?_
  have hm55 : Mem w0 w53 (cat [hF]) := Mem.pick [2] rfl hm54
  refine nx ?_
  rcases Bool.eq_false_or_eq_true ((!r52)) with hb56 | hb56
  ·
   replace he := bifT he hb56
   refine c_true rfl (p := (!r52)) rfl rfl hb56 ?_
   refine wp_seq ?_
   refine wp_region_lit ?_
   refine s_val (v := (.bool false)) (won rfl) rfl rfl (x_assign rfl rfl) ?_
   refine wpList_nil ?_
   refine nx ?_
   refine wp_ret ?_
   refine xr ?_
   obtain rfl := Option.some.inj he
   refine r_ret (v := (.bool false)) (rv_one rfl (RVs.tmp (v := (.bool false)) rfl rfl RVs.nil)) rfl ?_
   exact ⟨rfl, Mem.pick [0] rfl hm55⟩
  ·
   replace he := bifF he hb56
   refine c_false rfl (p := (!r52)) rfl rfl hb56 ?_
   refine wp_skip ?_
   refine nx ?_
   refine wp_seq ?_
   refine wp_region_lit ?_
   refine s_val (v := (.bool true)) (won rfl) rfl rfl (x_assign rfl rfl) ?_
   refine wpList_nil ?_
   refine nx ?_
   refine wp_ret ?_
   obtain rfl := Option.some.inj he
   refine r_ret (v := (.bool true)) (rv_one rfl (RVs.tmp (v := (.bool true)) rfl rfl RVs.nil)) rfl ?_
   exact ⟨rfl, Mem.pick [0] rfl hm55⟩
def laws_eqPoolReply (a0 : impl_PoolReply) (a1 : impl_PoolReply) : Option (Bool) := (bif (!decide (a0.Code = a1.Code)) then (some false) else (bif (!decide (a0.Buffer = a1.Buffer)) then (some false) else (some true)))
set_option maxHeartbeats 400000 in
set_option maxRecDepth 100000 in
theorem laws_eqPoolReply_ok {w0 w : World} {hR hF : Hp} (a0 : impl_PoolReply) (a1 : impl_PoolReply) {r : (Bool)} (hm : Mem w0 w (cat [hF])) (he : laws_eqPoolReply a0 a1 = some r) :
    Calls Try.prog 23 #[(.agg #[(.int .i64 a0.Code), (.int .i64 a0.Buffer)]), (.agg #[(.int .i64 a1.Code), (.int .i64 a1.Buffer)])] w (fun e w' => e = .returned (.bool r) ∧ Mem w0 w' (cat [hF])) := by
 refine calls_fr (n := 15) Try.func23 rfl rfl rfl ?_
 unfold laws_eqPoolReply at he
 refine wp_seq ?_
 refine wp_region_lit ?_
 refine s_exv (won rfl) rfl rfl (e_box (vs := [(.int .i64 a0.Code), (.int .i64 a0.Buffer)]) rfl (ev (t := 0) rfl rfl) rfl hm) ?_
 rintro g17 w18 hm19
 refine s_exv (won rfl) rfl rfl (e_box (vs := [(.int .i64 a1.Code), (.int .i64 a1.Buffer)]) rfl (ev (t := 1) rfl rfl) rfl hm19) ?_
 rintro g21 w22 hm23
 refine s_val (v := (.bool false)) (won rfl) rfl rfl (x_assign rfl rfl) ?_
 refine wpList_nil ?_
 refine nx ?_
 refine wp_seq ?_
 refine wp_seq ?_
 refine wp_region_lit ?_
 refine s_val (v := (.pointer (some ⟨g17, 0, none⟩))) (won rfl) rfl rfl (x_field rfl fa_35x0 (ev (t := 2) rfl rfl)) ?_
 refine s_val (v := (.int .i64 a0.Code)) (won rfl) rfl rfl (x_load rfl ty1x3 (ev (t := 5) rfl rfl) (seg_cell (o' := 0) (j := 0) hm23 (k := 1) rfl rfl rfl)) ?_
 refine s_val (v := (.pointer (some ⟨g21, 0, none⟩))) (won rfl) rfl rfl (x_field rfl fa_35x0 (ev (t := 3) rfl rfl)) ?_
 refine s_val (v := (.int .i64 a1.Code)) (won rfl) rfl rfl (x_load rfl ty1x3 (ev (t := 7) rfl rfl) (seg_cell (o' := 0) (j := 0) hm23 (k := 0) rfl rfl rfl)) ?_
 refine s_val (v := (.bool (!decide (a0.Code = a1.Code)))) (won rfl) rfl rfl (x_neq rfl (ev (t := 6) rfl rfl) (ev (t := 8) rfl rfl)) ?_
 refine wpList_nil ?_
 refine nx ?_
 rcases Bool.eq_false_or_eq_true ((!decide (a0.Code = a1.Code))) with hb27 | hb27
 ·
  replace he := bifT he hb27
  refine c_true rfl (p := (!decide (a0.Code = a1.Code))) rfl rfl hb27 ?_
  refine wp_seq ?_
  refine wp_region_lit ?_
  refine s_val (v := (.bool false)) (won rfl) rfl rfl (x_assign rfl rfl) ?_
  refine wpList_nil ?_
  have hm28 : Mem w0 w22 (cat [hF]) := Mem.pick [2] rfl hm23
  refine nx ?_
  refine wp_ret ?_
  refine xr ?_
  obtain rfl := Option.some.inj he
  refine r_ret (v := (.bool false)) (rv_one rfl (RVs.tmp (v := (.bool false)) rfl rfl RVs.nil)) rfl ?_
  exact ⟨rfl, Mem.pick [0] rfl hm28⟩
 ·
  replace he := bifF he hb27
  refine c_false rfl (p := (!decide (a0.Code = a1.Code))) rfl rfl hb27 ?_
  refine wp_skip ?_
  refine nx ?_
  refine wp_seq ?_
  refine wp_seq ?_
  refine wp_region_lit ?_
  refine s_val (v := (.pointer (some ⟨g17, 1, none⟩))) (won rfl) rfl rfl (x_field rfl fa_35x1 (ev (t := 2) rfl rfl)) ?_
  refine s_val (v := (.int .i64 a0.Buffer)) (won rfl) rfl rfl (x_load rfl ty1x3 (ev (t := 10) rfl rfl) (seg_cell (o' := 0) (j := 1) hm23 (k := 1) rfl rfl rfl)) ?_
  refine s_val (v := (.pointer (some ⟨g21, 1, none⟩))) (won rfl) rfl rfl (x_field rfl fa_35x1 (ev (t := 3) rfl rfl)) ?_
  refine s_val (v := (.int .i64 a1.Buffer)) (won rfl) rfl rfl (x_load rfl ty1x3 (ev (t := 12) rfl rfl) (seg_cell (o' := 0) (j := 1) hm23 (k := 0) rfl rfl rfl)) ?_
  refine s_val (v := (.bool (!decide (a0.Buffer = a1.Buffer)))) (won rfl) rfl rfl (x_neq rfl (ev (t := 11) rfl rfl) (ev (t := 13) rfl rfl)) ?_
  refine wpList_nil ?_
  have hm31 : Mem w0 w22 (cat [hF]) := Mem.pick [2] rfl hm23
  refine nx ?_
  rcases Bool.eq_false_or_eq_true ((!decide (a0.Buffer = a1.Buffer))) with hb32 | hb32
  ·
   replace he := bifT he hb32
   refine c_true rfl (p := (!decide (a0.Buffer = a1.Buffer))) rfl rfl hb32 ?_
   refine wp_seq ?_
   refine wp_region_lit ?_
   refine s_val (v := (.bool false)) (won rfl) rfl rfl (x_assign rfl rfl) ?_
   refine wpList_nil ?_
   refine nx ?_
   refine wp_ret ?_
   refine xr ?_
   obtain rfl := Option.some.inj he
   refine r_ret (v := (.bool false)) (rv_one rfl (RVs.tmp (v := (.bool false)) rfl rfl RVs.nil)) rfl ?_
   exact ⟨rfl, Mem.pick [0] rfl hm31⟩
  ·
   replace he := bifF he hb32
   refine c_false rfl (p := (!decide (a0.Buffer = a1.Buffer))) rfl rfl hb32 ?_
   refine wp_skip ?_
   refine nx ?_
   refine wp_seq ?_
   refine wp_region_lit ?_
   refine s_val (v := (.bool true)) (won rfl) rfl rfl (x_assign rfl rfl) ?_
   refine wpList_nil ?_
   refine nx ?_
   refine wp_ret ?_
   obtain rfl := Option.some.inj he
   refine r_ret (v := (.bool true)) (rv_one rfl (RVs.tmp (v := (.bool true)) rfl rfl RVs.nil)) rfl ?_
   exact ⟨rfl, Mem.pick [0] rfl hm31⟩
def laws_eqPoolReplyS_l1 (F : Nat) (a0 : (List impl_PoolReply)) (a1 : (List impl_PoolReply)) : Nat → Int → Option (Fl (Bool) (Unit))
  | 0, _ => none
  | k + 1, s193 => (bif (decide (s193 < (a0.length : Int))) then gd ((0 : Int) ≤ s193 ∧ s193 < (a0.length : Int)) (gd ((0 : Int) ≤ s193 ∧ s193 < (a1.length : Int)) ((laws_eqPoolReply (impl_PoolReply.mk (ix a0 s193).Code (ix a0 s193).Buffer) (impl_PoolReply.mk (ix a1 s193).Code (ix a1 s193).Buffer)).bind fun r223 => (bif (!r223) then (some (Fl.out false)) else laws_eqPoolReplyS_l1 F a0 a1 k (IntKind.wrap .i64 (s193 + 1))))) else (some (Fl.go ())))
def laws_eqPoolReplyS (F : Nat) (a0 : (List impl_PoolReply)) (a1 : (List impl_PoolReply)) : Option (Bool) := (bif (!decide ((a0.length : Int) = (a1.length : Int))) then (some false) else (laws_eqPoolReplyS_l1 F a0 a1 F 0 : Option (Fl (Bool) (Unit))).bind fun l171 => l171.on fun (s170 : (Unit)) => (some true))
set_option maxHeartbeats 400000 in
set_option maxRecDepth 100000 in
theorem laws_eqPoolReplyS_ok (F : Nat) {w0 w : World} {hR hF : Hp} {v0x0 : Value} {v1x0 : Value} (a0 : (List impl_PoolReply)) (a1 : (List impl_PoolReply)) {r : (Bool)} (H0x0 : RdF w0 impl_PoolReply.K v0x0 a0 hR) (H1x0 : RdF w0 impl_PoolReply.K v1x0 a1 hR) (hs : Sub hR hF) (hm : Mem w0 w (cat [hF])) (he : laws_eqPoolReplyS F a0 a1 = some r) :
    Calls Try.prog 28 #[v0x0, v1x0] w (fun e w' => e = .returned (.bool r) ∧ Mem w0 w' (cat [hF])) := by
 refine calls_fr (n := 27) Try.func28 rfl rfl rfl ?_
 unfold laws_eqPoolReplyS at he
 refine wp_seq ?_
 refine wp_region_lit ?_
 refine s_val (v := (.bool false)) (won rfl) rfl rfl (x_assign rfl rfl) ?_
 refine wpList_nil ?_
 refine nx ?_
 refine wp_seq ?_
 refine wp_seq ?_
 refine wp_region_lit ?_
 refine s_val (v := v0x0) (won rfl) rfl rfl (x_move rfl (ev (t := 0) rfl rfl)) ?_
 refine s_val (v := (.int .i64 (a0.length : Int))) (won rfl) rfl rfl (x_len rfl slt_31 (ev (t := 6) rfl rfl) (H0x0).sl) ?_
 refine s_val (v := v1x0) (won rfl) rfl rfl (x_move rfl (ev (t := 1) rfl rfl)) ?_
 refine s_val (v := (.int .i64 (a1.length : Int))) (won rfl) rfl rfl (x_len rfl slt_31 (ev (t := 8) rfl rfl) (H1x0).sl) ?_
 refine s_val (v := (.bool (!decide ((a0.length : Int) = (a1.length : Int))))) (won rfl) rfl rfl (x_neq rfl (ev (t := 7) rfl rfl) (ev (t := 9) rfl rfl)) ?_
 refine wpList_nil ?_
 refine nx ?_
 rcases Bool.eq_false_or_eq_true ((!decide ((a0.length : Int) = (a1.length : Int)))) with hb116 | hb116
 ·
  replace he := bifT he hb116
  refine c_true rfl (p := (!decide ((a0.length : Int) = (a1.length : Int)))) rfl rfl hb116 ?_
  refine wp_seq ?_
  refine wp_region_lit ?_
  refine s_val (v := (.bool false)) (won rfl) rfl rfl (x_assign rfl rfl) ?_
  refine wpList_nil ?_
  refine nx ?_
  refine wp_ret ?_
  refine xr ?_
  obtain rfl := Option.some.inj he
  refine r_ret (v := (.bool false)) (rv_one rfl (RVs.tmp (v := (.bool false)) rfl rfl RVs.nil)) rfl ?_
  exact ⟨rfl, Mem.pick [0] rfl hm⟩
 ·
  replace he := bifF he hb116
  refine c_false rfl (p := (!decide ((a0.length : Int) = (a1.length : Int)))) rfl rfl hb116 ?_
  refine wp_skip ?_
  refine nx ?_
  obtain ⟨l171, hT173, hk172⟩ := bindE he
  replace he := hT173
  refine wp_seqJ (fun a w => ∃ (s170 : (Unit)) (f : Nat → Value), l171 = Fl.go s170 ∧ a = fr 27 f ∧ Mem w0 w (cat [hF])) ?_ ?_
  ·
   refine wp_seq ?_
   refine wp_region_lit ?_
   refine s_val (v := (.int .i64 0)) (won rfl) rfl rfl (x_assign rfl rfl) ?_
   refine wpList_nil ?_
   refine nx ?_
   refine wp_block ?_
   refine wp_fuel (I := fun k => fun a w => ∃ (s193 : Int) (f : Nat → Value), laws_eqPoolReplyS_l1 F a0 a1 k s193 = some l171 ∧ a = fr 27 f ∧ f 0 = v0x0 ∧ f 1 = v1x0 ∧ f 5 = (.int .i64 s193) ∧ Mem w0 w (cat [hF])) F _ _ ⟨0, _, he, rfl, rfl, rfl, rfl, Mem.pick [0] rfl hm⟩ ?_ ?_
   ·
    rintro a w ⟨s193, f, he, rfl, q191, q192, q194, hm210⟩
    rw [laws_eqPoolReplyS_l1] at he; exact none_no he
   ·
    rintro k a w ⟨s193, f, he, rfl, q191, q192, q194, hm212⟩
    rw [laws_eqPoolReplyS_l1] at he
    refine wp_seq ?_
    refine wp_seq ?_
    refine wp_region_lit ?_
    refine s_val (v := (.int .i64 s193)) (won rfl) rfl rfl (x_move rfl (ev (t := 5) (v := (.int .i64 s193)) rfl q194)) ?_
    refine s_val (v := v0x0) (won rfl) rfl rfl (x_move rfl (ev (t := 0) (v := v0x0) rfl q191)) ?_
    refine s_val (v := (.int .i64 (a0.length : Int))) (won rfl) rfl rfl (x_len rfl slt_31 (ev (t := 12) rfl rfl) (H0x0).sl) ?_
    refine s_val (v := (.bool (decide (s193 < (a0.length : Int))))) (won rfl) rfl rfl (x_lss rfl (ev (t := 11) rfl rfl) (ev (t := 13) rfl rfl)) ?_
    refine wpList_nil ?_
    refine nx ?_
    rcases Bool.eq_false_or_eq_true ((decide (s193 < (a0.length : Int)))) with hb214 | hb214
    ·
     replace he := bifT he hb214
     refine c_true rfl (p := (decide (s193 < (a0.length : Int)))) rfl rfl hb214 ?_
     refine wp_skip ?_
     refine nx ?_
     refine wp_seq ?_
     refine wp_block ?_
     refine wp_seq ?_
     obtain ⟨hg221, he⟩ := gdE he
     obtain ⟨hg222, he⟩ := gdE he
     obtain ⟨r223, hr223, he⟩ := bindE he
     refine wp_qregion (cat [hF]) mixed (by kernel_rfl) hm212 ?_
     refine q_val (v := v0x0) (won rfl) rfl rfl (fun wq hq => (x_move rfl (ev (t := 0) (v := v0x0) rfl q191))) ?_
     refine q_val (v := (.int .i64 s193)) (won rfl) rfl rfl (fun wq hq => (x_move rfl (ev (t := 5) (v := (.int .i64 s193)) rfl q194))) ?_
     refine q_val (v := (.pointer (some ((slA v0x0).add (Int.toNat s193 * 2))))) (won rfl) rfl rfl (fun wq hq => (x_index (d := impl_PoolReply.K) rfl slt_31 (ev (t := 17) rfl rfl) (ev (t := 18) rfl rfl) H0x0 hg221.1 hg221.2)) ?_
     refine q_val (v := (.agg #[(.int .i64 (ix a0 s193).Code), (.int .i64 (ix a0 s193).Buffer)])) (won rfl) rfl rfl (fun wq hq => (x_loadN (vs := [(.int .i64 (ix a0 s193).Code), (.int .i64 (ix a0 s193).Buffer)]) rfl tyN_35 (ev (t := 19) rfl rfl) (RdF.cells H0x0 hq (Sub.trans hs (Sub.at_ (k := 0) rfl)) hg221.1 hg221.2))) ?_
     refine q_val (v := v1x0) (won rfl) rfl rfl (fun wq hq => (x_move rfl (ev (t := 1) (v := v1x0) rfl q192))) ?_
     refine q_val (v := (.int .i64 s193)) (won rfl) rfl rfl (fun wq hq => (x_move rfl (ev (t := 5) (v := (.int .i64 s193)) rfl q194))) ?_
     refine q_val (v := (.pointer (some ((slA v1x0).add (Int.toNat s193 * 2))))) (won rfl) rfl rfl (fun wq hq => (x_index (d := impl_PoolReply.K) rfl slt_31 (ev (t := 21) rfl rfl) (ev (t := 22) rfl rfl) H1x0 hg222.1 hg222.2)) ?_
     refine q_val (v := (.agg #[(.int .i64 (ix a1 s193).Code), (.int .i64 (ix a1 s193).Buffer)])) (won rfl) rfl rfl (fun wq hq => (x_loadN (vs := [(.int .i64 (ix a1 s193).Code), (.int .i64 (ix a1 s193).Buffer)]) rfl tyN_35 (ev (t := 23) rfl rfl) (RdF.cells H1x0 hq (Sub.trans hs (Sub.at_ (k := 0) rfl)) hg222.1 hg222.2))) ?_
     refine q_call (v := (.bool r223)) (won rfl) rfl rfl (fun wq hq => (x_call rfl rfl cl_23 (map_lit (map_cons (ev (t := 20) rfl rfl) (map_cons (ev (t := 24) rfl rfl) map_nil))))) (fun wq hq => ((laws_eqPoolReply_ok (hR := (cat [])) (hF := cat [hF]) (impl_PoolReply.mk (ix a0 s193).Code (ix a0 s193).Buffer) (impl_PoolReply.mk (ix a1 s193).Code (ix a1 s193).Buffer)  (Mem.one hq) hr223)).mono fun e w2 h => ⟨h.1, Mem.un h.2⟩) ?_
     refine q_val (v := (.bool (!r223))) (won rfl) rfl rfl (fun wq hq => (x_not rfl (ev (t := 25) rfl rfl))) ?_
     refine wpQuiet_nil ?_
     intro w224 hm225
     refine nx ?_
     rcases Bool.eq_false_or_eq_true ((!r223)) with hb226 | hb226
     ·
      replace he := bifT he hb226
      refine c_true rfl (p := (!r223)) rfl rfl hb226 ?_
      refine wp_seq ?_
      refine wp_region_lit ?_
      refine s_val (v := (.bool false)) (won rfl) rfl rfl (x_assign rfl rfl) ?_
      refine wpList_nil ?_
      refine nx ?_
      refine wp_ret ?_
      refine rb ?_
      refine xr ?_
      refine xr ?_
      refine rb ?_
      refine xr ?_
      obtain rfl := Option.some.inj he
      replace he := outE hk172
      obtain rfl := Option.some.inj he
      refine r_ret (v := (.bool false)) (rv_one rfl (RVs.tmp (v := (.bool false)) rfl rfl RVs.nil)) rfl ?_
      exact ⟨rfl, Mem.pick [0] rfl hm225⟩
     ·
      replace he := bifF he hb226
      refine c_false rfl (p := (!r223)) rfl rfl hb226 ?_
      refine wp_skip ?_
      refine nb ?_
      refine nx ?_
      refine wp_region_lit ?_
      refine s_val (v := (.int .i64 s193)) (won rfl) rfl rfl (x_move rfl (ev (t := 5) (v := (.int .i64 s193)) rfl q194)) ?_
      refine s_val (v := (.int .i64 (IntKind.wrap .i64 (s193 + 1)))) (won rfl) rfl rfl (x_add rfl (ev (t := 15) rfl rfl) rfl) ?_
      refine s_val (v := (.int .i64 (IntKind.wrap .i64 (s193 + 1)))) (won rfl) rfl rfl (x_assign rfl (ev (t := 16) rfl rfl)) ?_
      refine wpList_nil ?_
      refine nx ?_
      exact ⟨(IntKind.wrap .i64 (s193 + 1)), _, he, rfl, q191, q192, rfl, Mem.pick [0] rfl hm225⟩
    ·
     replace he := bifF he hb214
     refine c_false rfl (p := (decide (s193 < (a0.length : Int)))) rfl rfl hb214 ?_
     refine wp_exit ?_
     refine xs ?_
     refine xs ?_
     refine xb ?_
     refine nx ?_
     obtain rfl := Option.some.inj he
     exact ⟨(), _, rfl, rfl, Mem.pick [0] rfl hm212⟩
  ·
   rintro a w ⟨s170, f, rfl, rfl, hm228⟩
   replace he := goE hk172
   refine wp_seq ?_
   refine wp_region_lit ?_
   refine s_val (v := (.bool true)) (won rfl) rfl rfl (x_assign rfl rfl) ?_
   refine wpList_nil ?_
   refine nx ?_
   refine wp_ret ?_
   obtain rfl := Option.some.inj he
   refine r_ret (v := (.bool true)) (rv_one rfl (RVs.tmp (v := (.bool true)) rfl rfl RVs.nil)) rfl ?_
   exact ⟨rfl, Mem.pick [0] rfl hm228⟩
def laws_eqPoolAct (a0 : impl_PoolAct) (a1 : impl_PoolAct) : Option (Bool) := (bif (!decide (a0.Kind = a1.Kind)) then (some false) else (bif (!decide (a0.Owner = a1.Owner)) then (some false) else (bif (!decide (a0.To = a1.To)) then (some false) else (bif (!decide (a0.Buffer = a1.Buffer)) then (some false) else (some true)))))
set_option maxHeartbeats 400000 in
set_option maxRecDepth 100000 in
theorem laws_eqPoolAct_ok {w0 w : World} {hR hF : Hp} (a0 : impl_PoolAct) (a1 : impl_PoolAct) {r : (Bool)} (hm : Mem w0 w (cat [hF])) (he : laws_eqPoolAct a0 a1 = some r) :
    Calls Try.prog 72 #[(.agg #[(.int .i64 a0.Kind), (.int .i64 a0.Owner), (.int .i64 a0.To), (.int .i64 a0.Buffer)]), (.agg #[(.int .i64 a1.Kind), (.int .i64 a1.Owner), (.int .i64 a1.To), (.int .i64 a1.Buffer)])] w (fun e w' => e = .returned (.bool r) ∧ Mem w0 w' (cat [hF])) := by
 refine calls_fr (n := 25) Try.func72 rfl rfl rfl ?_
 unfold laws_eqPoolAct at he
 refine wp_seq ?_
 refine wp_region_lit ?_
 refine s_exv (won rfl) rfl rfl (e_box (vs := [(.int .i64 a0.Kind), (.int .i64 a0.Owner), (.int .i64 a0.To), (.int .i64 a0.Buffer)]) rfl (ev (t := 0) rfl rfl) rfl hm) ?_
 rintro g25 w26 hm27
 refine s_exv (won rfl) rfl rfl (e_box (vs := [(.int .i64 a1.Kind), (.int .i64 a1.Owner), (.int .i64 a1.To), (.int .i64 a1.Buffer)]) rfl (ev (t := 1) rfl rfl) rfl hm27) ?_
 rintro g29 w30 hm31
 refine s_val (v := (.bool false)) (won rfl) rfl rfl (x_assign rfl rfl) ?_
 refine wpList_nil ?_
 refine nx ?_
 refine wp_seq ?_
 refine wp_seq ?_
 refine wp_region_lit ?_
 refine s_val (v := (.pointer (some ⟨g25, 0, none⟩))) (won rfl) rfl rfl (x_field rfl fa_39x0 (ev (t := 2) rfl rfl)) ?_
 refine s_val (v := (.int .i64 a0.Kind)) (won rfl) rfl rfl (x_load rfl ty1x3 (ev (t := 5) rfl rfl) (seg_cell (o' := 0) (j := 0) hm31 (k := 1) rfl rfl rfl)) ?_
 refine s_val (v := (.pointer (some ⟨g29, 0, none⟩))) (won rfl) rfl rfl (x_field rfl fa_39x0 (ev (t := 3) rfl rfl)) ?_
 refine s_val (v := (.int .i64 a1.Kind)) (won rfl) rfl rfl (x_load rfl ty1x3 (ev (t := 7) rfl rfl) (seg_cell (o' := 0) (j := 0) hm31 (k := 0) rfl rfl rfl)) ?_
 refine s_val (v := (.bool (!decide (a0.Kind = a1.Kind)))) (won rfl) rfl rfl (x_neq rfl (ev (t := 6) rfl rfl) (ev (t := 8) rfl rfl)) ?_
 refine wpList_nil ?_
 refine nx ?_
 rcases Bool.eq_false_or_eq_true ((!decide (a0.Kind = a1.Kind))) with hb35 | hb35
 ·
  replace he := bifT he hb35
  refine c_true rfl (p := (!decide (a0.Kind = a1.Kind))) rfl rfl hb35 ?_
  refine wp_seq ?_
  refine wp_region_lit ?_
  refine s_val (v := (.bool false)) (won rfl) rfl rfl (x_assign rfl rfl) ?_
  refine wpList_nil ?_
  have hm36 : Mem w0 w30 (cat [hF]) := Mem.pick [2] rfl hm31
  refine nx ?_
  refine wp_ret ?_
  refine xr ?_
  obtain rfl := Option.some.inj he
  refine r_ret (v := (.bool false)) (rv_one rfl (RVs.tmp (v := (.bool false)) rfl rfl RVs.nil)) rfl ?_
  exact ⟨rfl, Mem.pick [0] rfl hm36⟩
 ·
  replace he := bifF he hb35
  refine c_false rfl (p := (!decide (a0.Kind = a1.Kind))) rfl rfl hb35 ?_
  refine wp_skip ?_
  refine nx ?_
  refine wp_seq ?_
  refine wp_seq ?_
  refine wp_region_lit ?_
  refine s_val (v := (.pointer (some ⟨g25, 1, none⟩))) (won rfl) rfl rfl (x_field rfl fa_39x1 (ev (t := 2) rfl rfl)) ?_
  refine s_val (v := (.int .i64 a0.Owner)) (won rfl) rfl rfl (x_load rfl ty1x3 (ev (t := 10) rfl rfl) (seg_cell (o' := 0) (j := 1) hm31 (k := 1) rfl rfl rfl)) ?_
  refine s_val (v := (.pointer (some ⟨g29, 1, none⟩))) (won rfl) rfl rfl (x_field rfl fa_39x1 (ev (t := 3) rfl rfl)) ?_
  refine s_val (v := (.int .i64 a1.Owner)) (won rfl) rfl rfl (x_load rfl ty1x3 (ev (t := 12) rfl rfl) (seg_cell (o' := 0) (j := 1) hm31 (k := 0) rfl rfl rfl)) ?_
  refine s_val (v := (.bool (!decide (a0.Owner = a1.Owner)))) (won rfl) rfl rfl (x_neq rfl (ev (t := 11) rfl rfl) (ev (t := 13) rfl rfl)) ?_
  refine wpList_nil ?_
  refine nx ?_
  rcases Bool.eq_false_or_eq_true ((!decide (a0.Owner = a1.Owner))) with hb39 | hb39
  ·
   replace he := bifT he hb39
   refine c_true rfl (p := (!decide (a0.Owner = a1.Owner))) rfl rfl hb39 ?_
   refine wp_seq ?_
   refine wp_region_lit ?_
   refine s_val (v := (.bool false)) (won rfl) rfl rfl (x_assign rfl rfl) ?_
   refine wpList_nil ?_
   have hm40 : Mem w0 w30 (cat [hF]) := Mem.pick [2] rfl hm31
   refine nx ?_
   refine wp_ret ?_
   refine xr ?_
   obtain rfl := Option.some.inj he
   refine r_ret (v := (.bool false)) (rv_one rfl (RVs.tmp (v := (.bool false)) rfl rfl RVs.nil)) rfl ?_
   exact ⟨rfl, Mem.pick [0] rfl hm40⟩
  ·
   replace he := bifF he hb39
   refine c_false rfl (p := (!decide (a0.Owner = a1.Owner))) rfl rfl hb39 ?_
   refine wp_skip ?_
   refine nx ?_
   refine wp_seq ?_
   refine wp_seq ?_
   refine wp_region_lit ?_
   refine s_val (v := (.pointer (some ⟨g25, 2, none⟩))) (won rfl) rfl rfl (x_field rfl fa_39x2 (ev (t := 2) rfl rfl)) ?_
   refine s_val (v := (.int .i64 a0.To)) (won rfl) rfl rfl (x_load rfl ty1x3 (ev (t := 15) rfl rfl) (seg_cell (o' := 0) (j := 2) hm31 (k := 1) rfl rfl rfl)) ?_
   refine s_val (v := (.pointer (some ⟨g29, 2, none⟩))) (won rfl) rfl rfl (x_field rfl fa_39x2 (ev (t := 3) rfl rfl)) ?_
   refine s_val (v := (.int .i64 a1.To)) (won rfl) rfl rfl (x_load rfl ty1x3 (ev (t := 17) rfl rfl) (seg_cell (o' := 0) (j := 2) hm31 (k := 0) rfl rfl rfl)) ?_
   refine s_val (v := (.bool (!decide (a0.To = a1.To)))) (won rfl) rfl rfl (x_neq rfl (ev (t := 16) rfl rfl) (ev (t := 18) rfl rfl)) ?_
   refine wpList_nil ?_
   refine nx ?_
   rcases Bool.eq_false_or_eq_true ((!decide (a0.To = a1.To))) with hb43 | hb43
   ·
    replace he := bifT he hb43
    refine c_true rfl (p := (!decide (a0.To = a1.To))) rfl rfl hb43 ?_
    refine wp_seq ?_
    refine wp_region_lit ?_
    refine s_val (v := (.bool false)) (won rfl) rfl rfl (x_assign rfl rfl) ?_
    refine wpList_nil ?_
    have hm44 : Mem w0 w30 (cat [hF]) := Mem.pick [2] rfl hm31
    refine nx ?_
    refine wp_ret ?_
    refine xr ?_
    obtain rfl := Option.some.inj he
    refine r_ret (v := (.bool false)) (rv_one rfl (RVs.tmp (v := (.bool false)) rfl rfl RVs.nil)) rfl ?_
    exact ⟨rfl, Mem.pick [0] rfl hm44⟩
   ·
    replace he := bifF he hb43
    refine c_false rfl (p := (!decide (a0.To = a1.To))) rfl rfl hb43 ?_
    refine wp_skip ?_
    refine nx ?_
    refine wp_seq ?_
    refine wp_seq ?_
    refine wp_region_lit ?_
    refine s_val (v := (.pointer (some ⟨g25, 3, none⟩))) (won rfl) rfl rfl (x_field rfl fa_39x3 (ev (t := 2) rfl rfl)) ?_
    refine s_val (v := (.int .i64 a0.Buffer)) (won rfl) rfl rfl (x_load rfl ty1x3 (ev (t := 20) rfl rfl) (seg_cell (o' := 0) (j := 3) hm31 (k := 1) rfl rfl rfl)) ?_
    refine s_val (v := (.pointer (some ⟨g29, 3, none⟩))) (won rfl) rfl rfl (x_field rfl fa_39x3 (ev (t := 3) rfl rfl)) ?_
    refine s_val (v := (.int .i64 a1.Buffer)) (won rfl) rfl rfl (x_load rfl ty1x3 (ev (t := 22) rfl rfl) (seg_cell (o' := 0) (j := 3) hm31 (k := 0) rfl rfl rfl)) ?_
    refine s_val (v := (.bool (!decide (a0.Buffer = a1.Buffer)))) (won rfl) rfl rfl (x_neq rfl (ev (t := 21) rfl rfl) (ev (t := 23) rfl rfl)) ?_
    refine wpList_nil ?_
    have hm47 : Mem w0 w30 (cat [hF]) := Mem.pick [2] rfl hm31
    refine nx ?_
    rcases Bool.eq_false_or_eq_true ((!decide (a0.Buffer = a1.Buffer))) with hb48 | hb48
    ·
     replace he := bifT he hb48
     refine c_true rfl (p := (!decide (a0.Buffer = a1.Buffer))) rfl rfl hb48 ?_
     refine wp_seq ?_
     refine wp_region_lit ?_
     refine s_val (v := (.bool false)) (won rfl) rfl rfl (x_assign rfl rfl) ?_
     refine wpList_nil ?_
     refine nx ?_
     refine wp_ret ?_
     refine xr ?_
     obtain rfl := Option.some.inj he
     refine r_ret (v := (.bool false)) (rv_one rfl (RVs.tmp (v := (.bool false)) rfl rfl RVs.nil)) rfl ?_
     exact ⟨rfl, Mem.pick [0] rfl hm47⟩
    ·
     replace he := bifF he hb48
     refine c_false rfl (p := (!decide (a0.Buffer = a1.Buffer))) rfl rfl hb48 ?_
     refine wp_skip ?_
     refine nx ?_
     refine wp_seq ?_
     refine wp_region_lit ?_
     refine s_val (v := (.bool true)) (won rfl) rfl rfl (x_assign rfl rfl) ?_
     refine wpList_nil ?_
     refine nx ?_
     refine wp_ret ?_
     obtain rfl := Option.some.inj he
     refine r_ret (v := (.bool true)) (rv_one rfl (RVs.tmp (v := (.bool true)) rfl rfl RVs.nil)) rfl ?_
     exact ⟨rfl, Mem.pick [0] rfl hm47⟩
def laws_eqPoolActS_l1 (F : Nat) (a0 : (List impl_PoolAct)) (a1 : (List impl_PoolAct)) : Nat → Int → Option (Fl (Bool) (Unit))
  | 0, _ => none
  | k + 1, s193 => (bif (decide (s193 < (a0.length : Int))) then gd ((0 : Int) ≤ s193 ∧ s193 < (a0.length : Int)) (gd ((0 : Int) ≤ s193 ∧ s193 < (a1.length : Int)) ((laws_eqPoolAct (impl_PoolAct.mk (ix a0 s193).Kind (ix a0 s193).Owner (ix a0 s193).To (ix a0 s193).Buffer) (impl_PoolAct.mk (ix a1 s193).Kind (ix a1 s193).Owner (ix a1 s193).To (ix a1 s193).Buffer)).bind fun r223 => (bif (!r223) then (some (Fl.out false)) else laws_eqPoolActS_l1 F a0 a1 k (IntKind.wrap .i64 (s193 + 1))))) else (some (Fl.go ())))
def laws_eqPoolActS (F : Nat) (a0 : (List impl_PoolAct)) (a1 : (List impl_PoolAct)) : Option (Bool) := (bif (!decide ((a0.length : Int) = (a1.length : Int))) then (some false) else (laws_eqPoolActS_l1 F a0 a1 F 0 : Option (Fl (Bool) (Unit))).bind fun l171 => l171.on fun (s170 : (Unit)) => (some true))
set_option maxHeartbeats 400000 in
set_option maxRecDepth 100000 in
theorem laws_eqPoolActS_ok (F : Nat) {w0 w : World} {hR hF : Hp} {v0x0 : Value} {v1x0 : Value} (a0 : (List impl_PoolAct)) (a1 : (List impl_PoolAct)) {r : (Bool)} (H0x0 : RdF w0 impl_PoolAct.K v0x0 a0 hR) (H1x0 : RdF w0 impl_PoolAct.K v1x0 a1 hR) (hs : Sub hR hF) (hm : Mem w0 w (cat [hF])) (he : laws_eqPoolActS F a0 a1 = some r) :
    Calls Try.prog 29 #[v0x0, v1x0] w (fun e w' => e = .returned (.bool r) ∧ Mem w0 w' (cat [hF])) := by
 refine calls_fr (n := 27) Try.func29 rfl rfl rfl ?_
 unfold laws_eqPoolActS at he
 refine wp_seq ?_
 refine wp_region_lit ?_
 refine s_val (v := (.bool false)) (won rfl) rfl rfl (x_assign rfl rfl) ?_
 refine wpList_nil ?_
 refine nx ?_
 refine wp_seq ?_
 refine wp_seq ?_
 refine wp_region_lit ?_
 refine s_val (v := v0x0) (won rfl) rfl rfl (x_move rfl (ev (t := 0) rfl rfl)) ?_
 refine s_val (v := (.int .i64 (a0.length : Int))) (won rfl) rfl rfl (x_len rfl slt_24 (ev (t := 6) rfl rfl) (H0x0).sl) ?_
 refine s_val (v := v1x0) (won rfl) rfl rfl (x_move rfl (ev (t := 1) rfl rfl)) ?_
 refine s_val (v := (.int .i64 (a1.length : Int))) (won rfl) rfl rfl (x_len rfl slt_24 (ev (t := 8) rfl rfl) (H1x0).sl) ?_
 refine s_val (v := (.bool (!decide ((a0.length : Int) = (a1.length : Int))))) (won rfl) rfl rfl (x_neq rfl (ev (t := 7) rfl rfl) (ev (t := 9) rfl rfl)) ?_
 refine wpList_nil ?_
 refine nx ?_
 rcases Bool.eq_false_or_eq_true ((!decide ((a0.length : Int) = (a1.length : Int)))) with hb116 | hb116
 ·
  replace he := bifT he hb116
  refine c_true rfl (p := (!decide ((a0.length : Int) = (a1.length : Int)))) rfl rfl hb116 ?_
  refine wp_seq ?_
  refine wp_region_lit ?_
  refine s_val (v := (.bool false)) (won rfl) rfl rfl (x_assign rfl rfl) ?_
  refine wpList_nil ?_
  refine nx ?_
  refine wp_ret ?_
  refine xr ?_
  obtain rfl := Option.some.inj he
  refine r_ret (v := (.bool false)) (rv_one rfl (RVs.tmp (v := (.bool false)) rfl rfl RVs.nil)) rfl ?_
  exact ⟨rfl, Mem.pick [0] rfl hm⟩
 ·
  replace he := bifF he hb116
  refine c_false rfl (p := (!decide ((a0.length : Int) = (a1.length : Int)))) rfl rfl hb116 ?_
  refine wp_skip ?_
  refine nx ?_
  obtain ⟨l171, hT173, hk172⟩ := bindE he
  replace he := hT173
  refine wp_seqJ (fun a w => ∃ (s170 : (Unit)) (f : Nat → Value), l171 = Fl.go s170 ∧ a = fr 27 f ∧ Mem w0 w (cat [hF])) ?_ ?_
  ·
   refine wp_seq ?_
   refine wp_region_lit ?_
   refine s_val (v := (.int .i64 0)) (won rfl) rfl rfl (x_assign rfl rfl) ?_
   refine wpList_nil ?_
   refine nx ?_
   refine wp_block ?_
   refine wp_fuel (I := fun k => fun a w => ∃ (s193 : Int) (f : Nat → Value), laws_eqPoolActS_l1 F a0 a1 k s193 = some l171 ∧ a = fr 27 f ∧ f 0 = v0x0 ∧ f 1 = v1x0 ∧ f 5 = (.int .i64 s193) ∧ Mem w0 w (cat [hF])) F _ _ ⟨0, _, he, rfl, rfl, rfl, rfl, Mem.pick [0] rfl hm⟩ ?_ ?_
   ·
    rintro a w ⟨s193, f, he, rfl, q191, q192, q194, hm210⟩
    rw [laws_eqPoolActS_l1] at he; exact none_no he
   ·
    rintro k a w ⟨s193, f, he, rfl, q191, q192, q194, hm212⟩
    rw [laws_eqPoolActS_l1] at he
    refine wp_seq ?_
    refine wp_seq ?_
    refine wp_region_lit ?_
    refine s_val (v := (.int .i64 s193)) (won rfl) rfl rfl (x_move rfl (ev (t := 5) (v := (.int .i64 s193)) rfl q194)) ?_
    refine s_val (v := v0x0) (won rfl) rfl rfl (x_move rfl (ev (t := 0) (v := v0x0) rfl q191)) ?_
    refine s_val (v := (.int .i64 (a0.length : Int))) (won rfl) rfl rfl (x_len rfl slt_24 (ev (t := 12) rfl rfl) (H0x0).sl) ?_
    refine s_val (v := (.bool (decide (s193 < (a0.length : Int))))) (won rfl) rfl rfl (x_lss rfl (ev (t := 11) rfl rfl) (ev (t := 13) rfl rfl)) ?_
    refine wpList_nil ?_
    refine nx ?_
    rcases Bool.eq_false_or_eq_true ((decide (s193 < (a0.length : Int)))) with hb214 | hb214
    ·
     replace he := bifT he hb214
     refine c_true rfl (p := (decide (s193 < (a0.length : Int)))) rfl rfl hb214 ?_
     refine wp_skip ?_
     refine nx ?_
     refine wp_seq ?_
     refine wp_block ?_
     refine wp_seq ?_
     obtain ⟨hg221, he⟩ := gdE he
     obtain ⟨hg222, he⟩ := gdE he
     obtain ⟨r223, hr223, he⟩ := bindE he
     refine wp_qregion (cat [hF]) mixed (by kernel_rfl) hm212 ?_
     refine q_val (v := v0x0) (won rfl) rfl rfl (fun wq hq => (x_move rfl (ev (t := 0) (v := v0x0) rfl q191))) ?_
     refine q_val (v := (.int .i64 s193)) (won rfl) rfl rfl (fun wq hq => (x_move rfl (ev (t := 5) (v := (.int .i64 s193)) rfl q194))) ?_
     refine q_val (v := (.pointer (some ((slA v0x0).add (Int.toNat s193 * 4))))) (won rfl) rfl rfl (fun wq hq => (x_index (d := impl_PoolAct.K) rfl slt_24 (ev (t := 17) rfl rfl) (ev (t := 18) rfl rfl) H0x0 hg221.1 hg221.2)) ?_
     refine q_val (v := (.agg #[(.int .i64 (ix a0 s193).Kind), (.int .i64 (ix a0 s193).Owner), (.int .i64 (ix a0 s193).To), (.int .i64 (ix a0 s193).Buffer)])) (won rfl) rfl rfl (fun wq hq => (x_loadN (vs := [(.int .i64 (ix a0 s193).Kind), (.int .i64 (ix a0 s193).Owner), (.int .i64 (ix a0 s193).To), (.int .i64 (ix a0 s193).Buffer)]) rfl tyN_39 (ev (t := 19) rfl rfl) (RdF.cells H0x0 hq (Sub.trans hs (Sub.at_ (k := 0) rfl)) hg221.1 hg221.2))) ?_
     refine q_val (v := v1x0) (won rfl) rfl rfl (fun wq hq => (x_move rfl (ev (t := 1) (v := v1x0) rfl q192))) ?_
     refine q_val (v := (.int .i64 s193)) (won rfl) rfl rfl (fun wq hq => (x_move rfl (ev (t := 5) (v := (.int .i64 s193)) rfl q194))) ?_
     refine q_val (v := (.pointer (some ((slA v1x0).add (Int.toNat s193 * 4))))) (won rfl) rfl rfl (fun wq hq => (x_index (d := impl_PoolAct.K) rfl slt_24 (ev (t := 21) rfl rfl) (ev (t := 22) rfl rfl) H1x0 hg222.1 hg222.2)) ?_
     refine q_val (v := (.agg #[(.int .i64 (ix a1 s193).Kind), (.int .i64 (ix a1 s193).Owner), (.int .i64 (ix a1 s193).To), (.int .i64 (ix a1 s193).Buffer)])) (won rfl) rfl rfl (fun wq hq => (x_loadN (vs := [(.int .i64 (ix a1 s193).Kind), (.int .i64 (ix a1 s193).Owner), (.int .i64 (ix a1 s193).To), (.int .i64 (ix a1 s193).Buffer)]) rfl tyN_39 (ev (t := 23) rfl rfl) (RdF.cells H1x0 hq (Sub.trans hs (Sub.at_ (k := 0) rfl)) hg222.1 hg222.2))) ?_
     refine q_call (v := (.bool r223)) (won rfl) rfl rfl (fun wq hq => (x_call rfl rfl cl_72 (map_lit (map_cons (ev (t := 20) rfl rfl) (map_cons (ev (t := 24) rfl rfl) map_nil))))) (fun wq hq => ((laws_eqPoolAct_ok (hR := (cat [])) (hF := cat [hF]) (impl_PoolAct.mk (ix a0 s193).Kind (ix a0 s193).Owner (ix a0 s193).To (ix a0 s193).Buffer) (impl_PoolAct.mk (ix a1 s193).Kind (ix a1 s193).Owner (ix a1 s193).To (ix a1 s193).Buffer)  (Mem.one hq) hr223)).mono fun e w2 h => ⟨h.1, Mem.un h.2⟩) ?_
     refine q_val (v := (.bool (!r223))) (won rfl) rfl rfl (fun wq hq => (x_not rfl (ev (t := 25) rfl rfl))) ?_
     refine wpQuiet_nil ?_
     intro w224 hm225
     refine nx ?_
     rcases Bool.eq_false_or_eq_true ((!r223)) with hb226 | hb226
     ·
      replace he := bifT he hb226
      refine c_true rfl (p := (!r223)) rfl rfl hb226 ?_
      refine wp_seq ?_
      refine wp_region_lit ?_
      refine s_val (v := (.bool false)) (won rfl) rfl rfl (x_assign rfl rfl) ?_
      refine wpList_nil ?_
      refine nx ?_
      refine wp_ret ?_
      refine rb ?_
      refine xr ?_
      refine xr ?_
      refine rb ?_
      refine xr ?_
      obtain rfl := Option.some.inj he
      replace he := outE hk172
      obtain rfl := Option.some.inj he
      refine r_ret (v := (.bool false)) (rv_one rfl (RVs.tmp (v := (.bool false)) rfl rfl RVs.nil)) rfl ?_
      exact ⟨rfl, Mem.pick [0] rfl hm225⟩
     ·
      replace he := bifF he hb226
      refine c_false rfl (p := (!r223)) rfl rfl hb226 ?_
      refine wp_skip ?_
      refine nb ?_
      refine nx ?_
      refine wp_region_lit ?_
      refine s_val (v := (.int .i64 s193)) (won rfl) rfl rfl (x_move rfl (ev (t := 5) (v := (.int .i64 s193)) rfl q194)) ?_
      refine s_val (v := (.int .i64 (IntKind.wrap .i64 (s193 + 1)))) (won rfl) rfl rfl (x_add rfl (ev (t := 15) rfl rfl) rfl) ?_
      refine s_val (v := (.int .i64 (IntKind.wrap .i64 (s193 + 1)))) (won rfl) rfl rfl (x_assign rfl (ev (t := 16) rfl rfl)) ?_
      refine wpList_nil ?_
      refine nx ?_
      exact ⟨(IntKind.wrap .i64 (s193 + 1)), _, he, rfl, q191, q192, rfl, Mem.pick [0] rfl hm225⟩
    ·
     replace he := bifF he hb214
     refine c_false rfl (p := (decide (s193 < (a0.length : Int)))) rfl rfl hb214 ?_
     refine wp_exit ?_
     refine xs ?_
     refine xs ?_
     refine xb ?_
     refine nx ?_
     obtain rfl := Option.some.inj he
     exact ⟨(), _, rfl, rfl, Mem.pick [0] rfl hm212⟩
  ·
   rintro a w ⟨s170, f, rfl, rfl, hm228⟩
   replace he := goE hk172
   refine wp_seq ?_
   refine wp_region_lit ?_
   refine s_val (v := (.bool true)) (won rfl) rfl rfl (x_assign rfl rfl) ?_
   refine wpList_nil ?_
   refine nx ?_
   refine wp_ret ?_
   obtain rfl := Option.some.inj he
   refine r_ret (v := (.bool true)) (rv_one rfl (RVs.tmp (v := (.bool true)) rfl rfl RVs.nil)) rfl ?_
   exact ⟨rfl, Mem.pick [0] rfl hm228⟩
def laws_markPoolActS_l1 (F : Nat) : Nat → (List impl_PoolAct) → Int → Int → Option ((List impl_PoolAct) × Int)
  | 0, _, _, _ => none
  | k + 1, s689, s693, s695 => (bif (decide (s695 < (s689.length : Int))) then gd ((0 : Int) ≤ s695 ∧ s695 < (s689.length : Int)) (gd ((0 : Int) ≤ s695 ∧ s695 < ((List.set s689 (Int.toNat s695) (impl_PoolAct.mk s693 (ix s689 s695).Owner (ix s689 s695).To (ix s689 s695).Buffer)).length : Int)) (gd ((0 : Int) ≤ s695 ∧ s695 < ((List.set s689 (Int.toNat s695) (impl_PoolAct.mk s693 (IntKind.wrap .i64 (s693 + 1)) (ix s689 s695).To (ix s689 s695).Buffer)).length : Int)) (gd ((0 : Int) ≤ s695 ∧ s695 < ((List.set s689 (Int.toNat s695) (impl_PoolAct.mk s693 (IntKind.wrap .i64 (s693 + 1)) (IntKind.wrap .i64 ((IntKind.wrap .i64 (s693 + 1)) + 1)) (ix s689 s695).Buffer)).length : Int)) (laws_markPoolActS_l1 F k (List.set s689 (Int.toNat s695) (impl_PoolAct.mk s693 (IntKind.wrap .i64 (s693 + 1)) (IntKind.wrap .i64 ((IntKind.wrap .i64 (s693 + 1)) + 1)) (IntKind.wrap .i64 ((IntKind.wrap .i64 ((IntKind.wrap .i64 (s693 + 1)) + 1)) + 1)))) (IntKind.wrap .i64 ((IntKind.wrap .i64 ((IntKind.wrap .i64 ((IntKind.wrap .i64 (s693 + 1)) + 1)) + 1)) + 1)) (IntKind.wrap .i64 (s695 + 1)))))) else (some (s689, s693)))
def laws_markPoolActS (F : Nat) (a0 : (List impl_PoolAct)) (a1 : Int) : Option (Int × (List impl_PoolAct)) := (laws_markPoolActS_l1 F F a0 a1 0 : Option ((List impl_PoolAct) × Int)).bind fun (s592 : ((List impl_PoolAct) × Int)) => (some (s592.2, s592.1))
set_option maxHeartbeats 400000 in
set_option maxRecDepth 100000 in
theorem laws_markPoolActS_ok (F : Nat) {w0 w : World} {hR hF : Hp} {v0x0 : Value} {h0x0 : Hp} (a0 : (List impl_PoolAct)) (a1 : Int) {r : (Int × (List impl_PoolAct))} (H0x0 : OwF 39 impl_PoolAct.K v0x0 a0 h0x0) (hm : Mem w0 w (cat [h0x0, hF])) (he : laws_markPoolActS F a0 a1 = some r) :
    Calls Try.prog 30 #[v0x0, (.int .i64 a1)] w (fun e w' => ∃ (h'0 : Hp), e = .returned (.int .i64 r.1) ∧ OwF 39 impl_PoolAct.K v0x0 r.2 h'0 ∧ Mem w0 w' (cat [h'0, hF])) := by
 refine calls_fr (n := 41) Try.func30 rfl rfl rfl ?_
 unfold laws_markPoolActS at he
 refine wp_seq ?_
 refine wp_region_lit ?_
 refine s_val (v := (.int .i64 0)) (won rfl) rfl rfl (x_assign rfl rfl) ?_
 refine wpList_nil ?_
 refine nx ?_
 obtain ⟨s592, hT594, hk593⟩ := bindE he
 replace he := hT594
 refine wp_seqJ (fun a w => ∃ (h588 : Hp) (f : Nat → Value), a = fr 41 f ∧ f 1 = (.int .i64 s592.2) ∧ OwF 39 impl_PoolAct.K v0x0 s592.1 h588 ∧ Mem w0 w (cat [h588, hF])) ?_ ?_
 ·
  refine wp_seq ?_
  refine wp_region_lit ?_
  refine s_val (v := (.int .i64 0)) (won rfl) rfl rfl (x_assign rfl rfl) ?_
  refine wpList_nil ?_
  refine nx ?_
  refine wp_block ?_
  refine wp_fuel (I := fun k => fun a w => ∃ (s689 : (List impl_PoolAct)) (s693 : Int) (s695 : Int) (h690 : Hp) (f : Nat → Value), laws_markPoolActS_l1 F k s689 s693 s695 = some s592 ∧ a = fr 41 f ∧ f 0 = v0x0 ∧ f 1 = (.int .i64 s693) ∧ f 5 = (.int .i64 s695) ∧ OwF 39 impl_PoolAct.K v0x0 s689 h690 ∧ Mem w0 w (cat [h690, hF])) F _ _ ⟨a0, a1, 0, h0x0, _, he, rfl, rfl, rfl, rfl, H0x0, Mem.pick [0, 1] rfl hm⟩ ?_ ?_
  ·
   rintro a w ⟨s689, s693, s695, h690, f, he, rfl, q692, q694, q696, H691, hm740⟩
   rw [laws_markPoolActS_l1] at he; exact none_no he
  ·
   rintro k a w ⟨s689, s693, s695, h690, f, he, rfl, q692, q694, q696, H691, hm742⟩
   rw [laws_markPoolActS_l1] at he
   refine wp_seq ?_
   refine wp_seq ?_
   refine wp_region_lit ?_
   refine s_val (v := (.int .i64 s695)) (won rfl) rfl rfl (x_move rfl (ev (t := 5) (v := (.int .i64 s695)) rfl q696)) ?_
   refine s_val (v := v0x0) (won rfl) rfl rfl (x_move rfl (ev (t := 0) (v := v0x0) rfl q692)) ?_
   refine s_val (v := (.int .i64 (s689.length : Int))) (won rfl) rfl rfl (x_len rfl slt_24 (ev (t := 7) rfl rfl) (H691).sl) ?_
   refine s_val (v := (.bool (decide (s695 < (s689.length : Int))))) (won rfl) rfl rfl (x_lss rfl (ev (t := 6) rfl rfl) (ev (t := 8) rfl rfl)) ?_
   refine wpList_nil ?_
   refine nx ?_
   rcases Bool.eq_false_or_eq_true ((decide (s695 < (s689.length : Int)))) with hb744 | hb744
   ·
    replace he := bifT he hb744
    refine c_true rfl (p := (decide (s695 < (s689.length : Int)))) rfl rfl hb744 ?_
    refine wp_skip ?_
    refine nx ?_
    refine wp_seq ?_
    refine wp_block ?_
    refine wp_seq ?_
    obtain ⟨hg765, he⟩ := gdE he
    refine wp_region_lit ?_
    refine s_val (v := v0x0) (won rfl) rfl rfl (x_move rfl (ev (t := 0) (v := v0x0) rfl q692)) ?_
    refine s_val (v := (.int .i64 s695)) (won rfl) rfl rfl (x_move rfl (ev (t := 5) (v := (.int .i64 s695)) rfl q696)) ?_
    refine s_val (v := (.int .i64 s693)) (won rfl) rfl rfl (x_move rfl (ev (t := 1) (v := (.int .i64 s693)) rfl q694)) ?_
    refine s_val (v := (.pointer (some ((slA v0x0).add (Int.toNat s695 * 4))))) (won rfl) rfl rfl (x_index (d := impl_PoolAct.K) rfl slt_24 (ev (t := 12) rfl rfl) (ev (t := 13) rfl rfl) (H691.rd w0) hg765.1 hg765.2) ?_
    refine s_val (v := (.pointer (some (((slA v0x0).add (Int.toNat s695 * 4)).add 0)))) (won rfl) rfl rfl (x_fielda rfl fa_39x0 (ev (t := 15) rfl rfl)) ?_
    refine s_exw (won rfl) rfl (e_storeF (d := impl_PoolAct.K) (s := (impl_PoolAct.mk s693 (ix s689 s695).Owner (ix s689 s695).To (ix s689 s695).Buffer)) (vs := [(.int .i64 s693)]) (j := 0) rfl sz_3 (ev (t := 16) rfl rfl) rfl (ev (t := 14) rfl rfl) rfl rfl H691 hg765.1 hg765.2 rfl rfl hm742 (k := 0) rfl) ?_
    rintro h766 w768 ⟨H767, hm769⟩
    replace hm769 : Mem w0 w768 (cat [h766, hF]) := hm769
    refine wpList_nil ?_
    refine nx ?_
    refine wp_seq ?_
    refine wp_region_lit ?_
    refine s_val (v := (.int .i64 s693)) (won rfl) rfl rfl (x_move rfl (ev (t := 1) (v := (.int .i64 s693)) rfl q694)) ?_
    refine s_val (v := (.int .i64 (IntKind.wrap .i64 (s693 + 1)))) (won rfl) rfl rfl (x_add rfl (ev (t := 17) rfl rfl) rfl) ?_
    refine s_val (v := (.int .i64 (IntKind.wrap .i64 (s693 + 1)))) (won rfl) rfl rfl (x_assign rfl (ev (t := 18) rfl rfl)) ?_
    refine wpList_nil ?_
    refine nx ?_
    refine wp_seq ?_
    obtain ⟨hg770, he⟩ := gdE he
    refine wp_region_lit ?_
    refine s_val (v := v0x0) (won rfl) rfl rfl (x_move rfl (ev (t := 0) (v := v0x0) rfl q692)) ?_
    refine s_val (v := (.int .i64 s695)) (won rfl) rfl rfl (x_move rfl (ev (t := 5) (v := (.int .i64 s695)) rfl q696)) ?_
    refine s_val (v := (.int .i64 (IntKind.wrap .i64 (s693 + 1)))) (won rfl) rfl rfl (x_move rfl (ev (t := 1) rfl rfl)) ?_
    refine s_val (v := (.pointer (some ((slA v0x0).add (Int.toNat s695 * 4))))) (won rfl) rfl rfl (x_index (d := impl_PoolAct.K) rfl slt_24 (ev (t := 19) rfl rfl) (ev (t := 20) rfl rfl) (H767.rd w0) hg770.1 hg770.2) ?_
    refine s_val (v := (.pointer (some (((slA v0x0).add (Int.toNat s695 * 4)).add 1)))) (won rfl) rfl rfl (x_fielda rfl fa_39x1 (ev (t := 22) rfl rfl)) ?_
    refine s_exw (won rfl) rfl (e_storeF (d := impl_PoolAct.K) (s := (impl_PoolAct.mk s693 (IntKind.wrap .i64 (s693 + 1)) (ix s689 s695).To (ix s689 s695).Buffer)) (vs := [(.int .i64 (IntKind.wrap .i64 (s693 + 1)))]) (j := 1) rfl sz_3 (ev (t := 23) rfl rfl) rfl (ev (t := 21) rfl rfl) rfl rfl H767 hg770.1 hg770.2 rfl (by rw [ix_set_self hg770.1 (by have := hg770.2; rwa [List.length_set] at this)]; rfl) hm769 (k := 0) rfl) ?_
    rintro h771 w773 ⟨H772, hm774⟩
    rw [List.set_set] at H772
    replace hm774 : Mem w0 w773 (cat [h771, hF]) := hm774
    refine wpList_nil ?_
    refine nx ?_
    refine wp_seq ?_
    refine wp_region_lit ?_
    refine s_val (v := (.int .i64 (IntKind.wrap .i64 (s693 + 1)))) (won rfl) rfl rfl (x_move rfl (ev (t := 1) rfl rfl)) ?_
    refine s_val (v := (.int .i64 (IntKind.wrap .i64 ((IntKind.wrap .i64 (s693 + 1)) + 1)))) (won rfl) rfl rfl (x_add rfl (ev (t := 24) rfl rfl) rfl) ?_
    refine s_val (v := (.int .i64 (IntKind.wrap .i64 ((IntKind.wrap .i64 (s693 + 1)) + 1)))) (won rfl) rfl rfl (x_assign rfl (ev (t := 25) rfl rfl)) ?_
    refine wpList_nil ?_
    refine nx ?_
    refine wp_seq ?_
    obtain ⟨hg775, he⟩ := gdE he
    refine wp_region_lit ?_
    refine s_val (v := v0x0) (won rfl) rfl rfl (x_move rfl (ev (t := 0) (v := v0x0) rfl q692)) ?_
    refine s_val (v := (.int .i64 s695)) (won rfl) rfl rfl (x_move rfl (ev (t := 5) (v := (.int .i64 s695)) rfl q696)) ?_
    refine s_val (v := (.int .i64 (IntKind.wrap .i64 ((IntKind.wrap .i64 (s693 + 1)) + 1)))) (won rfl) rfl rfl (x_move rfl (ev (t := 1) rfl rfl)) ?_
    refine s_val (v := (.pointer (some ((slA v0x0).add (Int.toNat s695 * 4))))) (won rfl) rfl rfl (x_index (d := impl_PoolAct.K) rfl slt_24 (ev (t := 26) rfl rfl) (ev (t := 27) rfl rfl) (H772.rd w0) hg775.1 hg775.2) ?_
    refine s_val (v := (.pointer (some (((slA v0x0).add (Int.toNat s695 * 4)).add 2)))) (won rfl) rfl rfl (x_fielda rfl fa_39x2 (ev (t := 29) rfl rfl)) ?_
    refine s_exw (won rfl) rfl (e_storeF (d := impl_PoolAct.K) (s := (impl_PoolAct.mk s693 (IntKind.wrap .i64 (s693 + 1)) (IntKind.wrap .i64 ((IntKind.wrap .i64 (s693 + 1)) + 1)) (ix s689 s695).Buffer)) (vs := [(.int .i64 (IntKind.wrap .i64 ((IntKind.wrap .i64 (s693 + 1)) + 1)))]) (j := 2) rfl sz_3 (ev (t := 30) rfl rfl) rfl (ev (t := 28) rfl rfl) rfl rfl H772 hg775.1 hg775.2 rfl (by rw [ix_set_self hg775.1 (by have := hg775.2; rwa [List.length_set] at this)]; rfl) hm774 (k := 0) rfl) ?_
    rintro h776 w778 ⟨H777, hm779⟩
    rw [List.set_set] at H777
    replace hm779 : Mem w0 w778 (cat [h776, hF]) := hm779
    refine wpList_nil ?_
    refine nx ?_
    refine wp_seq ?_
    refine wp_region_lit ?_
    refine s_val (v := (.int .i64 (IntKind.wrap .i64 ((IntKind.wrap .i64 (s693 + 1)) + 1)))) (won rfl) rfl rfl (x_move rfl (ev (t := 1) rfl rfl)) ?_
    refine s_val (v := (.int .i64 (IntKind.wrap .i64 ((IntKind.wrap .i64 ((IntKind.wrap .i64 (s693 + 1)) + 1)) + 1)))) (won rfl) rfl rfl (x_add rfl (ev (t := 31) rfl rfl) rfl) ?_
    refine s_val (v := (.int .i64 (IntKind.wrap .i64 ((IntKind.wrap .i64 ((IntKind.wrap .i64 (s693 + 1)) + 1)) + 1)))) (won rfl) rfl rfl (x_assign rfl (ev (t := 32) rfl rfl)) ?_
    refine wpList_nil ?_
    refine nx ?_
    refine wp_seq ?_
    obtain ⟨hg780, he⟩ := gdE he
    refine wp_region_lit ?_
    refine s_val (v := v0x0) (won rfl) rfl rfl (x_move rfl (ev (t := 0) (v := v0x0) rfl q692)) ?_
    refine s_val (v := (.int .i64 s695)) (won rfl) rfl rfl (x_move rfl (ev (t := 5) (v := (.int .i64 s695)) rfl q696)) ?_
    refine s_val (v := (.int .i64 (IntKind.wrap .i64 ((IntKind.wrap .i64 ((IntKind.wrap .i64 (s693 + 1)) + 1)) + 1)))) (won rfl) rfl rfl (x_move rfl (ev (t := 1) rfl rfl)) ?_
    refine s_val (v := (.pointer (some ((slA v0x0).add (Int.toNat s695 * 4))))) (won rfl) rfl rfl (x_index (d := impl_PoolAct.K) rfl slt_24 (ev (t := 33) rfl rfl) (ev (t := 34) rfl rfl) (H777.rd w0) hg780.1 hg780.2) ?_
    refine s_val (v := (.pointer (some (((slA v0x0).add (Int.toNat s695 * 4)).add 3)))) (won rfl) rfl rfl (x_fielda rfl fa_39x3 (ev (t := 36) rfl rfl)) ?_
    refine s_exw (won rfl) rfl (e_storeF (d := impl_PoolAct.K) (s := (impl_PoolAct.mk s693 (IntKind.wrap .i64 (s693 + 1)) (IntKind.wrap .i64 ((IntKind.wrap .i64 (s693 + 1)) + 1)) (IntKind.wrap .i64 ((IntKind.wrap .i64 ((IntKind.wrap .i64 (s693 + 1)) + 1)) + 1)))) (vs := [(.int .i64 (IntKind.wrap .i64 ((IntKind.wrap .i64 ((IntKind.wrap .i64 (s693 + 1)) + 1)) + 1)))]) (j := 3) rfl sz_3 (ev (t := 37) rfl rfl) rfl (ev (t := 35) rfl rfl) rfl rfl H777 hg780.1 hg780.2 rfl (by rw [ix_set_self hg780.1 (by have := hg780.2; rwa [List.length_set] at this)]; rfl) hm779 (k := 0) rfl) ?_
    rintro h781 w783 ⟨H782, hm784⟩
    rw [List.set_set] at H782
    replace hm784 : Mem w0 w783 (cat [h781, hF]) := hm784
    refine wpList_nil ?_
    refine nx ?_
    refine wp_region_lit ?_
    refine s_val (v := (.int .i64 (IntKind.wrap .i64 ((IntKind.wrap .i64 ((IntKind.wrap .i64 (s693 + 1)) + 1)) + 1)))) (won rfl) rfl rfl (x_move rfl (ev (t := 1) rfl rfl)) ?_
    refine s_val (v := (.int .i64 (IntKind.wrap .i64 ((IntKind.wrap .i64 ((IntKind.wrap .i64 ((IntKind.wrap .i64 (s693 + 1)) + 1)) + 1)) + 1)))) (won rfl) rfl rfl (x_add rfl (ev (t := 38) rfl rfl) rfl) ?_
    refine s_val (v := (.int .i64 (IntKind.wrap .i64 ((IntKind.wrap .i64 ((IntKind.wrap .i64 ((IntKind.wrap .i64 (s693 + 1)) + 1)) + 1)) + 1)))) (won rfl) rfl rfl (x_assign rfl (ev (t := 39) rfl rfl)) ?_
    refine wpList_nil ?_
    refine nb ?_
    refine nx ?_
    refine wp_region_lit ?_
    refine s_val (v := (.int .i64 s695)) (won rfl) rfl rfl (x_move rfl (ev (t := 5) (v := (.int .i64 s695)) rfl q696)) ?_
    refine s_val (v := (.int .i64 (IntKind.wrap .i64 (s695 + 1)))) (won rfl) rfl rfl (x_add rfl (ev (t := 10) rfl rfl) rfl) ?_
    refine s_val (v := (.int .i64 (IntKind.wrap .i64 (s695 + 1)))) (won rfl) rfl rfl (x_assign rfl (ev (t := 11) rfl rfl)) ?_
    refine wpList_nil ?_
    refine nx ?_
    exact ⟨(List.set s689 (Int.toNat s695) (impl_PoolAct.mk s693 (IntKind.wrap .i64 (s693 + 1)) (IntKind.wrap .i64 ((IntKind.wrap .i64 (s693 + 1)) + 1)) (IntKind.wrap .i64 ((IntKind.wrap .i64 ((IntKind.wrap .i64 (s693 + 1)) + 1)) + 1)))), (IntKind.wrap .i64 ((IntKind.wrap .i64 ((IntKind.wrap .i64 ((IntKind.wrap .i64 (s693 + 1)) + 1)) + 1)) + 1)), (IntKind.wrap .i64 (s695 + 1)), h781, _, he, rfl, q692, rfl, rfl, H782, Mem.pick [0, 1] rfl hm784⟩
   ·
    replace he := bifF he hb744
    refine c_false rfl (p := (decide (s695 < (s689.length : Int)))) rfl rfl hb744 ?_
    refine wp_exit ?_
    refine xs ?_
    refine xs ?_
    refine xb ?_
    refine nx ?_
    obtain rfl := Option.some.inj he
    exact ⟨h690, _, rfl, q694, H691, Mem.pick [0, 1] rfl hm742⟩
 ·
  rintro a w ⟨h588, f, rfl, q591, H589, hm786⟩
  replace he := hk593
  refine wp_seq ?_
  refine wp_region_lit ?_
  refine s_val (v := (.int .i64 s592.2)) (won rfl) rfl rfl (x_move rfl (ev (t := 1) (v := (.int .i64 s592.2)) rfl q591)) ?_
  refine s_val (v := (.int .i64 s592.2)) (won rfl) rfl rfl (x_assign rfl (ev (t := 40) rfl rfl)) ?_
  refine wpList_nil ?_
  refine nx ?_
  refine wp_ret ?_
  obtain rfl := Option.some.inj he
  refine r_ret (v := (.int .i64 s592.2)) (rv_one rfl (RVs.tmp (v := (.int .i64 s592.2)) rfl rfl RVs.nil)) rfl ?_
  exact ⟨h588, rfl, H589, Mem.pick [0, 1] rfl hm786⟩
def laws_markIntS_l1 (F : Nat) : Nat → (List Int) → Int → Int → Option ((List Int) × Int)
  | 0, _, _, _ => none
  | k + 1, s269, s273, s275 => (bif (decide (s275 < (s269.length : Int))) then gd ((0 : Int) ≤ s275 ∧ s275 < (s269.length : Int)) (laws_markIntS_l1 F k (List.set s269 (Int.toNat s275) s273) (IntKind.wrap .i64 (s273 + 1)) (IntKind.wrap .i64 (s275 + 1))) else (some (s269, s273)))
def laws_markIntS (F : Nat) (a0 : (List Int)) (a1 : Int) : Option (Int × (List Int)) := (laws_markIntS_l1 F F a0 a1 0 : Option ((List Int) × Int)).bind fun (s232 : ((List Int) × Int)) => (some (s232.2, s232.1))
set_option maxHeartbeats 400000 in
set_option maxRecDepth 100000 in
theorem laws_markIntS_ok (F : Nat) {w0 w : World} {hR hF : Hp} {v0x0 : Value} {h0x0 : Hp} (a0 : (List Int)) (a1 : Int) {r : (Int × (List Int))} (H0x0 : OwF 3 (FK.int .i64) v0x0 a0 h0x0) (hm : Mem w0 w (cat [h0x0, hF])) (he : laws_markIntS F a0 a1 = some r) :
    Calls Try.prog 70 #[v0x0, (.int .i64 a1)] w (fun e w' => ∃ (h'0 : Hp), e = .returned (.int .i64 r.1) ∧ OwF 3 (FK.int .i64) v0x0 r.2 h'0 ∧ Mem w0 w' (cat [h'0, hF])) := by
 refine calls_fr (n := 19) Try.func70 rfl rfl rfl ?_
 unfold laws_markIntS at he
 refine wp_seq ?_
 refine wp_region_lit ?_
 refine s_val (v := (.int .i64 0)) (won rfl) rfl rfl (x_assign rfl rfl) ?_
 refine wpList_nil ?_
 refine nx ?_
 obtain ⟨s232, hT234, hk233⟩ := bindE he
 replace he := hT234
 refine wp_seqJ (fun a w => ∃ (h228 : Hp) (f : Nat → Value), a = fr 19 f ∧ f 1 = (.int .i64 s232.2) ∧ OwF 3 (FK.int .i64) v0x0 s232.1 h228 ∧ Mem w0 w (cat [h228, hF])) ?_ ?_
 ·
  refine wp_seq ?_
  refine wp_region_lit ?_
  refine s_val (v := (.int .i64 0)) (won rfl) rfl rfl (x_assign rfl rfl) ?_
  refine wpList_nil ?_
  refine nx ?_
  refine wp_block ?_
  refine wp_fuel (I := fun k => fun a w => ∃ (s269 : (List Int)) (s273 : Int) (s275 : Int) (h270 : Hp) (f : Nat → Value), laws_markIntS_l1 F k s269 s273 s275 = some s232 ∧ a = fr 19 f ∧ f 0 = v0x0 ∧ f 1 = (.int .i64 s273) ∧ f 5 = (.int .i64 s275) ∧ OwF 3 (FK.int .i64) v0x0 s269 h270 ∧ Mem w0 w (cat [h270, hF])) F _ _ ⟨a0, a1, 0, h0x0, _, he, rfl, rfl, rfl, rfl, H0x0, Mem.pick [0, 1] rfl hm⟩ ?_ ?_
  ·
   rintro a w ⟨s269, s273, s275, h270, f, he, rfl, q272, q274, q276, H271, hm290⟩
   rw [laws_markIntS_l1] at he; exact none_no he
  ·
   rintro k a w ⟨s269, s273, s275, h270, f, he, rfl, q272, q274, q276, H271, hm292⟩
   rw [laws_markIntS_l1] at he
   refine wp_seq ?_
   refine wp_seq ?_
   refine wp_region_lit ?_
   refine s_val (v := (.int .i64 s275)) (won rfl) rfl rfl (x_move rfl (ev (t := 5) (v := (.int .i64 s275)) rfl q276)) ?_
   refine s_val (v := v0x0) (won rfl) rfl rfl (x_move rfl (ev (t := 0) (v := v0x0) rfl q272)) ?_
   refine s_val (v := (.int .i64 (s269.length : Int))) (won rfl) rfl rfl (x_len rfl slt_26 (ev (t := 7) rfl rfl) (H271).sl) ?_
   refine s_val (v := (.bool (decide (s275 < (s269.length : Int))))) (won rfl) rfl rfl (x_lss rfl (ev (t := 6) rfl rfl) (ev (t := 8) rfl rfl)) ?_
   refine wpList_nil ?_
   refine nx ?_
   rcases Bool.eq_false_or_eq_true ((decide (s275 < (s269.length : Int)))) with hb294 | hb294
   ·
    replace he := bifT he hb294
    refine c_true rfl (p := (decide (s275 < (s269.length : Int)))) rfl rfl hb294 ?_
    refine wp_skip ?_
    refine nx ?_
    refine wp_seq ?_
    refine wp_block ?_
    refine wp_seq ?_
    obtain ⟨hg300, he⟩ := gdE he
    refine wp_region_lit ?_
    refine s_val (v := v0x0) (won rfl) rfl rfl (x_move rfl (ev (t := 0) (v := v0x0) rfl q272)) ?_
    refine s_val (v := (.int .i64 s275)) (won rfl) rfl rfl (x_move rfl (ev (t := 5) (v := (.int .i64 s275)) rfl q276)) ?_
    refine s_val (v := (.int .i64 s273)) (won rfl) rfl rfl (x_move rfl (ev (t := 1) (v := (.int .i64 s273)) rfl q274)) ?_
    refine s_val (v := (.pointer (some ((slA v0x0).add (Int.toNat s275 * 1))))) (won rfl) rfl rfl (x_index (d := (FK.int .i64)) rfl slt_26 (ev (t := 12) rfl rfl) (ev (t := 13) rfl rfl) (H271.rd w0) hg300.1 hg300.2) ?_
    refine s_exw (won rfl) rfl (e_storeF (d := (FK.int .i64)) (s := s273) (vs := [(.int .i64 s273)]) (j := 0) rfl sz_3 (ev (t := 15) rfl rfl) (add_0 _).symm (ev (t := 14) rfl rfl) rfl rfl H271 hg300.1 hg300.2 rfl rfl hm292 (k := 0) rfl) ?_
    rintro h301 w303 ⟨H302, hm304⟩
    replace hm304 : Mem w0 w303 (cat [h301, hF]) := hm304
    refine wpList_nil ?_
    refine nx ?_
    refine wp_region_lit ?_
    refine s_val (v := (.int .i64 s273)) (won rfl) rfl rfl (x_move rfl (ev (t := 1) (v := (.int .i64 s273)) rfl q274)) ?_
    refine s_val (v := (.int .i64 (IntKind.wrap .i64 (s273 + 1)))) (won rfl) rfl rfl (x_add rfl (ev (t := 16) rfl rfl) rfl) ?_
    refine s_val (v := (.int .i64 (IntKind.wrap .i64 (s273 + 1)))) (won rfl) rfl rfl (x_assign rfl (ev (t := 17) rfl rfl)) ?_
    refine wpList_nil ?_
    refine nb ?_
    refine nx ?_
    refine wp_region_lit ?_
    refine s_val (v := (.int .i64 s275)) (won rfl) rfl rfl (x_move rfl (ev (t := 5) (v := (.int .i64 s275)) rfl q276)) ?_
    refine s_val (v := (.int .i64 (IntKind.wrap .i64 (s275 + 1)))) (won rfl) rfl rfl (x_add rfl (ev (t := 10) rfl rfl) rfl) ?_
    refine s_val (v := (.int .i64 (IntKind.wrap .i64 (s275 + 1)))) (won rfl) rfl rfl (x_assign rfl (ev (t := 11) rfl rfl)) ?_
    refine wpList_nil ?_
    refine nx ?_
    exact ⟨(List.set s269 (Int.toNat s275) s273), (IntKind.wrap .i64 (s273 + 1)), (IntKind.wrap .i64 (s275 + 1)), h301, _, he, rfl, q272, rfl, rfl, H302, Mem.pick [0, 1] rfl hm304⟩
   ·
    replace he := bifF he hb294
    refine c_false rfl (p := (decide (s275 < (s269.length : Int)))) rfl rfl hb294 ?_
    refine wp_exit ?_
    refine xs ?_
    refine xs ?_
    refine xb ?_
    refine nx ?_
    obtain rfl := Option.some.inj he
    exact ⟨h270, _, rfl, q274, H271, Mem.pick [0, 1] rfl hm292⟩
 ·
  rintro a w ⟨h228, f, rfl, q231, H229, hm306⟩
  replace he := hk233
  refine wp_seq ?_
  refine wp_region_lit ?_
  refine s_val (v := (.int .i64 s232.2)) (won rfl) rfl rfl (x_move rfl (ev (t := 1) (v := (.int .i64 s232.2)) rfl q231)) ?_
  refine s_val (v := (.int .i64 s232.2)) (won rfl) rfl rfl (x_assign rfl (ev (t := 18) rfl rfl)) ?_
  refine wpList_nil ?_
  refine nx ?_
  refine wp_ret ?_
  obtain rfl := Option.some.inj he
  refine r_ret (v := (.int .i64 s232.2)) (rv_one rfl (RVs.tmp (v := (.int .i64 s232.2)) rfl rfl RVs.nil)) rfl ?_
  exact ⟨h228, rfl, H229, Mem.pick [0, 1] rfl hm306⟩
def laws_markPool (F : Nat) (a0 : impl_Pool) (a1 : Int) : Option (Int × (List Int) × (List Int)) := (laws_markIntS F a0.Free a1).bind fun r33 => (laws_markIntS F a0.Owner r33.1).bind fun r38 => (some (r38.1, r33.2, r38.2))
set_option maxHeartbeats 400000 in
set_option maxRecDepth 100000 in
theorem laws_markPool_ok (F : Nat) {w0 w : World} {hR hF : Hp} {v0x0 : Value} {h0x0 : Hp} {v0x1 : Value} {h0x1 : Hp} (a0 : impl_Pool) (a1 : Int) {r : (Int × (List Int) × (List Int))} (H0x0 : OwF 3 (FK.int .i64) v0x0 a0.Free h0x0) (H0x1 : OwF 3 (FK.int .i64) v0x1 a0.Owner h0x1) (hm : Mem w0 w (cat [h0x0, h0x1, hF])) (he : laws_markPool F a0 a1 = some r) :
    Calls Try.prog 24 #[(.agg #[v0x0, v0x1]), (.int .i64 a1)] w (fun e w' => ∃ (h'0 : Hp) (h'1 : Hp), e = .returned (.int .i64 r.1) ∧ OwF 3 (FK.int .i64) v0x0 r.2.1 h'0 ∧ OwF 3 (FK.int .i64) v0x1 r.2.2 h'1 ∧ Mem w0 w' (cat [h'0, h'1, hF])) := by
 refine calls_fr (n := 14) Try.func24 rfl rfl rfl ?_
 unfold laws_markPool at he
 refine wp_seq ?_
 refine wp_region_lit ?_
 refine s_exv (won rfl) rfl rfl (e_box (vs := [v0x0, v0x1]) rfl (ev (t := 0) rfl rfl) rfl hm) ?_
 rintro g29 w30 hm31
 refine s_val (v := (.int .i64 0)) (won rfl) rfl rfl (x_assign rfl rfl) ?_
 refine wpList_nil ?_
 refine nx ?_
 refine wp_seq ?_
 obtain ⟨r33, hr33, he⟩ := bindE he
 refine wp_region_lit ?_
 refine s_val (v := (.pointer (some ⟨g29, 0, none⟩))) (won rfl) rfl rfl (x_field rfl fa_28x0 (ev (t := 2) rfl rfl)) ?_
 refine s_val (v := v0x0) (won rfl) rfl rfl (x_load rfl ty1x26 (ev (t := 5) rfl rfl) (seg_cell (o' := 0) (j := 0) hm31 (k := 0) rfl rfl rfl)) ?_
 refine s_val (v := (.int .i64 a1)) (won rfl) rfl rfl (x_move rfl (ev (t := 1) rfl rfl)) ?_
 refine s_call (won rfl) rfl rfl (x_call rfl rfl cl_70 (map_lit (map_cons (ev (t := 6) rfl rfl) (map_cons (ev (t := 7) rfl rfl) map_nil)))) (laws_markIntS_ok F (hR := (cat [])) (hF := cat [sg g29 28 (0, 0) [] [v0x0, v0x1] [], h0x1, hF]) a0.Free a1 H0x0 (Mem.grp [h0x0] [sg g29 28 (0, 0) [] [v0x0, v0x1] [], h0x1, hF] (Mem.pick [1, 0, 2, 3] rfl hm31)) hr33) ?_
 rintro e w36 ⟨h34, rfl, H35, hm37⟩
 refine ⟨_, rfl, ?_⟩
 replace hm37 : Mem w0 w36 (cat [h34, sg g29 28 (0, 0) [] [v0x0, v0x1] [], h0x1, hF]) := Mem.ung [h34] [sg g29 28 (0, 0) [] [v0x0, v0x1] [], h0x1, hF] hm37
 refine s_val (v := (.int .i64 r33.1)) (won rfl) rfl rfl (x_assign rfl (ev (t := 8) rfl rfl)) ?_
 refine wpList_nil ?_
 refine nx ?_
 refine wp_seq ?_
 obtain ⟨r38, hr38, he⟩ := bindE he
 refine wp_region_lit ?_
 refine s_val (v := (.pointer (some ⟨g29, 1, none⟩))) (won rfl) rfl rfl (x_field rfl fa_28x1 (ev (t := 2) rfl rfl)) ?_
 refine s_val (v := v0x1) (won rfl) rfl rfl (x_load rfl ty1x26 (ev (t := 9) rfl rfl) (seg_cell (o' := 0) (j := 1) hm37 (k := 1) rfl rfl rfl)) ?_
 refine s_val (v := (.int .i64 r33.1)) (won rfl) rfl rfl (x_move rfl (ev (t := 1) rfl rfl)) ?_
 refine s_call (won rfl) rfl rfl (x_call rfl rfl cl_70 (map_lit (map_cons (ev (t := 10) rfl rfl) (map_cons (ev (t := 11) rfl rfl) map_nil)))) (laws_markIntS_ok F (hR := (cat [])) (hF := cat [h34, sg g29 28 (0, 0) [] [v0x0, v0x1] [], hF]) a0.Owner r33.1 H0x1 (Mem.grp [h0x1] [h34, sg g29 28 (0, 0) [] [v0x0, v0x1] [], hF] (Mem.pick [2, 0, 1, 3] rfl hm37)) hr38) ?_
 rintro e w41 ⟨h39, rfl, H40, hm42⟩
 refine ⟨_, rfl, ?_⟩
 replace hm42 : Mem w0 w41 (cat [h39, h34, sg g29 28 (0, 0) [] [v0x0, v0x1] [], hF]) := Mem.ung [h39] [h34, sg g29 28 (0, 0) [] [v0x0, v0x1] [], hF] hm42
 refine s_val (v := (.int .i64 r38.1)) (won rfl) rfl rfl (x_assign rfl (ev (t := 12) rfl rfl)) ?_
 refine wpList_nil ?_
 have hm43 : Mem w0 w41 (cat [h39, h34, hF]) := Mem.pick [0, 1, 3] rfl hm42
 refine nx ?_
 refine wp_seq ?_
 refine wp_region_lit ?_
 refine s_val (v := (.int .i64 r38.1)) (won rfl) rfl rfl (x_move rfl (ev (t := 1) rfl rfl)) ?_
 refine s_val (v := (.int .i64 r38.1)) (won rfl) rfl rfl (x_assign rfl (ev (t := 13) rfl rfl)) ?_
 refine wpList_nil ?_
 refine nx ?_
 refine wp_ret ?_
 obtain rfl := Option.some.inj he
 refine r_ret (v := (.int .i64 r38.1)) (rv_one rfl (RVs.tmp (v := (.int .i64 r38.1)) rfl rfl RVs.nil)) rfl ?_
 exact ⟨h34, h39, rfl, H35, H40, Mem.pick [1, 0, 2] rfl hm43⟩
def laws_markPoolReplyS_l1 (F : Nat) : Nat → (List impl_PoolReply) → Int → Int → Option ((List impl_PoolReply) × Int)
  | 0, _, _, _ => none
  | k + 1, s409, s413, s415 => (bif (decide (s415 < (s409.length : Int))) then gd ((0 : Int) ≤ s415 ∧ s415 < (s409.length : Int)) (gd ((0 : Int) ≤ s415 ∧ s415 < ((List.set s409 (Int.toNat s415) (impl_PoolReply.mk s413 (ix s409 s415).Buffer)).length : Int)) (laws_markPoolReplyS_l1 F k (List.set s409 (Int.toNat s415) (impl_PoolReply.mk s413 (IntKind.wrap .i64 (s413 + 1)))) (IntKind.wrap .i64 ((IntKind.wrap .i64 (s413 + 1)) + 1)) (IntKind.wrap .i64 (s415 + 1)))) else (some (s409, s413)))
def laws_markPoolReplyS (F : Nat) (a0 : (List impl_PoolReply)) (a1 : Int) : Option (Int × (List impl_PoolReply)) := (laws_markPoolReplyS_l1 F F a0 a1 0 : Option ((List impl_PoolReply) × Int)).bind fun (s352 : ((List impl_PoolReply) × Int)) => (some (s352.2, s352.1))
set_option maxHeartbeats 400000 in
set_option maxRecDepth 100000 in
theorem laws_markPoolReplyS_ok (F : Nat) {w0 w : World} {hR hF : Hp} {v0x0 : Value} {h0x0 : Hp} (a0 : (List impl_PoolReply)) (a1 : Int) {r : (Int × (List impl_PoolReply))} (H0x0 : OwF 35 impl_PoolReply.K v0x0 a0 h0x0) (hm : Mem w0 w (cat [h0x0, hF])) (he : laws_markPoolReplyS F a0 a1 = some r) :
    Calls Try.prog 31 #[v0x0, (.int .i64 a1)] w (fun e w' => ∃ (h'0 : Hp), e = .returned (.int .i64 r.1) ∧ OwF 35 impl_PoolReply.K v0x0 r.2 h'0 ∧ Mem w0 w' (cat [h'0, hF])) := by
 refine calls_fr (n := 27) Try.func31 rfl rfl rfl ?_
 unfold laws_markPoolReplyS at he
 refine wp_seq ?_
 refine wp_region_lit ?_
 refine s_val (v := (.int .i64 0)) (won rfl) rfl rfl (x_assign rfl rfl) ?_
 refine wpList_nil ?_
 refine nx ?_
 obtain ⟨s352, hT354, hk353⟩ := bindE he
 replace he := hT354
 refine wp_seqJ (fun a w => ∃ (h348 : Hp) (f : Nat → Value), a = fr 27 f ∧ f 1 = (.int .i64 s352.2) ∧ OwF 35 impl_PoolReply.K v0x0 s352.1 h348 ∧ Mem w0 w (cat [h348, hF])) ?_ ?_
 ·
  refine wp_seq ?_
  refine wp_region_lit ?_
  refine s_val (v := (.int .i64 0)) (won rfl) rfl rfl (x_assign rfl rfl) ?_
  refine wpList_nil ?_
  refine nx ?_
  refine wp_block ?_
  refine wp_fuel (I := fun k => fun a w => ∃ (s409 : (List impl_PoolReply)) (s413 : Int) (s415 : Int) (h410 : Hp) (f : Nat → Value), laws_markPoolReplyS_l1 F k s409 s413 s415 = some s352 ∧ a = fr 27 f ∧ f 0 = v0x0 ∧ f 1 = (.int .i64 s413) ∧ f 5 = (.int .i64 s415) ∧ OwF 35 impl_PoolReply.K v0x0 s409 h410 ∧ Mem w0 w (cat [h410, hF])) F _ _ ⟨a0, a1, 0, h0x0, _, he, rfl, rfl, rfl, rfl, H0x0, Mem.pick [0, 1] rfl hm⟩ ?_ ?_
  ·
   rintro a w ⟨s409, s413, s415, h410, f, he, rfl, q412, q414, q416, H411, hm440⟩
   rw [laws_markPoolReplyS_l1] at he; exact none_no he
  ·
   rintro k a w ⟨s409, s413, s415, h410, f, he, rfl, q412, q414, q416, H411, hm442⟩
   rw [laws_markPoolReplyS_l1] at he
   refine wp_seq ?_
   refine wp_seq ?_
   refine wp_region_lit ?_
   refine s_val (v := (.int .i64 s415)) (won rfl) rfl rfl (x_move rfl (ev (t := 5) (v := (.int .i64 s415)) rfl q416)) ?_
   refine s_val (v := v0x0) (won rfl) rfl rfl (x_move rfl (ev (t := 0) (v := v0x0) rfl q412)) ?_
   refine s_val (v := (.int .i64 (s409.length : Int))) (won rfl) rfl rfl (x_len rfl slt_31 (ev (t := 7) rfl rfl) (H411).sl) ?_
   refine s_val (v := (.bool (decide (s415 < (s409.length : Int))))) (won rfl) rfl rfl (x_lss rfl (ev (t := 6) rfl rfl) (ev (t := 8) rfl rfl)) ?_
   refine wpList_nil ?_
   refine nx ?_
   rcases Bool.eq_false_or_eq_true ((decide (s415 < (s409.length : Int)))) with hb444 | hb444
   ·
    replace he := bifT he hb444
    refine c_true rfl (p := (decide (s415 < (s409.length : Int)))) rfl rfl hb444 ?_
    refine wp_skip ?_
    refine nx ?_
    refine wp_seq ?_
    refine wp_block ?_
    refine wp_seq ?_
    obtain ⟨hg455, he⟩ := gdE he
    refine wp_region_lit ?_
    refine s_val (v := v0x0) (won rfl) rfl rfl (x_move rfl (ev (t := 0) (v := v0x0) rfl q412)) ?_
    refine s_val (v := (.int .i64 s415)) (won rfl) rfl rfl (x_move rfl (ev (t := 5) (v := (.int .i64 s415)) rfl q416)) ?_
    refine s_val (v := (.int .i64 s413)) (won rfl) rfl rfl (x_move rfl (ev (t := 1) (v := (.int .i64 s413)) rfl q414)) ?_
    refine s_val (v := (.pointer (some ((slA v0x0).add (Int.toNat s415 * 2))))) (won rfl) rfl rfl (x_index (d := impl_PoolReply.K) rfl slt_31 (ev (t := 12) rfl rfl) (ev (t := 13) rfl rfl) (H411.rd w0) hg455.1 hg455.2) ?_
    refine s_val (v := (.pointer (some (((slA v0x0).add (Int.toNat s415 * 2)).add 0)))) (won rfl) rfl rfl (x_fielda rfl fa_35x0 (ev (t := 15) rfl rfl)) ?_
    refine s_exw (won rfl) rfl (e_storeF (d := impl_PoolReply.K) (s := (impl_PoolReply.mk s413 (ix s409 s415).Buffer)) (vs := [(.int .i64 s413)]) (j := 0) rfl sz_3 (ev (t := 16) rfl rfl) rfl (ev (t := 14) rfl rfl) rfl rfl H411 hg455.1 hg455.2 rfl rfl hm442 (k := 0) rfl) ?_
    rintro h456 w458 ⟨H457, hm459⟩
    replace hm459 : Mem w0 w458 (cat [h456, hF]) := hm459
    refine wpList_nil ?_
    refine nx ?_
    refine wp_seq ?_
    refine wp_region_lit ?_
    refine s_val (v := (.int .i64 s413)) (won rfl) rfl rfl (x_move rfl (ev (t := 1) (v := (.int .i64 s413)) rfl q414)) ?_
    refine s_val (v := (.int .i64 (IntKind.wrap .i64 (s413 + 1)))) (won rfl) rfl rfl (x_add rfl (ev (t := 17) rfl rfl) rfl) ?_
    refine s_val (v := (.int .i64 (IntKind.wrap .i64 (s413 + 1)))) (won rfl) rfl rfl (x_assign rfl (ev (t := 18) rfl rfl)) ?_
    refine wpList_nil ?_
    refine nx ?_
    refine wp_seq ?_
    obtain ⟨hg460, he⟩ := gdE he
    refine wp_region_lit ?_
    refine s_val (v := v0x0) (won rfl) rfl rfl (x_move rfl (ev (t := 0) (v := v0x0) rfl q412)) ?_
    refine s_val (v := (.int .i64 s415)) (won rfl) rfl rfl (x_move rfl (ev (t := 5) (v := (.int .i64 s415)) rfl q416)) ?_
    refine s_val (v := (.int .i64 (IntKind.wrap .i64 (s413 + 1)))) (won rfl) rfl rfl (x_move rfl (ev (t := 1) rfl rfl)) ?_
    refine s_val (v := (.pointer (some ((slA v0x0).add (Int.toNat s415 * 2))))) (won rfl) rfl rfl (x_index (d := impl_PoolReply.K) rfl slt_31 (ev (t := 19) rfl rfl) (ev (t := 20) rfl rfl) (H457.rd w0) hg460.1 hg460.2) ?_
    refine s_val (v := (.pointer (some (((slA v0x0).add (Int.toNat s415 * 2)).add 1)))) (won rfl) rfl rfl (x_fielda rfl fa_35x1 (ev (t := 22) rfl rfl)) ?_
    refine s_exw (won rfl) rfl (e_storeF (d := impl_PoolReply.K) (s := (impl_PoolReply.mk s413 (IntKind.wrap .i64 (s413 + 1)))) (vs := [(.int .i64 (IntKind.wrap .i64 (s413 + 1)))]) (j := 1) rfl sz_3 (ev (t := 23) rfl rfl) rfl (ev (t := 21) rfl rfl) rfl rfl H457 hg460.1 hg460.2 rfl (by rw [ix_set_self hg460.1 (by have := hg460.2; rwa [List.length_set] at this)]; rfl) hm459 (k := 0) rfl) ?_
    rintro h461 w463 ⟨H462, hm464⟩
    rw [List.set_set] at H462
    replace hm464 : Mem w0 w463 (cat [h461, hF]) := hm464
    refine wpList_nil ?_
    refine nx ?_
    refine wp_region_lit ?_
    refine s_val (v := (.int .i64 (IntKind.wrap .i64 (s413 + 1)))) (won rfl) rfl rfl (x_move rfl (ev (t := 1) rfl rfl)) ?_
    refine s_val (v := (.int .i64 (IntKind.wrap .i64 ((IntKind.wrap .i64 (s413 + 1)) + 1)))) (won rfl) rfl rfl (x_add rfl (ev (t := 24) rfl rfl) rfl) ?_
    refine s_val (v := (.int .i64 (IntKind.wrap .i64 ((IntKind.wrap .i64 (s413 + 1)) + 1)))) (won rfl) rfl rfl (x_assign rfl (ev (t := 25) rfl rfl)) ?_
    refine wpList_nil ?_
    refine nb ?_
    refine nx ?_
    refine wp_region_lit ?_
    refine s_val (v := (.int .i64 s415)) (won rfl) rfl rfl (x_move rfl (ev (t := 5) (v := (.int .i64 s415)) rfl q416)) ?_
    refine s_val (v := (.int .i64 (IntKind.wrap .i64 (s415 + 1)))) (won rfl) rfl rfl (x_add rfl (ev (t := 10) rfl rfl) rfl) ?_
    refine s_val (v := (.int .i64 (IntKind.wrap .i64 (s415 + 1)))) (won rfl) rfl rfl (x_assign rfl (ev (t := 11) rfl rfl)) ?_
    refine wpList_nil ?_
    refine nx ?_
    exact ⟨(List.set s409 (Int.toNat s415) (impl_PoolReply.mk s413 (IntKind.wrap .i64 (s413 + 1)))), (IntKind.wrap .i64 ((IntKind.wrap .i64 (s413 + 1)) + 1)), (IntKind.wrap .i64 (s415 + 1)), h461, _, he, rfl, q412, rfl, rfl, H462, Mem.pick [0, 1] rfl hm464⟩
   ·
    replace he := bifF he hb444
    refine c_false rfl (p := (decide (s415 < (s409.length : Int)))) rfl rfl hb444 ?_
    refine wp_exit ?_
    refine xs ?_
    refine xs ?_
    refine xb ?_
    refine nx ?_
    obtain rfl := Option.some.inj he
    exact ⟨h410, _, rfl, q414, H411, Mem.pick [0, 1] rfl hm442⟩
 ·
  rintro a w ⟨h348, f, rfl, q351, H349, hm466⟩
  replace he := hk353
  refine wp_seq ?_
  refine wp_region_lit ?_
  refine s_val (v := (.int .i64 s352.2)) (won rfl) rfl rfl (x_move rfl (ev (t := 1) (v := (.int .i64 s352.2)) rfl q351)) ?_
  refine s_val (v := (.int .i64 s352.2)) (won rfl) rfl rfl (x_assign rfl (ev (t := 26) rfl rfl)) ?_
  refine wpList_nil ?_
  refine nx ?_
  refine wp_ret ?_
  obtain rfl := Option.some.inj he
  refine r_ret (v := (.int .i64 s352.2)) (rv_one rfl (RVs.tmp (v := (.int .i64 s352.2)) rfl rfl RVs.nil)) rfl ?_
  exact ⟨h348, rfl, H349, Mem.pick [0, 1] rfl hm466⟩
def laws_heldIntS_l1 (F : Nat) (a0 : (List Int)) : Nat → Int → Int → Option (Fl (Int) (Int))
  | 0, _, _ => none
  | k + 1, s155, s157 => (bif (decide (s157 < (a0.length : Int))) then gd ((0 : Int) ≤ s157 ∧ s157 < (a0.length : Int)) ((bif (!decide ((ix a0 s157) = s155)) then (some (Fl.out (-1))) else laws_heldIntS_l1 F a0 k (IntKind.wrap .i64 (s155 + 1)) (IntKind.wrap .i64 (s157 + 1)))) else (some (Fl.go s155)))
def laws_heldIntS (F : Nat) (a0 : (List Int)) (a1 : Int) : Option (Int) := (laws_heldIntS_l1 F a0 F a1 0 : Option (Fl (Int) (Int))).bind fun l138 => l138.on fun (s137 : (Int)) => (some s137)
set_option maxHeartbeats 400000 in
set_option maxRecDepth 100000 in
theorem laws_heldIntS_ok (F : Nat) {w0 w : World} {hR hF : Hp} {v0x0 : Value} (a0 : (List Int)) (a1 : Int) {r : (Int)} (H0x0 : RdF w0 (FK.int .i64) v0x0 a0 hR) (hs : Sub hR hF) (hm : Mem w0 w (cat [hF])) (he : laws_heldIntS F a0 a1 = some r) :
    Calls Try.prog 71 #[v0x0, (.int .i64 a1)] w (fun e w' => e = .returned (.int .i64 r) ∧ Mem w0 w' (cat [hF])) := by
 refine calls_fr (n := 21) Try.func71 rfl rfl rfl ?_
 unfold laws_heldIntS at he
 refine wp_seq ?_
 refine wp_region_lit ?_
 refine s_val (v := (.int .i64 0)) (won rfl) rfl rfl (x_assign rfl rfl) ?_
 refine wpList_nil ?_
 refine nx ?_
 obtain ⟨l138, hT140, hk139⟩ := bindE he
 replace he := hT140
 refine wp_seqJ (fun a w => ∃ (s137 : (Int)) (f : Nat → Value), l138 = Fl.go s137 ∧ a = fr 21 f ∧ f 1 = (.int .i64 s137) ∧ Mem w0 w (cat [hF])) ?_ ?_
 ·
  refine wp_seq ?_
  refine wp_region_lit ?_
  refine s_val (v := (.int .i64 0)) (won rfl) rfl rfl (x_assign rfl rfl) ?_
  refine wpList_nil ?_
  refine nx ?_
  refine wp_block ?_
  refine wp_fuel (I := fun k => fun a w => ∃ (s155 : Int) (s157 : Int) (f : Nat → Value), laws_heldIntS_l1 F a0 k s155 s157 = some l138 ∧ a = fr 21 f ∧ f 0 = v0x0 ∧ f 1 = (.int .i64 s155) ∧ f 5 = (.int .i64 s157) ∧ Mem w0 w (cat [hF])) F _ _ ⟨a1, 0, _, he, rfl, rfl, rfl, rfl, Mem.pick [0] rfl hm⟩ ?_ ?_
  ·
   rintro a w ⟨s155, s157, f, he, rfl, q154, q156, q158, hm170⟩
   rw [laws_heldIntS_l1] at he; exact none_no he
  ·
   rintro k a w ⟨s155, s157, f, he, rfl, q154, q156, q158, hm172⟩
   rw [laws_heldIntS_l1] at he
   refine wp_seq ?_
   refine wp_seq ?_
   refine wp_region_lit ?_
   refine s_val (v := (.int .i64 s157)) (won rfl) rfl rfl (x_move rfl (ev (t := 5) (v := (.int .i64 s157)) rfl q158)) ?_
   refine s_val (v := v0x0) (won rfl) rfl rfl (x_move rfl (ev (t := 0) (v := v0x0) rfl q154)) ?_
   refine s_val (v := (.int .i64 (a0.length : Int))) (won rfl) rfl rfl (x_len rfl slt_26 (ev (t := 7) rfl rfl) (H0x0).sl) ?_
   refine s_val (v := (.bool (decide (s157 < (a0.length : Int))))) (won rfl) rfl rfl (x_lss rfl (ev (t := 6) rfl rfl) (ev (t := 8) rfl rfl)) ?_
   refine wpList_nil ?_
   refine nx ?_
   rcases Bool.eq_false_or_eq_true ((decide (s157 < (a0.length : Int)))) with hb174 | hb174
   ·
    replace he := bifT he hb174
    refine c_true rfl (p := (decide (s157 < (a0.length : Int)))) rfl rfl hb174 ?_
    refine wp_skip ?_
    refine nx ?_
    refine wp_seq ?_
    refine wp_block ?_
    refine wp_seq ?_
    refine wp_seq ?_
    obtain ⟨hg181, he⟩ := gdE he
    refine wp_region_lit ?_
    refine s_val (v := v0x0) (won rfl) rfl rfl (x_move rfl (ev (t := 0) (v := v0x0) rfl q154)) ?_
    refine s_val (v := (.int .i64 s157)) (won rfl) rfl rfl (x_move rfl (ev (t := 5) (v := (.int .i64 s157)) rfl q158)) ?_
    refine s_val (v := (.pointer (some ((slA v0x0).add (Int.toNat s157 * 1))))) (won rfl) rfl rfl (x_index (d := (FK.int .i64)) rfl slt_26 (ev (t := 12) rfl rfl) (ev (t := 13) rfl rfl) H0x0 hg181.1 hg181.2) ?_
    refine s_val (v := (.int .i64 (ix a0 s157))) (won rfl) rfl rfl (x_load rfl ty1x3 (ev (t := 14) rfl rfl) (RdF.cell0 H0x0 hm172 (Sub.trans hs (Sub.at_ (k := 0) rfl)) hg181.1 hg181.2 rfl)) ?_
    refine s_val (v := (.int .i64 s155)) (won rfl) rfl rfl (x_move rfl (ev (t := 1) (v := (.int .i64 s155)) rfl q156)) ?_
    refine s_val (v := (.bool (!decide ((ix a0 s157) = s155)))) (won rfl) rfl rfl (x_neq rfl (ev (t := 15) rfl rfl) (ev (t := 16) rfl rfl)) ?_
    refine wpList_nil ?_
    refine nx ?_
    rcases Bool.eq_false_or_eq_true ((!decide ((ix a0 s157) = s155))) with hb182 | hb182
    ·
     replace he := bifT he hb182
     refine c_true rfl (p := (!decide ((ix a0 s157) = s155))) rfl rfl hb182 ?_
     refine wp_seq ?_
     refine wp_region_lit ?_
     refine s_val (v := (.int .i64 (-1))) (won rfl) rfl rfl (x_assign rfl rfl) ?_
     refine wpList_nil ?_
     refine nx ?_
     refine wp_ret ?_
     refine xr ?_
     refine rb ?_
     refine xr ?_
     refine xr ?_
     refine rb ?_
     refine xr ?_
     obtain rfl := Option.some.inj he
     replace he := outE hk139
     obtain rfl := Option.some.inj he
     refine r_ret (v := (.int .i64 (-1))) (rv_one rfl (RVs.tmp (v := (.int .i64 (-1))) rfl rfl RVs.nil)) rfl ?_
     exact ⟨rfl, Mem.pick [0] rfl hm172⟩
    ·
     replace he := bifF he hb182
     refine c_false rfl (p := (!decide ((ix a0 s157) = s155))) rfl rfl hb182 ?_
     refine wp_skip ?_
     refine nx ?_
     refine wp_region_lit ?_
     refine s_val (v := (.int .i64 s155)) (won rfl) rfl rfl (x_move rfl (ev (t := 1) (v := (.int .i64 s155)) rfl q156)) ?_
     refine s_val (v := (.int .i64 (IntKind.wrap .i64 (s155 + 1)))) (won rfl) rfl rfl (x_add rfl (ev (t := 18) rfl rfl) rfl) ?_
     refine s_val (v := (.int .i64 (IntKind.wrap .i64 (s155 + 1)))) (won rfl) rfl rfl (x_assign rfl (ev (t := 19) rfl rfl)) ?_
     refine wpList_nil ?_
     refine nb ?_
     refine nx ?_
     refine wp_region_lit ?_
     refine s_val (v := (.int .i64 s157)) (won rfl) rfl rfl (x_move rfl (ev (t := 5) (v := (.int .i64 s157)) rfl q158)) ?_
     refine s_val (v := (.int .i64 (IntKind.wrap .i64 (s157 + 1)))) (won rfl) rfl rfl (x_add rfl (ev (t := 10) rfl rfl) rfl) ?_
     refine s_val (v := (.int .i64 (IntKind.wrap .i64 (s157 + 1)))) (won rfl) rfl rfl (x_assign rfl (ev (t := 11) rfl rfl)) ?_
     refine wpList_nil ?_
     refine nx ?_
     exact ⟨(IntKind.wrap .i64 (s155 + 1)), (IntKind.wrap .i64 (s157 + 1)), _, he, rfl, q154, rfl, rfl, Mem.pick [0] rfl hm172⟩
   ·
    replace he := bifF he hb174
    refine c_false rfl (p := (decide (s157 < (a0.length : Int)))) rfl rfl hb174 ?_
    refine wp_exit ?_
    refine xs ?_
    refine xs ?_
    refine xb ?_
    refine nx ?_
    obtain rfl := Option.some.inj he
    exact ⟨s155, _, rfl, rfl, q156, Mem.pick [0] rfl hm172⟩
 ·
  rintro a w ⟨s137, f, rfl, rfl, q136, hm184⟩
  replace he := goE hk139
  refine wp_seq ?_
  refine wp_region_lit ?_
  refine s_val (v := (.int .i64 s137)) (won rfl) rfl rfl (x_move rfl (ev (t := 1) (v := (.int .i64 s137)) rfl q136)) ?_
  refine s_val (v := (.int .i64 s137)) (won rfl) rfl rfl (x_assign rfl (ev (t := 20) rfl rfl)) ?_
  refine wpList_nil ?_
  refine nx ?_
  refine wp_ret ?_
  obtain rfl := Option.some.inj he
  refine r_ret (v := (.int .i64 s137)) (rv_one rfl (RVs.tmp (v := (.int .i64 s137)) rfl rfl RVs.nil)) rfl ?_
  exact ⟨rfl, Mem.pick [0] rfl hm184⟩
def laws_heldPool (F : Nat) (a0 : impl_Pool) (a1 : Int) : Option (Int) := (laws_heldIntS F a0.Free a1).bind fun r22 => (bif (decide (r22 < 0)) then (some (-1)) else (laws_heldIntS F a0.Owner r22).bind fun r29 => (bif (decide (r29 < 0)) then (some (-1)) else (some r29)))
set_option maxHeartbeats 400000 in
set_option maxRecDepth 100000 in
theorem laws_heldPool_ok (F : Nat) {w0 w : World} {hR hF : Hp} {v0x0 : Value} {v0x1 : Value} (a0 : impl_Pool) (a1 : Int) {r : (Int)} (H0x0 : RdF w0 (FK.int .i64) v0x0 a0.Free hR) (H0x1 : RdF w0 (FK.int .i64) v0x1 a0.Owner hR) (hs : Sub hR hF) (hm : Mem w0 w (cat [hF])) (he : laws_heldPool F a0 a1 = some r) :
    Calls Try.prog 25 #[(.agg #[v0x0, v0x1]), (.int .i64 a1)] w (fun e w' => e = .returned (.int .i64 r) ∧ Mem w0 w' (cat [hF])) := by
 refine calls_fr (n := 18) Try.func25 rfl rfl rfl ?_
 unfold laws_heldPool at he
 refine wp_seq ?_
 refine wp_region_lit ?_
 refine s_exv (won rfl) rfl rfl (e_box (vs := [v0x0, v0x1]) rfl (ev (t := 0) rfl rfl) rfl hm) ?_
 rintro g18 w19 hm20
 refine s_val (v := (.int .i64 0)) (won rfl) rfl rfl (x_assign rfl rfl) ?_
 refine wpList_nil ?_
 refine nx ?_
 refine wp_seq ?_
 obtain ⟨r22, hr22, he⟩ := bindE he
 refine wp_region_lit ?_
 refine s_val (v := (.pointer (some ⟨g18, 0, none⟩))) (won rfl) rfl rfl (x_field rfl fa_28x0 (ev (t := 2) rfl rfl)) ?_
 refine s_val (v := v0x0) (won rfl) rfl rfl (x_load rfl ty1x26 (ev (t := 5) rfl rfl) (seg_cell (o' := 0) (j := 0) hm20 (k := 0) rfl rfl rfl)) ?_
 refine s_val (v := (.int .i64 a1)) (won rfl) rfl rfl (x_move rfl (ev (t := 1) rfl rfl)) ?_
 refine s_call (won rfl) rfl rfl (x_call rfl rfl cl_71 (map_lit (map_cons (ev (t := 6) rfl rfl) (map_cons (ev (t := 7) rfl rfl) map_nil)))) (laws_heldIntS_ok F (hR := (cat [hR])) (hF := cat [sg g18 28 (0, 0) [] [v0x0, v0x1] [], hF]) a0.Free a1 (H0x0.mono (Sub.at_ (k := 0) rfl)) (subc (Sub.trans hs (Sub.at_ (k := 1) rfl)) subn) (Mem.one hm20) hr22) ?_
 rintro e w23 ⟨rfl, hm24⟩
 refine ⟨_, rfl, ?_⟩
 replace hm24 : Mem w0 w23 (cat [sg g18 28 (0, 0) [] [v0x0, v0x1] [], hF]) := Mem.un hm24
 refine s_val (v := (.int .i64 r22)) (won rfl) rfl rfl (x_assign rfl (ev (t := 8) rfl rfl)) ?_
 refine wpList_nil ?_
 refine nx ?_
 refine wp_seq ?_
 refine wp_seq ?_
 refine wp_region_lit ?_
 refine s_val (v := (.int .i64 r22)) (won rfl) rfl rfl (x_move rfl (ev (t := 1) rfl rfl)) ?_
 refine s_val (v := (.bool (decide (r22 < 0)))) (won rfl) rfl rfl (x_lss rfl (ev (t := 9) rfl rfl) rfl) ?_
 refine wpList_nil ?_
 refine nx ?_
 rcases Bool.eq_false_or_eq_true ((decide (r22 < 0))) with hb27 | hb27
 ·
  replace he := bifT he hb27
  refine c_true rfl (p := (decide (r22 < 0))) rfl rfl hb27 ?_
  refine wp_seq ?_
  refine wp_region_lit ?_
  refine s_val (v := (.int .i64 (-1))) (won rfl) rfl rfl (x_assign rfl rfl) ?_
  refine wpList_nil ?_
  have hm28 : Mem w0 w23 (cat [hF]) := Mem.pick [1] rfl hm24
  refine nx ?_
  refine wp_ret ?_
  refine xr ?_
  obtain rfl := Option.some.inj he
  refine r_ret (v := (.int .i64 (-1))) (rv_one rfl (RVs.tmp (v := (.int .i64 (-1))) rfl rfl RVs.nil)) rfl ?_
  exact ⟨rfl, Mem.pick [0] rfl hm28⟩
 ·
  replace he := bifF he hb27
  refine c_false rfl (p := (decide (r22 < 0))) rfl rfl hb27 ?_
  refine wp_skip ?_
  refine nx ?_
  refine wp_seq ?_
  obtain ⟨r29, hr29, he⟩ := bindE he
  refine wp_region_lit ?_
  refine s_val (v := (.pointer (some ⟨g18, 1, none⟩))) (won rfl) rfl rfl (x_field rfl fa_28x1 (ev (t := 2) rfl rfl)) ?_
  refine s_val (v := v0x1) (won rfl) rfl rfl (x_load rfl ty1x26 (ev (t := 11) rfl rfl) (seg_cell (o' := 0) (j := 1) hm24 (k := 0) rfl rfl rfl)) ?_
  refine s_val (v := (.int .i64 r22)) (won rfl) rfl rfl (x_move rfl (ev (t := 1) rfl rfl)) ?_
  refine s_call (won rfl) rfl rfl (x_call rfl rfl cl_71 (map_lit (map_cons (ev (t := 12) rfl rfl) (map_cons (ev (t := 13) rfl rfl) map_nil)))) (laws_heldIntS_ok F (hR := (cat [hR])) (hF := cat [sg g18 28 (0, 0) [] [v0x0, v0x1] [], hF]) a0.Owner r22 (H0x1.mono (Sub.at_ (k := 0) rfl)) (subc (Sub.trans hs (Sub.at_ (k := 1) rfl)) subn) (Mem.one hm24) hr29) ?_
  rintro e w30 ⟨rfl, hm31⟩
  refine ⟨_, rfl, ?_⟩
  replace hm31 : Mem w0 w30 (cat [sg g18 28 (0, 0) [] [v0x0, v0x1] [], hF]) := Mem.un hm31
  refine s_val (v := (.int .i64 r29)) (won rfl) rfl rfl (x_assign rfl (ev (t := 14) rfl rfl)) ?_
  refine wpList_nil ?_
  have hm32 : Mem w0 w30 (cat [hF]) := Mem.pick [1] rfl hm31
  refine nx ?_
  refine wp_seq ?_
  refine wp_seq ?_
  refine wp_region_lit ?_
  refine s_val (v := (.int .i64 r29)) (won rfl) rfl rfl (x_move rfl (ev (t := 1) rfl rfl)) ?_
  refine s_val (v := (.bool (decide (r29 < 0)))) (won rfl) rfl rfl (x_lss rfl (ev (t := 15) rfl rfl) rfl) ?_
  refine wpList_nil ?_
  refine nx ?_
  rcases Bool.eq_false_or_eq_true ((decide (r29 < 0))) with hb34 | hb34
  ·
   replace he := bifT he hb34
   refine c_true rfl (p := (decide (r29 < 0))) rfl rfl hb34 ?_
   refine wp_seq ?_
   refine wp_region_lit ?_
   refine s_val (v := (.int .i64 (-1))) (won rfl) rfl rfl (x_assign rfl rfl) ?_
   refine wpList_nil ?_
   refine nx ?_
   refine wp_ret ?_
   refine xr ?_
   obtain rfl := Option.some.inj he
   refine r_ret (v := (.int .i64 (-1))) (rv_one rfl (RVs.tmp (v := (.int .i64 (-1))) rfl rfl RVs.nil)) rfl ?_
   exact ⟨rfl, Mem.pick [0] rfl hm32⟩
  ·
   replace he := bifF he hb34
   refine c_false rfl (p := (decide (r29 < 0))) rfl rfl hb34 ?_
   refine wp_skip ?_
   refine nx ?_
   refine wp_seq ?_
   refine wp_region_lit ?_
   refine s_val (v := (.int .i64 r29)) (won rfl) rfl rfl (x_move rfl (ev (t := 1) rfl rfl)) ?_
   refine s_val (v := (.int .i64 r29)) (won rfl) rfl rfl (x_assign rfl (ev (t := 17) rfl rfl)) ?_
   refine wpList_nil ?_
   refine nx ?_
   refine wp_ret ?_
   obtain rfl := Option.some.inj he
   refine r_ret (v := (.int .i64 r29)) (rv_one rfl (RVs.tmp (v := (.int .i64 r29)) rfl rfl RVs.nil)) rfl ?_
   exact ⟨rfl, Mem.pick [0] rfl hm32⟩
def laws_heldPoolReplyS_l1 (F : Nat) (a0 : (List impl_PoolReply)) : Nat → Int → Int → Option (Fl (Int) (Int))
  | 0, _, _ => none
  | k + 1, s235, s237 => (bif (decide (s237 < (a0.length : Int))) then gd ((0 : Int) ≤ s237 ∧ s237 < (a0.length : Int)) ((bif (!decide ((ix a0 s237).Code = s235)) then (some (Fl.out (-1))) else gd ((0 : Int) ≤ s237 ∧ s237 < (a0.length : Int)) ((bif (!decide ((ix a0 s237).Buffer = (IntKind.wrap .i64 (s235 + 1)))) then (some (Fl.out (-1))) else laws_heldPoolReplyS_l1 F a0 k (IntKind.wrap .i64 ((IntKind.wrap .i64 (s235 + 1)) + 1)) (IntKind.wrap .i64 (s237 + 1)))))) else (some (Fl.go s235)))
def laws_heldPoolReplyS (F : Nat) (a0 : (List impl_PoolReply)) (a1 : Int) : Option (Int) := (laws_heldPoolReplyS_l1 F a0 F a1 0 : Option (Fl (Int) (Int))).bind fun l210 => l210.on fun (s209 : (Int)) => (some s209)
set_option maxHeartbeats 400000 in
set_option maxRecDepth 100000 in
theorem laws_heldPoolReplyS_ok (F : Nat) {w0 w : World} {hR hF : Hp} {v0x0 : Value} (a0 : (List impl_PoolReply)) (a1 : Int) {r : (Int)} (H0x0 : RdF w0 impl_PoolReply.K v0x0 a0 hR) (hs : Sub hR hF) (hm : Mem w0 w (cat [hF])) (he : laws_heldPoolReplyS F a0 a1 = some r) :
    Calls Try.prog 32 #[v0x0, (.int .i64 a1)] w (fun e w' => e = .returned (.int .i64 r) ∧ Mem w0 w' (cat [hF])) := by
 refine calls_fr (n := 31) Try.func32 rfl rfl rfl ?_
 unfold laws_heldPoolReplyS at he
 refine wp_seq ?_
 refine wp_region_lit ?_
 refine s_val (v := (.int .i64 0)) (won rfl) rfl rfl (x_assign rfl rfl) ?_
 refine wpList_nil ?_
 refine nx ?_
 obtain ⟨l210, hT212, hk211⟩ := bindE he
 replace he := hT212
 refine wp_seqJ (fun a w => ∃ (s209 : (Int)) (f : Nat → Value), l210 = Fl.go s209 ∧ a = fr 31 f ∧ f 1 = (.int .i64 s209) ∧ Mem w0 w (cat [hF])) ?_ ?_
 ·
  refine wp_seq ?_
  refine wp_region_lit ?_
  refine s_val (v := (.int .i64 0)) (won rfl) rfl rfl (x_assign rfl rfl) ?_
  refine wpList_nil ?_
  refine nx ?_
  refine wp_block ?_
  refine wp_fuel (I := fun k => fun a w => ∃ (s235 : Int) (s237 : Int) (f : Nat → Value), laws_heldPoolReplyS_l1 F a0 k s235 s237 = some l210 ∧ a = fr 31 f ∧ f 0 = v0x0 ∧ f 1 = (.int .i64 s235) ∧ f 5 = (.int .i64 s237) ∧ Mem w0 w (cat [hF])) F _ _ ⟨a1, 0, _, he, rfl, rfl, rfl, rfl, Mem.pick [0] rfl hm⟩ ?_ ?_
  ·
   rintro a w ⟨s235, s237, f, he, rfl, q234, q236, q238, hm258⟩
   rw [laws_heldPoolReplyS_l1] at he; exact none_no he
  ·
   rintro k a w ⟨s235, s237, f, he, rfl, q234, q236, q238, hm260⟩
   rw [laws_heldPoolReplyS_l1] at he
   refine wp_seq ?_
   refine wp_seq ?_
   refine wp_region_lit ?_
   refine s_val (v := (.int .i64 s237)) (won rfl) rfl rfl (x_move rfl (ev (t := 5) (v := (.int .i64 s237)) rfl q238)) ?_
   refine s_val (v := v0x0) (won rfl) rfl rfl (x_move rfl (ev (t := 0) (v := v0x0) rfl q234)) ?_
   refine s_val (v := (.int .i64 (a0.length : Int))) (won rfl) rfl rfl (x_len rfl slt_31 (ev (t := 7) rfl rfl) (H0x0).sl) ?_
   refine s_val (v := (.bool (decide (s237 < (a0.length : Int))))) (won rfl) rfl rfl (x_lss rfl (ev (t := 6) rfl rfl) (ev (t := 8) rfl rfl)) ?_
   refine wpList_nil ?_
   refine nx ?_
   rcases Bool.eq_false_or_eq_true ((decide (s237 < (a0.length : Int)))) with hb262 | hb262
   ·
    replace he := bifT he hb262
    refine c_true rfl (p := (decide (s237 < (a0.length : Int)))) rfl rfl hb262 ?_
    refine wp_skip ?_
    refine nx ?_
    refine wp_seq ?_
    refine wp_block ?_
    refine wp_seq ?_
    refine wp_seq ?_
    obtain ⟨hg273, he⟩ := gdE he
    refine wp_region_lit ?_
    refine s_val (v := v0x0) (won rfl) rfl rfl (x_move rfl (ev (t := 0) (v := v0x0) rfl q234)) ?_
    refine s_val (v := (.int .i64 s237)) (won rfl) rfl rfl (x_move rfl (ev (t := 5) (v := (.int .i64 s237)) rfl q238)) ?_
    refine s_val (v := (.pointer (some ((slA v0x0).add (Int.toNat s237 * 2))))) (won rfl) rfl rfl (x_index (d := impl_PoolReply.K) rfl slt_31 (ev (t := 12) rfl rfl) (ev (t := 13) rfl rfl) H0x0 hg273.1 hg273.2) ?_
    refine s_val (v := (.pointer (some (((slA v0x0).add (Int.toNat s237 * 2)).add 0)))) (won rfl) rfl rfl (x_fielda rfl fa_35x0 (ev (t := 14) rfl rfl)) ?_
    refine s_val (v := (.int .i64 (ix a0 s237).Code)) (won rfl) rfl rfl (x_load rfl ty1x3 (ev (t := 15) rfl rfl) (RdF.cells H0x0 hm260 (Sub.trans hs (Sub.at_ (k := 0) rfl)) hg273.1 hg273.2 0 _ rfl)) ?_
    refine s_val (v := (.int .i64 s235)) (won rfl) rfl rfl (x_move rfl (ev (t := 1) (v := (.int .i64 s235)) rfl q236)) ?_
    refine s_val (v := (.bool (!decide ((ix a0 s237).Code = s235)))) (won rfl) rfl rfl (x_neq rfl (ev (t := 16) rfl rfl) (ev (t := 17) rfl rfl)) ?_
    refine wpList_nil ?_
    refine nx ?_
    rcases Bool.eq_false_or_eq_true ((!decide ((ix a0 s237).Code = s235))) with hb274 | hb274
    ·
     replace he := bifT he hb274
     refine c_true rfl (p := (!decide ((ix a0 s237).Code = s235))) rfl rfl hb274 ?_
     refine wp_seq ?_
     refine wp_region_lit ?_
     refine s_val (v := (.int .i64 (-1))) (won rfl) rfl rfl (x_assign rfl rfl) ?_
     refine wpList_nil ?_
     refine nx ?_
     refine wp_ret ?_
     refine xr ?_
     refine rb ?_
     refine xr ?_
     refine xr ?_
     refine rb ?_
     refine xr ?_
     obtain rfl := Option.some.inj he
     replace he := outE hk211
     obtain rfl := Option.some.inj he
     refine r_ret (v := (.int .i64 (-1))) (rv_one rfl (RVs.tmp (v := (.int .i64 (-1))) rfl rfl RVs.nil)) rfl ?_
     exact ⟨rfl, Mem.pick [0] rfl hm260⟩
    ·
     replace he := bifF he hb274
     refine c_false rfl (p := (!decide ((ix a0 s237).Code = s235))) rfl rfl hb274 ?_
     refine wp_skip ?_
     refine nx ?_
     refine wp_seq ?_
     refine wp_region_lit ?_
     refine s_val (v := (.int .i64 s235)) (won rfl) rfl rfl (x_move rfl (ev (t := 1) (v := (.int .i64 s235)) rfl q236)) ?_
     refine s_val (v := (.int .i64 (IntKind.wrap .i64 (s235 + 1)))) (won rfl) rfl rfl (x_add rfl (ev (t := 19) rfl rfl) rfl) ?_
     refine s_val (v := (.int .i64 (IntKind.wrap .i64 (s235 + 1)))) (won rfl) rfl rfl (x_assign rfl (ev (t := 20) rfl rfl)) ?_
     refine wpList_nil ?_
     refine nx ?_
     refine wp_seq ?_
     refine wp_seq ?_
     obtain ⟨hg277, he⟩ := gdE he
     refine wp_region_lit ?_
     refine s_val (v := v0x0) (won rfl) rfl rfl (x_move rfl (ev (t := 0) (v := v0x0) rfl q234)) ?_
     refine s_val (v := (.int .i64 s237)) (won rfl) rfl rfl (x_move rfl (ev (t := 5) (v := (.int .i64 s237)) rfl q238)) ?_
     refine s_val (v := (.pointer (some ((slA v0x0).add (Int.toNat s237 * 2))))) (won rfl) rfl rfl (x_index (d := impl_PoolReply.K) rfl slt_31 (ev (t := 21) rfl rfl) (ev (t := 22) rfl rfl) H0x0 hg277.1 hg277.2) ?_
     refine s_val (v := (.pointer (some (((slA v0x0).add (Int.toNat s237 * 2)).add 1)))) (won rfl) rfl rfl (x_fielda rfl fa_35x1 (ev (t := 23) rfl rfl)) ?_
     refine s_val (v := (.int .i64 (ix a0 s237).Buffer)) (won rfl) rfl rfl (x_load rfl ty1x3 (ev (t := 24) rfl rfl) (RdF.cells H0x0 hm260 (Sub.trans hs (Sub.at_ (k := 0) rfl)) hg277.1 hg277.2 1 _ rfl)) ?_
     refine s_val (v := (.int .i64 (IntKind.wrap .i64 (s235 + 1)))) (won rfl) rfl rfl (x_move rfl (ev (t := 1) rfl rfl)) ?_
     refine s_val (v := (.bool (!decide ((ix a0 s237).Buffer = (IntKind.wrap .i64 (s235 + 1)))))) (won rfl) rfl rfl (x_neq rfl (ev (t := 25) rfl rfl) (ev (t := 26) rfl rfl)) ?_
     refine wpList_nil ?_
     refine nx ?_
     rcases Bool.eq_false_or_eq_true ((!decide ((ix a0 s237).Buffer = (IntKind.wrap .i64 (s235 + 1))))) with hb278 | hb278
     ·
      replace he := bifT he hb278
      refine c_true rfl (p := (!decide ((ix a0 s237).Buffer = (IntKind.wrap .i64 (s235 + 1))))) rfl rfl hb278 ?_
      refine wp_seq ?_
      refine wp_region_lit ?_
      refine s_val (v := (.int .i64 (-1))) (won rfl) rfl rfl (x_assign rfl rfl) ?_
      refine wpList_nil ?_
      refine nx ?_
      refine wp_ret ?_
      refine xr ?_
      refine rb ?_
      refine xr ?_
      refine xr ?_
      refine rb ?_
      refine xr ?_
      obtain rfl := Option.some.inj he
      replace he := outE hk211
      obtain rfl := Option.some.inj he
      refine r_ret (v := (.int .i64 (-1))) (rv_one rfl (RVs.tmp (v := (.int .i64 (-1))) rfl rfl RVs.nil)) rfl ?_
      exact ⟨rfl, Mem.pick [0] rfl hm260⟩
     ·
      replace he := bifF he hb278
      refine c_false rfl (p := (!decide ((ix a0 s237).Buffer = (IntKind.wrap .i64 (s235 + 1))))) rfl rfl hb278 ?_
      refine wp_skip ?_
      refine nx ?_
      refine wp_region_lit ?_
      refine s_val (v := (.int .i64 (IntKind.wrap .i64 (s235 + 1)))) (won rfl) rfl rfl (x_move rfl (ev (t := 1) rfl rfl)) ?_
      refine s_val (v := (.int .i64 (IntKind.wrap .i64 ((IntKind.wrap .i64 (s235 + 1)) + 1)))) (won rfl) rfl rfl (x_add rfl (ev (t := 28) rfl rfl) rfl) ?_
      refine s_val (v := (.int .i64 (IntKind.wrap .i64 ((IntKind.wrap .i64 (s235 + 1)) + 1)))) (won rfl) rfl rfl (x_assign rfl (ev (t := 29) rfl rfl)) ?_
      refine wpList_nil ?_
      refine nb ?_
      refine nx ?_
      refine wp_region_lit ?_
      refine s_val (v := (.int .i64 s237)) (won rfl) rfl rfl (x_move rfl (ev (t := 5) (v := (.int .i64 s237)) rfl q238)) ?_
      refine s_val (v := (.int .i64 (IntKind.wrap .i64 (s237 + 1)))) (won rfl) rfl rfl (x_add rfl (ev (t := 10) rfl rfl) rfl) ?_
      refine s_val (v := (.int .i64 (IntKind.wrap .i64 (s237 + 1)))) (won rfl) rfl rfl (x_assign rfl (ev (t := 11) rfl rfl)) ?_
      refine wpList_nil ?_
      refine nx ?_
      exact ⟨(IntKind.wrap .i64 ((IntKind.wrap .i64 (s235 + 1)) + 1)), (IntKind.wrap .i64 (s237 + 1)), _, he, rfl, q234, rfl, rfl, Mem.pick [0] rfl hm260⟩
   ·
    replace he := bifF he hb262
    refine c_false rfl (p := (decide (s237 < (a0.length : Int)))) rfl rfl hb262 ?_
    refine wp_exit ?_
    refine xs ?_
    refine xs ?_
    refine xb ?_
    refine nx ?_
    obtain rfl := Option.some.inj he
    exact ⟨s235, _, rfl, rfl, q236, Mem.pick [0] rfl hm260⟩
 ·
  rintro a w ⟨s209, f, rfl, rfl, q208, hm280⟩
  replace he := goE hk211
  refine wp_seq ?_
  refine wp_region_lit ?_
  refine s_val (v := (.int .i64 s209)) (won rfl) rfl rfl (x_move rfl (ev (t := 1) (v := (.int .i64 s209)) rfl q208)) ?_
  refine s_val (v := (.int .i64 s209)) (won rfl) rfl rfl (x_assign rfl (ev (t := 30) rfl rfl)) ?_
  refine wpList_nil ?_
  refine nx ?_
  refine wp_ret ?_
  obtain rfl := Option.some.inj he
  refine r_ret (v := (.int .i64 s209)) (rv_one rfl (RVs.tmp (v := (.int .i64 s209)) rfl rfl RVs.nil)) rfl ?_
  exact ⟨rfl, Mem.pick [0] rfl hm280⟩
end Go.Proofs.Ytpkdolmbhfmjcaa.FnExactPoolRun
