/- What functions of the program compute, and their walks: printed. -/
import Derived.Test.YtpkdolmbhfmjcaaFnExactRingRunT
set_option linter.unusedVariables false
set_option linter.unusedSimpArgs false
set_option linter.unusedSectionVars false
namespace Go.Proofs.Ytpkdolmbhfmjcaa.FnExactRingRun
open Go.RowKit Go.Proofs.Gw
attribute [local irreducible] wpList DG wpQuiet wl
def laws_szRingActS (a0 : (List impl_RingAct)) (a1 : Int) : Option (Int) := (bif (decide ((IntKind.wrap .i64 (a1 - (a0.length : Int))) < 0)) then (some (-1)) else (some (IntKind.wrap .i64 (a1 - (a0.length : Int)))))
set_option maxHeartbeats 400000 in
set_option maxRecDepth 100000 in
theorem laws_szRingActS_ok {w0 w : World} {hR hF : Hp} {v0x0 : Value} (a0 : (List impl_RingAct)) (a1 : Int) {r : (Int)} (H0x0 : RdF w0 impl_RingAct.K v0x0 a0 hR) (hs : Sub hR hF) (hm : Mem w0 w (cat [hF])) (he : laws_szRingActS a0 a1 = some r) :
    Calls Try.prog 49 #[v0x0, (.int .i64 a1)] w (fun e w' => e = .returned (.int .i64 r) ∧ Mem w0 w' (cat [hF])) := by
 refine calls_fr (n := 12) Try.func49 rfl rfl rfl ?_
 unfold laws_szRingActS at he
 refine wp_seq ?_
 refine wp_region_lit ?_
 refine s_val (v := (.int .i64 0)) (won rfl) rfl rfl (x_assign rfl rfl) ?_
 refine wpList_nil ?_
 refine nx ?_
 refine wp_seq ?_
 refine wp_region_lit ?_
 refine s_val (v := (.int .i64 a1)) (won rfl) rfl rfl (x_move rfl (ev (t := 1) rfl rfl)) ?_
 refine s_val (v := v0x0) (won rfl) rfl rfl (x_move rfl (ev (t := 0) rfl rfl)) ?_
 refine s_val (v := (.int .i64 (a0.length : Int))) (won rfl) rfl rfl (x_len rfl slt_87 (ev (t := 6) rfl rfl) (H0x0).sl) ?_
 refine s_val (v := (.int .i64 (IntKind.wrap .i64 (a1 - (a0.length : Int))))) (won rfl) rfl rfl (x_sub rfl (ev (t := 5) rfl rfl) (ev (t := 7) rfl rfl)) ?_
 refine s_val (v := (.int .i64 (IntKind.wrap .i64 (a1 - (a0.length : Int))))) (won rfl) rfl rfl (x_assign rfl (ev (t := 8) rfl rfl)) ?_
 refine wpList_nil ?_
 refine nx ?_
 refine wp_seq ?_
 refine wp_seq ?_
 refine wp_region_lit ?_
 refine s_val (v := (.int .i64 (IntKind.wrap .i64 (a1 - (a0.length : Int))))) (won rfl) rfl rfl (x_move rfl (ev (t := 1) rfl rfl)) ?_
 refine s_val (v := (.bool (decide ((IntKind.wrap .i64 (a1 - (a0.length : Int))) < 0)))) (won rfl) rfl rfl (x_lss rfl (ev (t := 9) rfl rfl) rfl) ?_
 refine wpList_nil ?_
 refine nx ?_
 rcases Bool.eq_false_or_eq_true ((decide ((IntKind.wrap .i64 (a1 - (a0.length : Int))) < 0))) with hb4 | hb4
 ·
  replace he := bifT he hb4
  refine c_true rfl (p := (decide ((IntKind.wrap .i64 (a1 - (a0.length : Int))) < 0))) rfl rfl hb4 ?_
  refine wp_seq ?_
  refine wp_region_lit ?_
  refine s_val (v := (.int .i64 (-1))) (won rfl) rfl rfl (x_assign rfl rfl) ?_
  refine wpList_nil ?_
  refine nx ?_
  refine wp_ret ?_
  refine xr ?_
  obtain rfl := Option.some.inj he
  refine r_ret (v := (.int .i64 (-1))) (rv_one rfl (RVs.tmp (v := (.int .i64 (-1))) rfl rfl RVs.nil)) rfl ?_
  exact ⟨rfl, Mem.pick [0] rfl hm⟩
 ·
  replace he := bifF he hb4
  refine c_false rfl (p := (decide ((IntKind.wrap .i64 (a1 - (a0.length : Int))) < 0))) rfl rfl hb4 ?_
  refine wp_skip ?_
  refine nx ?_
  refine wp_seq ?_
  refine wp_region_lit ?_
  refine s_val (v := (.int .i64 (IntKind.wrap .i64 (a1 - (a0.length : Int))))) (won rfl) rfl rfl (x_move rfl (ev (t := 1) rfl rfl)) ?_
  refine s_val (v := (.int .i64 (IntKind.wrap .i64 (a1 - (a0.length : Int))))) (won rfl) rfl rfl (x_assign rfl (ev (t := 11) rfl rfl)) ?_
  refine wpList_nil ?_
  refine nx ?_
  refine wp_ret ?_
  obtain rfl := Option.some.inj he
  refine r_ret (v := (.int .i64 (IntKind.wrap .i64 (a1 - (a0.length : Int))))) (rv_one rfl (RVs.tmp (v := (.int .i64 (IntKind.wrap .i64 (a1 - (a0.length : Int))))) rfl rfl RVs.nil)) rfl ?_
  exact ⟨rfl, Mem.pick [0] rfl hm⟩
def laws_toRingAct (a0 : impl_RingAct) : Option (impl_RingAct) := (some a0)
set_option maxHeartbeats 400000 in
set_option maxRecDepth 100000 in
theorem laws_toRingAct_ok {w0 w : World} {hR hF : Hp} (a0 : impl_RingAct) {r : (impl_RingAct)} (hm : Mem w0 w (cat [hF])) (he : laws_toRingAct a0 = some r) :
    Calls Try.prog 41 #[(.agg #[(.int .i64 a0.Kind), (.int .i64 a0.N)])] w (fun e w' => e = .returned (.agg #[(.int .i64 r.Kind), (.int .i64 r.N)]) ∧ Mem w0 w' (cat [hF])) := by
 refine calls_fr (n := 11) Try.func41 rfl rfl rfl ?_
 unfold laws_toRingAct at he
 refine wp_seq ?_
 refine wp_region_lit ?_
 refine s_exv (won rfl) rfl rfl (e_box (vs := [(.int .i64 a0.Kind), (.int .i64 a0.N)]) rfl (ev (t := 0) rfl rfl) rfl hm) ?_
 rintro g21 w22 hm23
 refine s_exv (won rfl) rfl rfl (e_alloc (vs := [(.int .i64 0), (.int .i64 0)]) rfl zt_74 rfl hm23) ?_
 rintro g25 w26 hm27
 refine wpList_nil ?_
 refine nx ?_
 refine wp_seq ?_
 refine wp_region_lit ?_
 refine s_exv (won rfl) rfl rfl (e_alloc (vs := [(.int .i64 0), (.int .i64 0)]) rfl zt_74 rfl hm27) ?_
 rintro g29 w30 hm31
 refine wpList_nil ?_
 refine nx ?_
 refine wp_seq ?_
 refine wp_region_lit ?_
 refine s_val (v := (.pointer (some ⟨g21, 0, none⟩))) (won rfl) rfl rfl (x_field rfl fa_76x0 (ev (t := 1) rfl rfl)) ?_
 refine s_val (v := (.int .i64 a0.Kind)) (won rfl) rfl rfl (x_load rfl ty1x3 (ev (t := 4) rfl rfl) (seg_cell (o' := 0) (j := 0) hm31 (k := 2) rfl rfl rfl)) ?_
 refine s_val (v := (.pointer (some ⟨g29, 0, none⟩))) (won rfl) rfl rfl (x_field rfl fa_74x0 (ev (t := 3) rfl rfl)) ?_
 refine s_exs (won rfl) rfl (e_store (vs := [(.int .i64 a0.Kind)]) (o' := 0) (j := 0) rfl sz_3 (ev (t := 6) rfl rfl) (ev (t := 5) rfl rfl) rfl rfl hm31 (k := 0) rfl rfl rfl) ?_
 intro w33 hm34
 replace hm34 : Mem w0 w33 (cat [sg g29 74 (0, 0) [] [(.int .i64 a0.Kind), (.int .i64 0)] [], sg g25 74 (0, 0) [] [(.int .i64 0), (.int .i64 0)] [], sg g21 76 (0, 0) [] [(.int .i64 a0.Kind), (.int .i64 a0.N)] [], hF]) := hm34
 refine wpList_nil ?_
 refine nx ?_
 refine wp_seq ?_
 refine wp_region_lit ?_
 refine s_val (v := (.pointer (some ⟨g21, 1, none⟩))) (won rfl) rfl rfl (x_field rfl fa_76x1 (ev (t := 1) rfl rfl)) ?_
 refine s_val (v := (.int .i64 a0.N)) (won rfl) rfl rfl (x_load rfl ty1x3 (ev (t := 7) rfl rfl) (seg_cell (o' := 0) (j := 1) hm34 (k := 2) rfl rfl rfl)) ?_
 refine s_val (v := (.pointer (some ⟨g29, 1, none⟩))) (won rfl) rfl rfl (x_field rfl fa_74x1 (ev (t := 3) rfl rfl)) ?_
 refine s_exs (won rfl) rfl (e_store (vs := [(.int .i64 a0.N)]) (o' := 0) (j := 1) rfl sz_3 (ev (t := 9) rfl rfl) (ev (t := 8) rfl rfl) rfl rfl hm34 (k := 0) rfl rfl rfl) ?_
 intro w35 hm36
 replace hm36 : Mem w0 w35 (cat [sg g29 74 (0, 0) [] [(.int .i64 a0.Kind), (.int .i64 a0.N)] [], sg g25 74 (0, 0) [] [(.int .i64 0), (.int .i64 0)] [], sg g21 76 (0, 0) [] [(.int .i64 a0.Kind), (.int .i64 a0.N)] [], hF]) := hm36
 refine wpList_nil ?_
 have hm37 : Mem w0 w35 (cat [sg g29 74 (0, 0) [] [(.int .i64 a0.Kind), (.int .i64 a0.N)] [], sg g25 74 (0, 0) [] [(.int .i64 0), (.int .i64 0)] [], hF]) := Mem.pick [0, 1, 3] rfl hm36
 refine nx ?_
 refine wp_seq ?_
 refine wp_region_lit ?_
 refine s_val (v := (.agg #[(.int .i64 a0.Kind), (.int .i64 a0.N)])) (won rfl) rfl rfl (x_loadN (vs := [(.int .i64 a0.Kind), (.int .i64 a0.N)]) rfl tyN_74 (ev (t := 3) rfl rfl) (seg_cells (o' := 0) (j := 0) hm37 (k := 0) rfl rfl rfl)) ?_
 refine s_exs (won rfl) rfl (e_store (vs := [(.int .i64 a0.Kind), (.int .i64 a0.N)]) (o' := 0) (j := 0) rfl sz_74 (ev (t := 2) rfl rfl) (ev (t := 10) rfl rfl) rfl rfl hm37 (k := 1) rfl rfl rfl) ?_
 intro w38 hm39
 replace hm39 : Mem w0 w38 (cat [sg g29 74 (0, 0) [] [(.int .i64 a0.Kind), (.int .i64 a0.N)] [], sg g25 74 (0, 0) [] [(.int .i64 a0.Kind), (.int .i64 a0.N)] [], hF]) := hm39
 refine wpList_nil ?_
 have hm40 : Mem w0 w38 (cat [sg g25 74 (0, 0) [] [(.int .i64 a0.Kind), (.int .i64 a0.N)] [], hF]) := Mem.pick [1, 2] rfl hm39
 refine nx ?_
 refine wp_ret ?_
 obtain rfl := Option.some.inj he
 refine r_ret (v := (.agg #[(.int .i64 a0.Kind), (.int .i64 a0.N)])) (rv_one rfl (RVs.cell (cs := [(.int .i64 a0.Kind), (.int .i64 a0.N)]) rfl rfl tyN_74 (seg_cells (o' := 0) (j := 0) hm40 (k := 0) rfl rfl rfl) RVs.nil)) rfl ?_
 exact ⟨rfl, Mem.pick [1] rfl hm40⟩
def laws_toRingActS_l1 (F : Nat) (a0 : (List impl_RingAct)) : Nat → (List impl_RingAct) → Int → Option ((List impl_RingAct))
  | 0, _, _ => none
  | k + 1, s381, s385 => (bif (decide (s385 < (a0.length : Int))) then gd ((0 : Int) ≤ s385 ∧ s385 < (a0.length : Int)) ((laws_toRingAct (impl_RingAct.mk (ix a0 s385).Kind (ix a0 s385).N)).bind fun r423 => gd ((0 : Int) ≤ s385 ∧ s385 < (s381.length : Int)) (laws_toRingActS_l1 F a0 k (List.set s381 (Int.toNat s385) r423) (IntKind.wrap .i64 (s385 + 1)))) else (some s381))
def laws_toRingActS (F : Nat) (a0 : (List impl_RingAct)) : Option ((List impl_RingAct)) := gd ((0 : Int) ≤ (a0.length : Int) ∧ (Int.toNat (a0.length : Int)) * 16 ≤ 140737488355328) ((laws_toRingActS_l1 F a0 F (List.replicate (Int.toNat (a0.length : Int)) (impl_RingAct.mk 0 0)) 0 : Option ((List impl_RingAct))).bind fun (s328 : ((List impl_RingAct))) => (some s328))
set_option maxHeartbeats 400000 in
set_option maxRecDepth 100000 in
theorem laws_toRingActS_ok (F : Nat) {w0 w : World} {hR hF : Hp} {v0x0 : Value} (a0 : (List impl_RingAct)) {r : ((List impl_RingAct))} (H0x0 : RdF w0 impl_RingAct.K v0x0 a0 hR) (hs : Sub hR hF) (hm : Mem w0 w (cat [hF])) (he : laws_toRingActS F a0 = some r) :
    Calls Try.prog 50 #[v0x0] w (fun e w' => ∃ (v'0 : Value) (h'0 : Hp), e = .returned v'0 ∧ OwF 74 impl_RingAct.K v'0 r h'0 ∧ Mem w0 w' (cat [h'0, hF])) := by
 refine calls_fr (n := 23) Try.func50 rfl rfl rfl ?_
 unfold laws_toRingActS at he
 refine wp_seq ?_
 refine wp_region_lit ?_
 refine s_val (v := (.slice none 0 0)) (won rfl) rfl rfl (x_assign rfl rfl) ?_
 refine wpList_nil ?_
 refine nx ?_
 refine wp_seq ?_
 obtain ⟨hg218, he⟩ := gdE he
 refine wp_region_lit ?_
 refine s_val (v := v0x0) (won rfl) rfl rfl (x_move rfl (ev (t := 0) rfl rfl)) ?_
 refine s_val (v := (.int .i64 (a0.length : Int))) (won rfl) rfl rfl (x_len rfl slt_87 (ev (t := 5) rfl rfl) (H0x0).sl) ?_
 refine s_exv (won rfl) rfl rfl (e_make (d := impl_RingAct.K) (a := (impl_RingAct.mk 0 0)) rfl slt_62 rfl (ev (t := 6) rfl rfl) (ev (t := 6) rfl rfl) hg218.1 hg218.2 (by have := hg218; omega) hm) ?_
 rintro p220 w222 ⟨H221, hm223⟩
 replace hm223 : Mem w0 w222 (cat [p220.2, hF]) := hm223
 refine s_val (v := p220.1) (won rfl) rfl rfl (x_assign rfl (ev (t := 7) rfl rfl)) ?_
 refine wpList_nil ?_
 refine nx ?_
 obtain ⟨s328, hT330, hk329⟩ := bindE he
 replace he := hT330
 refine wp_seqJ (fun a w => ∃ (h325 : Hp) (f : Nat → Value), a = fr 23 f ∧ f 3 = p220.1 ∧ OwF 74 impl_RingAct.K p220.1 s328 h325 ∧ Mem w0 w (cat [h325, hF])) ?_ ?_
 ·
  refine wp_seq ?_
  refine wp_region_lit ?_
  refine s_val (v := (.int .i64 0)) (won rfl) rfl rfl (x_assign rfl rfl) ?_
  refine wpList_nil ?_
  refine nx ?_
  refine wp_block ?_
  refine wp_fuel (I := fun k => fun a w => ∃ (s381 : (List impl_RingAct)) (s385 : Int) (h382 : Hp) (f : Nat → Value), laws_toRingActS_l1 F a0 k s381 s385 = some s328 ∧ a = fr 23 f ∧ f 0 = v0x0 ∧ f 3 = p220.1 ∧ f 4 = (.int .i64 s385) ∧ OwF 74 impl_RingAct.K p220.1 s381 h382 ∧ Mem w0 w (cat [h382, hF])) F _ _ ⟨(List.replicate (Int.toNat (a0.length : Int)) (impl_RingAct.mk 0 0)), 0, p220.2, _, he, rfl, rfl, rfl, rfl, H221, Mem.pick [0, 1] rfl hm223⟩ ?_ ?_
  ·
   rintro a w ⟨s381, s385, h382, f, he, rfl, q380, q384, q386, H383, hm408⟩
   rw [laws_toRingActS_l1] at he; exact none_no he
  ·
   rintro k a w ⟨s381, s385, h382, f, he, rfl, q380, q384, q386, H383, hm410⟩
   rw [laws_toRingActS_l1] at he
   refine wp_seq ?_
   refine wp_seq ?_
   refine wp_region_lit ?_
   refine s_val (v := (.int .i64 s385)) (won rfl) rfl rfl (x_move rfl (ev (t := 4) (v := (.int .i64 s385)) rfl q386)) ?_
   refine s_val (v := v0x0) (won rfl) rfl rfl (x_move rfl (ev (t := 0) (v := v0x0) rfl q380)) ?_
   refine s_val (v := (.int .i64 (a0.length : Int))) (won rfl) rfl rfl (x_len rfl slt_87 (ev (t := 9) rfl rfl) (H0x0).sl) ?_
   refine s_val (v := (.bool (decide (s385 < (a0.length : Int))))) (won rfl) rfl rfl (x_lss rfl (ev (t := 8) rfl rfl) (ev (t := 10) rfl rfl)) ?_
   refine wpList_nil ?_
   refine nx ?_
   rcases Bool.eq_false_or_eq_true ((decide (s385 < (a0.length : Int)))) with hb412 | hb412
   ·
    replace he := bifT he hb412
    refine c_true rfl (p := (decide (s385 < (a0.length : Int)))) rfl rfl hb412 ?_
    refine wp_skip ?_
    refine nx ?_
    refine wp_seq ?_
    refine wp_block ?_
    obtain ⟨hg422, he⟩ := gdE he
    obtain ⟨r423, hr423, he⟩ := bindE he
    obtain ⟨hg426, he⟩ := gdE he
    refine wp_region_lit ?_
    refine s_val (v := p220.1) (won rfl) rfl rfl (x_move rfl (ev (t := 3) (v := p220.1) rfl q384)) ?_
    refine s_val (v := (.int .i64 s385)) (won rfl) rfl rfl (x_move rfl (ev (t := 4) (v := (.int .i64 s385)) rfl q386)) ?_
    refine s_val (v := v0x0) (won rfl) rfl rfl (x_move rfl (ev (t := 0) (v := v0x0) rfl q380)) ?_
    refine s_val (v := (.int .i64 s385)) (won rfl) rfl rfl (x_move rfl (ev (t := 4) (v := (.int .i64 s385)) rfl q386)) ?_
    refine s_val (v := (.pointer (some ((slA v0x0).add (Int.toNat s385 * 2))))) (won rfl) rfl rfl (x_index (d := impl_RingAct.K) rfl slt_87 (ev (t := 16) rfl rfl) (ev (t := 17) rfl rfl) H0x0 hg422.1 hg422.2) ?_
    refine s_val (v := (.agg #[(.int .i64 (ix a0 s385).Kind), (.int .i64 (ix a0 s385).N)])) (won rfl) rfl rfl (x_loadN (vs := [(.int .i64 (ix a0 s385).Kind), (.int .i64 (ix a0 s385).N)]) rfl tyN_76 (ev (t := 18) rfl rfl) (RdF.cells H0x0 hm410 (Sub.trans hs (Sub.at_ (k := 1) rfl)) hg422.1 hg422.2)) ?_
    refine s_call (won rfl) rfl rfl (x_call rfl rfl cl_41 (map_lit (map_cons (ev (t := 19) rfl rfl) map_nil))) (laws_toRingAct_ok (hR := (cat [])) (hF := cat [h382, hF]) (impl_RingAct.mk (ix a0 s385).Kind (ix a0 s385).N)  (Mem.one hm410) hr423) ?_
    rintro e w424 ⟨rfl, hm425⟩
    refine ⟨_, rfl, ?_⟩
    replace hm425 : Mem w0 w424 (cat [h382, hF]) := Mem.un hm425
    refine s_val (v := (.pointer (some ((slA p220.1).add (Int.toNat s385 * 2))))) (won rfl) rfl rfl (x_index (d := impl_RingAct.K) rfl slt_62 (ev (t := 14) rfl rfl) (ev (t := 15) rfl rfl) (H383.rd w0) hg426.1 hg426.2) ?_
    refine s_exw (won rfl) rfl (e_storeF (d := impl_RingAct.K) (s := r423) (vs := [(.int .i64 r423.Kind), (.int .i64 r423.N)]) (j := 0) rfl sz_74 (ev (t := 21) rfl rfl) (add_0 _).symm (ev (t := 20) rfl rfl) rfl rfl H383 hg426.1 hg426.2 rfl rfl hm425 (k := 0) rfl) ?_
    rintro h427 w429 ⟨H428, hm430⟩
    replace hm430 : Mem w0 w429 (cat [h427, hF]) := hm430
    refine wpList_nil ?_
    refine nb ?_
    refine nx ?_
    refine wp_region_lit ?_
    refine s_val (v := (.int .i64 s385)) (won rfl) rfl rfl (x_move rfl (ev (t := 4) (v := (.int .i64 s385)) rfl q386)) ?_
    refine s_val (v := (.int .i64 (IntKind.wrap .i64 (s385 + 1)))) (won rfl) rfl rfl (x_add rfl (ev (t := 12) rfl rfl) rfl) ?_
    refine s_val (v := (.int .i64 (IntKind.wrap .i64 (s385 + 1)))) (won rfl) rfl rfl (x_assign rfl (ev (t := 13) rfl rfl)) ?_
    refine wpList_nil ?_
    refine nx ?_
    exact ⟨(List.set s381 (Int.toNat s385) r423), (IntKind.wrap .i64 (s385 + 1)), h427, _, he, rfl, q380, q384, rfl, H428, Mem.pick [0, 1] rfl hm430⟩
   ·
    replace he := bifF he hb412
    refine c_false rfl (p := (decide (s385 < (a0.length : Int)))) rfl rfl hb412 ?_
    refine wp_exit ?_
    refine xs ?_
    refine xs ?_
    refine xb ?_
    refine nx ?_
    obtain rfl := Option.some.inj he
    exact ⟨h382, _, rfl, q384, H383, Mem.pick [0, 1] rfl hm410⟩
 ·
  rintro a w ⟨h325, f, rfl, q327, H326, hm432⟩
  replace he := hk329
  refine wp_seq ?_
  refine wp_region_lit ?_
  refine s_val (v := p220.1) (won rfl) rfl rfl (x_move rfl (ev (t := 3) (v := p220.1) rfl q327)) ?_
  refine s_val (v := p220.1) (won rfl) rfl rfl (x_assign rfl (ev (t := 22) rfl rfl)) ?_
  refine wpList_nil ?_
  refine nx ?_
  refine wp_ret ?_
  obtain rfl := Option.some.inj he
  refine r_ret (v := p220.1) (rv_one rfl (RVs.tmp (v := p220.1) rfl rfl RVs.nil)) rfl ?_
  exact ⟨p220.1, h325, rfl, H326, Mem.pick [0, 1] rfl hm432⟩
def spec_l01In (a0 : Int) (a1 : Int) (a2 : Int) : Option (Bool) := (some ((decide (a1 ≤ a0)) && (decide (a0 ≤ a2))))
set_option maxHeartbeats 400000 in
set_option maxRecDepth 100000 in
theorem spec_l01In_ok {w0 w : World} {hR hF : Hp} (a0 : Int) (a1 : Int) (a2 : Int) {r : (Bool)} (hm : Mem w0 w (cat [hF])) (he : spec_l01In a0 a1 a2 = some r) :
    Calls Try.prog 87 #[(.int .i64 a0), (.int .i64 a1), (.int .i64 a2)] w (fun e w' => e = .returned (.bool r) ∧ Mem w0 w' (cat [hF])) := by
 refine calls_fr (n := 15) Try.func87 rfl rfl rfl ?_
 unfold spec_l01In at he
 refine wp_seq ?_
 refine wp_region_lit ?_
 refine s_val (v := (.bool false)) (won rfl) rfl rfl (x_assign rfl rfl) ?_
 refine wpList_nil ?_
 refine nx ?_
 refine wp_seq ?_
 refine wp_region_lit ?_
 refine s_val (v := (.int .i64 a0)) (won rfl) rfl rfl (x_move rfl (ev (t := 0) rfl rfl)) ?_
 refine s_val (v := (.int .i64 a1)) (won rfl) rfl rfl (x_move rfl (ev (t := 1) rfl rfl)) ?_
 refine s_val (v := (.bool (decide (a1 ≤ a0)))) (won rfl) rfl rfl (x_geq rfl (ev (t := 7) rfl rfl) (ev (t := 8) rfl rfl)) ?_
 refine s_val (v := (.bool (decide (a1 ≤ a0)))) (won rfl) rfl rfl (x_move rfl (ev (t := 9) rfl rfl)) ?_
 refine s_cval (p := (decide (a1 ≤ a0))) (v := (.int .i64 a0)) (won_t (j := 3) (t := 10) (q := (decide (a1 ≤ a0))) rfl rfl rfl rfl rfl) rfl rfl (fun hp => (x_move rfl (ev (t := 0) rfl rfl))) ?_
 refine s_cval (p := (decide (a1 ≤ a0))) (v := (.int .i64 a2)) (won_t (j := 3) (t := 10) (q := (decide (a1 ≤ a0))) rfl rfl rfl rfl rfl) rfl rfl (fun hp => (x_move rfl (ev (t := 2) rfl rfl))) ?_
 refine s_cval (p := (decide (a1 ≤ a0))) (v := (.bool (decide (a0 ≤ a2)))) (won_t (j := 3) (t := 10) (q := (decide (a1 ≤ a0))) rfl rfl rfl rfl rfl) rfl rfl (fun hp => (x_leq rfl (ev (t := 11) rfl (Eq.trans (b := cv (decide (a1 ≤ a0)) (.int .i64 a0)) rfl (on_c hp))) (ev (t := 12) rfl (Eq.trans (b := cv (decide (a1 ≤ a0)) (.int .i64 a2)) rfl (on_c hp))))) ?_
 refine s_val (v := (.bool ((decide (a1 ≤ a0)) && (decide (a0 ≤ a2))))) (won rfl) rfl rfl (x_pick_and rfl (ev (t := 10) rfl rfl) (fun hq => ev rfl (Eq.trans (b := cv (decide (a1 ≤ a0)) (.bool (decide (a0 ≤ a2)))) rfl (on_c hq))) rfl) ?_
 refine s_val (v := (.bool ((decide (a1 ≤ a0)) && (decide (a0 ≤ a2))))) (won rfl) rfl rfl (x_assign rfl (ev (t := 14) rfl rfl)) ?_
 refine wpList_nil ?_
 refine nx ?_
 refine wp_ret ?_
 obtain rfl := Option.some.inj he
 refine r_ret (v := (.bool ((decide (a1 ≤ a0)) && (decide (a0 ≤ a2))))) (rv_one rfl (RVs.tmp (v := (.bool ((decide (a1 ≤ a0)) && (decide (a0 ≤ a2))))) rfl rfl RVs.nil)) rfl ?_
 exact ⟨rfl, Mem.pick [0] rfl hm⟩
def spec_NewRing (a0 : Int) (a1 : Int) : Option (impl_Ring × Int) := (spec_l01In a0 1 16).bind fun r50 => (bif (!(!r50)) then spec_l01In a1 1 16 else some false).bind fun r53 => (bif ((!r50) || (!r53)) then (some ((impl_Ring.mk 0 false ([] : List Int) ([] : List Int) 0 0 0 0), 4)) else (some ((impl_Ring.mk a0 true ([] : List Int) ([] : List Int) 0 0 a1 0), 0)))
set_option maxHeartbeats 400000 in
set_option maxRecDepth 100000 in
theorem spec_NewRing_ok {w0 w : World} {hR hF : Hp} (a0 : Int) (a1 : Int) {r : (impl_Ring × Int)} (hm : Mem w0 w (cat [hF])) (he : spec_NewRing a0 a1 = some r) :
    Calls Try.prog 76 #[(.int .i64 a0), (.int .i64 a1)] w (fun e w' => ∃ (v'0 : Value) (h'0 : Hp) (v'1 : Value) (h'1 : Hp), e = .returned (.tuple #[(.agg #[(.int .i64 r.1.Size), (.bool r.1.Up), v'0, v'1, (.int .i64 r.1.Lost), (.int .i64 r.1.Pending), (.int .i64 r.1.Every), (.int .i64 r.1.Signals)]), (.int .i64 r.2)]) ∧ OwF 3 (FK.int .i64) v'0 r.1.Posted h'0 ∧ OwF 3 (FK.int .i64) v'1 r.1.Done h'1 ∧ Mem w0 w' (cat [h'0, h'1, hF])) := by
 refine calls_fr (n := 18) Try.func76 rfl rfl rfl ?_
 unfold spec_NewRing at he
 refine wp_seq ?_
 refine wp_region_lit ?_
 refine s_exv (won rfl) rfl rfl (e_alloc (vs := [(.int .i64 0), (.bool false), (.slice none 0 0), (.slice none 0 0), (.int .i64 0), (.int .i64 0), (.int .i64 0), (.int .i64 0)]) rfl zt_65 rfl hm) ?_
 rintro g35 w36 hm37
 refine s_val (v := (.int .i64 0)) (won rfl) rfl rfl (x_assign rfl rfl) ?_
 refine wpList_nil ?_
 refine nx ?_
 refine wp_seq ?_
 refine wp_seq ?_
 obtain ⟨r50, hr50, he⟩ := bindE he
 obtain ⟨r53, hr53, he⟩ := bindE he
 refine wp_region_lit ?_
 refine s_val (v := (.int .i64 a0)) (won rfl) rfl rfl (x_move rfl (ev (t := 0) rfl rfl)) ?_
 refine s_call (won rfl) rfl rfl (x_call rfl rfl cl_87 (map_lit (map_cons (ev (t := 6) rfl rfl) (map_cons rfl (map_cons rfl map_nil))))) (spec_l01In_ok (hR := (cat [])) (hF := cat [sg g35 65 (0, 0) [] [(.int .i64 0), (.bool false), (.slice none 0 0), (.slice none 0 0), (.int .i64 0), (.int .i64 0), (.int .i64 0), (.int .i64 0)] [], hF]) a0 1 16  (Mem.one hm37) hr50) ?_
 rintro e w51 ⟨rfl, hm52⟩
 refine ⟨_, rfl, ?_⟩
 replace hm52 : Mem w0 w51 (cat [sg g35 65 (0, 0) [] [(.int .i64 0), (.bool false), (.slice none 0 0), (.slice none 0 0), (.int .i64 0), (.int .i64 0), (.int .i64 0), (.int .i64 0)] [], hF]) := Mem.un hm52
 refine s_val (v := (.bool (!r50))) (won rfl) rfl rfl (x_not rfl (ev (t := 7) rfl rfl)) ?_
 refine s_val (v := (.bool (!r50))) (won rfl) rfl rfl (x_move rfl (ev (t := 8) rfl rfl)) ?_
 refine s_cval (p := (!(!r50))) (v := (.int .i64 a1)) (won_f (j := 3) (t := 9) (q := (!r50)) rfl rfl rfl rfl rfl) rfl rfl (fun hp => (x_move rfl (ev (t := 1) rfl rfl))) ?_
 refine s_ccall (p := (!(!r50))) (v := (.bool r53)) (J := fun w' => Mem w0 w' (cat [sg g35 65 (0, 0) [] [(.int .i64 0), (.bool false), (.slice none 0 0), (.slice none 0 0), (.int .i64 0), (.int .i64 0), (.int .i64 0), (.int .i64 0)] [], hF])) (won_f (j := 3) (t := 9) (q := (!r50)) rfl rfl rfl rfl rfl) rfl rfl (fun hp => (x_call rfl rfl cl_87 (map_lit (map_cons (ev (t := 10) rfl (Eq.trans (b := cv (!(!r50)) (.int .i64 a1)) rfl (on_c hp))) (map_cons rfl (map_cons rfl map_nil)))))) (fun hp => ((spec_l01In_ok (hR := (cat [])) (hF := cat [sg g35 65 (0, 0) [] [(.int .i64 0), (.bool false), (.slice none 0 0), (.slice none 0 0), (.int .i64 0), (.int .i64 0), (.int .i64 0), (.int .i64 0)] [], hF]) a1 1 16  (Mem.one hm52) (bifT hr53 hp))).mono fun e w2 h => ⟨h.1, Mem.un h.2⟩) hm52 ?_
 intro w54 hm55
 refine s_cval (p := (!(!r50))) (v := (.bool (!r53))) (won_f (j := 3) (t := 9) (q := (!r50)) rfl rfl rfl rfl rfl) rfl rfl (fun hp => (x_not rfl (ev (t := 11) rfl (Eq.trans (b := cv (!(!r50)) (.bool r53)) rfl (on_c hp))))) ?_
 refine s_val (v := (.bool ((!r50) || (!r53)))) (won rfl) rfl rfl (x_pick_or rfl (ev (t := 9) rfl rfl) rfl (fun hq => ev rfl (Eq.trans (b := cv (!(!r50)) (.bool (!r53))) rfl (on_c (not_i hq))))) ?_
 refine wpList_nil ?_
 refine nx ?_
 rcases Bool.eq_false_or_eq_true (((!r50) || (!r53))) with hb56 | hb56
 ·
  replace he := bifT he hb56
  refine c_true rfl (p := ((!r50) || (!r53))) rfl rfl hb56 ?_
  refine wp_seq ?_
  refine wp_region_lit ?_
  refine s_val (v := (.agg #[(.int .i64 0), (.bool false), (.slice none 0 0), (.slice none 0 0), (.int .i64 0), (.int .i64 0), (.int .i64 0), (.int .i64 0)])) (won rfl) rfl rfl (x_build (cells := [(.int .i64 0), (.bool false), (.slice none 0 0), (.slice none 0 0), (.int .i64 0), (.int .i64 0), (.int .i64 0), (.int .i64 0)]) (zc := [.int .i64 0, .bool false, .slice none 0 0, .slice none 0 0, .int .i64 0, .int .i64 0, .int .i64 0, .int .i64 0]) (sizes := [(0, 1), (1, 1), (2, 1), (3, 1), (4, 1), (5, 1), (6, 1), (7, 1)]) (ps := []) rfl zt_65 rfl uf_65 ufz_65 (pmap_lit pmap_nil) fill_nil) ?_
  refine s_exs (won rfl) rfl (e_store (vs := [(.int .i64 0), (.bool false), (.slice none 0 0), (.slice none 0 0), (.int .i64 0), (.int .i64 0), (.int .i64 0), (.int .i64 0)]) (o' := 0) (j := 0) rfl sz_65 (ev (t := 4) rfl rfl) (ev (t := 14) rfl rfl) rfl rfl hm55 (k := 0) rfl rfl rfl) ?_
  intro w59 hm60
  replace hm60 : Mem w0 w59 (cat [sg g35 65 (0, 0) [] [(.int .i64 0), (.bool false), (.slice none 0 0), (.slice none 0 0), (.int .i64 0), (.int .i64 0), (.int .i64 0), (.int .i64 0)] [], hF]) := hm60
  refine s_val (v := (.int .i64 4)) (won rfl) rfl rfl (x_assign rfl rfl) ?_
  refine wpList_nil ?_
  refine nx ?_
  refine wp_ret ?_
  refine xr ?_
  obtain rfl := Option.some.inj he
  refine r_ret (v := (.tuple #[(.agg #[(.int .i64 0), (.bool false), (.slice none 0 0), (.slice none 0 0), (.int .i64 0), (.int .i64 0), (.int .i64 0), (.int .i64 0)]), (.int .i64 4)])) (rv_list rfl rfl (RVs.cell (cs := [(.int .i64 0), (.bool false), (.slice none 0 0), (.slice none 0 0), (.int .i64 0), (.int .i64 0), (.int .i64 0), (.int .i64 0)]) rfl rfl tyN_65 (seg_cells (o' := 0) (j := 0) hm60 (k := 0) rfl rfl rfl) (RVs.tmp (v := (.int .i64 4)) rfl rfl RVs.nil))) rfl ?_
  exact ⟨(.slice none 0 0), [], (.slice none 0 0), [], rfl, (OwF.nil 3 (FK.int .i64)), (OwF.nil 3 (FK.int .i64)), Mem.pick [1000, 1001, 1] rfl hm60⟩
 ·
  replace he := bifF he hb56
  refine c_false rfl (p := ((!r50) || (!r53))) rfl rfl hb56 ?_
  refine wp_skip ?_
  refine nx ?_
  refine wp_seq ?_
  refine wp_region_lit ?_
  refine s_val (v := (.int .i64 a0)) (won rfl) rfl rfl (x_move rfl (ev (t := 0) rfl rfl)) ?_
  refine s_val (v := (.int .i64 a1)) (won rfl) rfl rfl (x_move rfl (ev (t := 1) rfl rfl)) ?_
  refine s_val (v := (.agg #[(.int .i64 a0), (.bool true), (.slice none 0 0), (.slice none 0 0), (.int .i64 0), (.int .i64 0), (.int .i64 a1), (.int .i64 0)])) (won rfl) rfl rfl (x_build (cells := [(.int .i64 a0), (.bool true), (.slice none 0 0), (.slice none 0 0), (.int .i64 0), (.int .i64 0), (.int .i64 a1), (.int .i64 0)]) (zc := [.int .i64 0, .bool false, .slice none 0 0, .slice none 0 0, .int .i64 0, .int .i64 0, .int .i64 0, .int .i64 0]) (sizes := [(0, 1), (1, 1), (2, 1), (3, 1), (4, 1), (5, 1), (6, 1), (7, 1)]) (ps := [(0, (.int .i64 a0)), (6, (.int .i64 a1)), (1, (.bool true))]) rfl zt_65 rfl uf_65 ufz_65 (pmap_lit (pmap_cons (ev (t := 15) rfl rfl) (pmap_cons (ev (t := 16) rfl rfl) (pmap_cons rfl pmap_nil)))) (fill_cons (cs := [(.int .i64 a0)]) rfl rfl rfl (fill_cons (cs := [(.int .i64 a1)]) rfl rfl rfl (fill_cons (cs := [(.bool true)]) rfl rfl rfl fill_nil)))) ?_
  refine s_exs (won rfl) rfl (e_store (vs := [(.int .i64 a0), (.bool true), (.slice none 0 0), (.slice none 0 0), (.int .i64 0), (.int .i64 0), (.int .i64 a1), (.int .i64 0)]) (o' := 0) (j := 0) rfl sz_65 (ev (t := 4) rfl rfl) (ev (t := 17) rfl rfl) rfl rfl hm55 (k := 0) rfl rfl rfl) ?_
  intro w63 hm64
  replace hm64 : Mem w0 w63 (cat [sg g35 65 (0, 0) [] [(.int .i64 a0), (.bool true), (.slice none 0 0), (.slice none 0 0), (.int .i64 0), (.int .i64 0), (.int .i64 a1), (.int .i64 0)] [], hF]) := hm64
  refine s_val (v := (.int .i64 0)) (won rfl) rfl rfl (x_assign rfl rfl) ?_
  refine wpList_nil ?_
  refine nx ?_
  refine wp_ret ?_
  obtain rfl := Option.some.inj he
  refine r_ret (v := (.tuple #[(.agg #[(.int .i64 a0), (.bool true), (.slice none 0 0), (.slice none 0 0), (.int .i64 0), (.int .i64 0), (.int .i64 a1), (.int .i64 0)]), (.int .i64 0)])) (rv_list rfl rfl (RVs.cell (cs := [(.int .i64 a0), (.bool true), (.slice none 0 0), (.slice none 0 0), (.int .i64 0), (.int .i64 0), (.int .i64 a1), (.int .i64 0)]) rfl rfl tyN_65 (seg_cells (o' := 0) (j := 0) hm64 (k := 0) rfl rfl rfl) (RVs.tmp (v := (.int .i64 0)) rfl rfl RVs.nil))) rfl ?_
  exact ⟨(.slice none 0 0), [], (.slice none 0 0), [], rfl, (OwF.nil 3 (FK.int .i64)), (OwF.nil 3 (FK.int .i64)), Mem.pick [1000, 1001, 1] rfl hm64⟩
def spec_l13Own (a0 : impl_Ring) : Option (impl_Ring) := gd ((([] : List Int).length + a0.Posted.length) * 8 ≤ 140737488355328) (gd ((([] : List Int).length + a0.Done.length) * 8 ≤ 140737488355328) ((some (impl_Ring.mk a0.Size a0.Up (([] : List Int) ++ a0.Posted) (([] : List Int) ++ a0.Done) a0.Lost a0.Pending a0.Every a0.Signals))))
set_option maxHeartbeats 400000 in
set_option maxRecDepth 100000 in
theorem spec_l13Own_ok {w0 w : World} {hR hF : Hp} {v0x2 : Value} {v0x3 : Value} (a0 : impl_Ring) {r : (impl_Ring)} (H0x2 : RdF w0 (FK.int .i64) v0x2 a0.Posted hR) (H0x3 : RdF w0 (FK.int .i64) v0x3 a0.Done hR) (hs : Sub hR hF) (hm : Mem w0 w (cat [hF])) (he : spec_l13Own a0 = some r) :
    Calls Try.prog 78 #[(.agg #[(.int .i64 a0.Size), (.bool a0.Up), v0x2, v0x3, (.int .i64 a0.Lost), (.int .i64 a0.Pending), (.int .i64 a0.Every), (.int .i64 a0.Signals)])] w (fun e w' => ∃ (v'0 : Value) (h'0 : Hp) (v'1 : Value) (h'1 : Hp), e = .returned (.agg #[(.int .i64 r.Size), (.bool r.Up), v'0, v'1, (.int .i64 r.Lost), (.int .i64 r.Pending), (.int .i64 r.Every), (.int .i64 r.Signals)]) ∧ OwF 3 (FK.int .i64) v'0 r.Posted h'0 ∧ OwF 3 (FK.int .i64) v'1 r.Done h'1 ∧ Mem w0 w' (cat [h'0, h'1, hF])) := by
 refine calls_fr (n := 14) Try.func78 rfl rfl rfl ?_
 unfold spec_l13Own at he
 refine wp_seq ?_
 refine wp_region_lit ?_
 refine s_exv (won rfl) rfl rfl (e_box (vs := [(.int .i64 a0.Size), (.bool a0.Up), v0x2, v0x3, (.int .i64 a0.Lost), (.int .i64 a0.Pending), (.int .i64 a0.Every), (.int .i64 a0.Signals)]) rfl (ev (t := 0) rfl rfl) rfl hm) ?_
 rintro g40 w41 hm42
 refine s_exv (won rfl) rfl rfl (e_alloc (vs := [(.int .i64 0), (.bool false), (.slice none 0 0), (.slice none 0 0), (.int .i64 0), (.int .i64 0), (.int .i64 0), (.int .i64 0)]) rfl zt_65 rfl hm42) ?_
 rintro g46 w47 hm48
 refine wpList_nil ?_
 refine nx ?_
 refine wp_seq ?_
 obtain ⟨hg55, he⟩ := gdE he
 refine wp_region_lit ?_
 refine s_exv (won rfl) rfl rfl (e_litp (cells := []) (ps := []) rfl slt_26 (pmap_lit pmap_nil) (fun w1 => run_bslice0 slt_26) hm48) ?_
 rintro g52 w50 hm51
 have H53 : OwF 3 (FK.int .i64) (.slice (some ⟨g52, 0, none⟩) 0 0) ([] : List Int) (sg g52 3 (0, 0) [] (encs (FK.int .i64) ([] : List Int)) []) := OwF.lit g52 ([] : List Int) 0 rfl (by decide)
 replace hm51 : Mem w0 w50 (cat [(sg g52 3 (0, 0) [] (encs (FK.int .i64) ([] : List Int)) []), sg g46 65 (0, 0) [] [(.int .i64 0), (.bool false), (.slice none 0 0), (.slice none 0 0), (.int .i64 0), (.int .i64 0), (.int .i64 0), (.int .i64 0)] [], sg g40 65 (0, 0) [] [(.int .i64 a0.Size), (.bool a0.Up), v0x2, v0x3, (.int .i64 a0.Lost), (.int .i64 a0.Pending), (.int .i64 a0.Every), (.int .i64 a0.Signals)] [], hF]) := hm51
 refine s_val (v := (.pointer (some ⟨g40, 2, none⟩))) (won rfl) rfl rfl (x_field rfl fa_65x2 (ev (t := 1) rfl rfl)) ?_
 refine s_val (v := v0x2) (won rfl) rfl rfl (x_load rfl ty1x26 (ev (t := 4) rfl rfl) (seg_cell (o' := 0) (j := 2) hm51 (k := 2) rfl rfl rfl)) ?_
 refine s_exv (won rfl) rfl rfl (e_append (bytes := 8) rfl slt_26 rfl (ev (t := 3) rfl rfl) (ev (t := 5) rfl rfl) H53 (k := 0) rfl H0x2 (Sub.trans hs (Sub.at_ (k := 3) rfl)) hm51 hg55 (len63 hg55 rfl)) ?_
 rintro p57 w59 ⟨H58, hm60⟩
 replace hm60 : Mem w0 w59 (cat [p57.2, sg g46 65 (0, 0) [] [(.int .i64 0), (.bool false), (.slice none 0 0), (.slice none 0 0), (.int .i64 0), (.int .i64 0), (.int .i64 0), (.int .i64 0)] [], sg g40 65 (0, 0) [] [(.int .i64 a0.Size), (.bool a0.Up), v0x2, v0x3, (.int .i64 a0.Lost), (.int .i64 a0.Pending), (.int .i64 a0.Every), (.int .i64 a0.Signals)] [], hF]) := hm60
 refine s_val (v := (.pointer (some ⟨g40, 2, none⟩))) (won rfl) rfl rfl (x_field rfl fa_65x2 (ev (t := 1) rfl rfl)) ?_
 refine s_exs (won rfl) rfl (e_store (vs := [p57.1]) (o' := 0) (j := 2) rfl sz_26 (ev (t := 7) rfl rfl) (ev (t := 6) rfl rfl) (IsSl.cells (H58).sl) (one_cons (IsSl.one (H58).sl) one_nil) hm60 (k := 2) rfl rfl rfl) ?_
 intro w61 hm62
 replace hm62 : Mem w0 w61 (cat [p57.2, sg g46 65 (0, 0) [] [(.int .i64 0), (.bool false), (.slice none 0 0), (.slice none 0 0), (.int .i64 0), (.int .i64 0), (.int .i64 0), (.int .i64 0)] [], sg g40 65 (0, 0) [] [(.int .i64 a0.Size), (.bool a0.Up), p57.1, v0x3, (.int .i64 a0.Lost), (.int .i64 a0.Pending), (.int .i64 a0.Every), (.int .i64 a0.Signals)] [], hF]) := hm62
 refine wpList_nil ?_
 refine nx ?_
 refine wp_seq ?_
 obtain ⟨hg68, he⟩ := gdE he
 refine wp_region_lit ?_
 refine s_exv (won rfl) rfl rfl (e_litp (cells := []) (ps := []) rfl slt_26 (pmap_lit pmap_nil) (fun w1 => run_bslice0 slt_26) hm62) ?_
 rintro g65 w63 hm64
 have H66 : OwF 3 (FK.int .i64) (.slice (some ⟨g65, 0, none⟩) 0 0) ([] : List Int) (sg g65 3 (0, 0) [] (encs (FK.int .i64) ([] : List Int)) []) := OwF.lit g65 ([] : List Int) 0 rfl (by decide)
 replace hm64 : Mem w0 w63 (cat [(sg g65 3 (0, 0) [] (encs (FK.int .i64) ([] : List Int)) []), p57.2, sg g46 65 (0, 0) [] [(.int .i64 0), (.bool false), (.slice none 0 0), (.slice none 0 0), (.int .i64 0), (.int .i64 0), (.int .i64 0), (.int .i64 0)] [], sg g40 65 (0, 0) [] [(.int .i64 a0.Size), (.bool a0.Up), p57.1, v0x3, (.int .i64 a0.Lost), (.int .i64 a0.Pending), (.int .i64 a0.Every), (.int .i64 a0.Signals)] [], hF]) := hm64
 refine s_val (v := (.pointer (some ⟨g40, 3, none⟩))) (won rfl) rfl rfl (x_field rfl fa_65x3 (ev (t := 1) rfl rfl)) ?_
 refine s_val (v := v0x3) (won rfl) rfl rfl (x_load rfl ty1x26 (ev (t := 9) rfl rfl) (seg_cell (o' := 0) (j := 3) hm64 (k := 3) rfl rfl rfl)) ?_
 refine s_exv (won rfl) rfl rfl (e_append (bytes := 8) rfl slt_26 rfl (ev (t := 8) rfl rfl) (ev (t := 10) rfl rfl) H66 (k := 0) rfl H0x3 (Sub.trans hs (Sub.at_ (k := 4) rfl)) hm64 hg68 (len63 hg68 rfl)) ?_
 rintro p70 w72 ⟨H71, hm73⟩
 replace hm73 : Mem w0 w72 (cat [p70.2, p57.2, sg g46 65 (0, 0) [] [(.int .i64 0), (.bool false), (.slice none 0 0), (.slice none 0 0), (.int .i64 0), (.int .i64 0), (.int .i64 0), (.int .i64 0)] [], sg g40 65 (0, 0) [] [(.int .i64 a0.Size), (.bool a0.Up), p57.1, v0x3, (.int .i64 a0.Lost), (.int .i64 a0.Pending), (.int .i64 a0.Every), (.int .i64 a0.Signals)] [], hF]) := hm73
 refine s_val (v := (.pointer (some ⟨g40, 3, none⟩))) (won rfl) rfl rfl (x_field rfl fa_65x3 (ev (t := 1) rfl rfl)) ?_
 refine s_exs (won rfl) rfl (e_store (vs := [p70.1]) (o' := 0) (j := 3) rfl sz_26 (ev (t := 12) rfl rfl) (ev (t := 11) rfl rfl) (IsSl.cells (H71).sl) (one_cons (IsSl.one (H71).sl) one_nil) hm73 (k := 3) rfl rfl rfl) ?_
 intro w74 hm75
 replace hm75 : Mem w0 w74 (cat [p70.2, p57.2, sg g46 65 (0, 0) [] [(.int .i64 0), (.bool false), (.slice none 0 0), (.slice none 0 0), (.int .i64 0), (.int .i64 0), (.int .i64 0), (.int .i64 0)] [], sg g40 65 (0, 0) [] [(.int .i64 a0.Size), (.bool a0.Up), p57.1, p70.1, (.int .i64 a0.Lost), (.int .i64 a0.Pending), (.int .i64 a0.Every), (.int .i64 a0.Signals)] [], hF]) := hm75
 refine wpList_nil ?_
 refine nx ?_
 refine wp_seq ?_
 refine wp_region_lit ?_
 refine s_val (v := (.agg #[(.int .i64 a0.Size), (.bool a0.Up), p57.1, p70.1, (.int .i64 a0.Lost), (.int .i64 a0.Pending), (.int .i64 a0.Every), (.int .i64 a0.Signals)])) (won rfl) rfl rfl (x_loadN (vs := [(.int .i64 a0.Size), (.bool a0.Up), p57.1, p70.1, (.int .i64 a0.Lost), (.int .i64 a0.Pending), (.int .i64 a0.Every), (.int .i64 a0.Signals)]) rfl tyN_65 (ev (t := 1) rfl rfl) (seg_cells (o' := 0) (j := 0) hm75 (k := 3) rfl rfl rfl)) ?_
 refine s_exs (won rfl) rfl (e_store (vs := [(.int .i64 a0.Size), (.bool a0.Up), p57.1, p70.1, (.int .i64 a0.Lost), (.int .i64 a0.Pending), (.int .i64 a0.Every), (.int .i64 a0.Signals)]) (o' := 0) (j := 0) rfl sz_65 (ev (t := 2) rfl rfl) (ev (t := 13) rfl rfl) rfl (one_cons rfl (one_cons rfl (one_cons (IsSl.one (H58).sl) (one_cons (IsSl.one (H71).sl) (one_cons rfl (one_cons rfl (one_cons rfl (one_cons rfl one_nil)))))))) hm75 (k := 2) rfl rfl rfl) ?_
 intro w76 hm77
 replace hm77 : Mem w0 w76 (cat [p70.2, p57.2, sg g46 65 (0, 0) [] [(.int .i64 a0.Size), (.bool a0.Up), p57.1, p70.1, (.int .i64 a0.Lost), (.int .i64 a0.Pending), (.int .i64 a0.Every), (.int .i64 a0.Signals)] [], sg g40 65 (0, 0) [] [(.int .i64 a0.Size), (.bool a0.Up), p57.1, p70.1, (.int .i64 a0.Lost), (.int .i64 a0.Pending), (.int .i64 a0.Every), (.int .i64 a0.Signals)] [], hF]) := hm77
 refine wpList_nil ?_
 have hm78 : Mem w0 w76 (cat [p70.2, p57.2, sg g46 65 (0, 0) [] [(.int .i64 a0.Size), (.bool a0.Up), p57.1, p70.1, (.int .i64 a0.Lost), (.int .i64 a0.Pending), (.int .i64 a0.Every), (.int .i64 a0.Signals)] [], hF]) := Mem.pick [0, 1, 2, 4] rfl hm77
 refine nx ?_
 refine wp_ret ?_
 obtain rfl := Option.some.inj he
 refine r_ret (v := (.agg #[(.int .i64 a0.Size), (.bool a0.Up), p57.1, p70.1, (.int .i64 a0.Lost), (.int .i64 a0.Pending), (.int .i64 a0.Every), (.int .i64 a0.Signals)])) (rv_one rfl (RVs.cell (cs := [(.int .i64 a0.Size), (.bool a0.Up), p57.1, p70.1, (.int .i64 a0.Lost), (.int .i64 a0.Pending), (.int .i64 a0.Every), (.int .i64 a0.Signals)]) rfl rfl tyN_65 (seg_cells (o' := 0) (j := 0) hm78 (k := 2) rfl rfl rfl) RVs.nil)) rfl ?_
 exact ⟨p57.1, p57.2, p70.1, p70.2, rfl, H58, H71, Mem.pick [1, 0, 3] rfl hm78⟩
def spec_l13Has_l1 (F : Nat) (a0 : (List Int)) (a1 : Int) : Nat → Int → Option (Fl (Bool) (Unit))
  | 0, _ => none
  | k + 1, s109 => (bif (decide (s109 < (a0.length : Int))) then gd ((0 : Int) ≤ s109 ∧ s109 < (a0.length : Int)) ((bif (decide ((ix a0 s109) = a1)) then (some (Fl.out true)) else spec_l13Has_l1 F a0 a1 k (IntKind.wrap .i64 (s109 + 1)))) else (some (Fl.go ())))
def spec_l13Has (F : Nat) (a0 : (List Int)) (a1 : Int) : Option (Bool) := (spec_l13Has_l1 F a0 a1 F 0 : Option (Fl (Bool) (Unit))).bind fun l95 => l95.on fun (s94 : (Unit)) => (some false)
set_option maxHeartbeats 400000 in
set_option maxRecDepth 100000 in
theorem spec_l13Has_ok (F : Nat) {w0 w : World} {hR hF : Hp} {v0x0 : Value} (a0 : (List Int)) (a1 : Int) {r : (Bool)} (H0x0 : RdF w0 (FK.int .i64) v0x0 a0 hR) (hs : Sub hR hF) (hm : Mem w0 w (cat [hF])) (he : spec_l13Has F a0 a1 = some r) :
    Calls Try.prog 92 #[v0x0, (.int .i64 a1)] w (fun e w' => e = .returned (.bool r) ∧ Mem w0 w' (cat [hF])) := by
 refine calls_fr (n := 18) Try.func92 rfl rfl rfl ?_
 unfold spec_l13Has at he
 refine wp_seq ?_
 refine wp_region_lit ?_
 refine s_val (v := (.bool false)) (won rfl) rfl rfl (x_assign rfl rfl) ?_
 refine wpList_nil ?_
 refine nx ?_
 obtain ⟨l95, hT97, hk96⟩ := bindE he
 replace he := hT97
 refine wp_seqJ (fun a w => ∃ (s94 : (Unit)) (f : Nat → Value), l95 = Fl.go s94 ∧ a = fr 18 f ∧ Mem w0 w (cat [hF])) ?_ ?_
 ·
  refine wp_seq ?_
  refine wp_region_lit ?_
  refine s_val (v := (.int .i64 0)) (won rfl) rfl rfl (x_assign rfl rfl) ?_
  refine wpList_nil ?_
  refine nx ?_
  refine wp_block ?_
  refine wp_fuel (I := fun k => fun a w => ∃ (s109 : Int) (f : Nat → Value), spec_l13Has_l1 F a0 a1 k s109 = some l95 ∧ a = fr 18 f ∧ f 0 = v0x0 ∧ f 1 = (.int .i64 a1) ∧ f 5 = (.int .i64 s109) ∧ Mem w0 w (cat [hF])) F _ _ ⟨0, _, he, rfl, rfl, rfl, rfl, Mem.pick [0] rfl hm⟩ ?_ ?_
  ·
   rintro a w ⟨s109, f, he, rfl, q107, q108, q110, hm118⟩
   rw [spec_l13Has_l1] at he; exact none_no he
  ·
   rintro k a w ⟨s109, f, he, rfl, q107, q108, q110, hm120⟩
   rw [spec_l13Has_l1] at he
   refine wp_seq ?_
   refine wp_seq ?_
   refine wp_region_lit ?_
   refine s_val (v := (.int .i64 s109)) (won rfl) rfl rfl (x_move rfl (ev (t := 5) (v := (.int .i64 s109)) rfl q110)) ?_
   refine s_val (v := v0x0) (won rfl) rfl rfl (x_move rfl (ev (t := 0) (v := v0x0) rfl q107)) ?_
   refine s_val (v := (.int .i64 (a0.length : Int))) (won rfl) rfl rfl (x_len rfl slt_26 (ev (t := 7) rfl rfl) (H0x0).sl) ?_
   refine s_val (v := (.bool (decide (s109 < (a0.length : Int))))) (won rfl) rfl rfl (x_lss rfl (ev (t := 6) rfl rfl) (ev (t := 8) rfl rfl)) ?_
   refine wpList_nil ?_
   refine nx ?_
   rcases Bool.eq_false_or_eq_true ((decide (s109 < (a0.length : Int)))) with hb122 | hb122
   ·
    replace he := bifT he hb122
    refine c_true rfl (p := (decide (s109 < (a0.length : Int)))) rfl rfl hb122 ?_
    refine wp_skip ?_
    refine nx ?_
    refine wp_seq ?_
    refine wp_block ?_
    refine wp_seq ?_
    obtain ⟨hg125, he⟩ := gdE he
    refine wp_region_lit ?_
    refine s_val (v := v0x0) (won rfl) rfl rfl (x_move rfl (ev (t := 0) (v := v0x0) rfl q107)) ?_
    refine s_val (v := (.int .i64 s109)) (won rfl) rfl rfl (x_move rfl (ev (t := 5) (v := (.int .i64 s109)) rfl q110)) ?_
    refine s_val (v := (.pointer (some ((slA v0x0).add (Int.toNat s109 * 1))))) (won rfl) rfl rfl (x_index (d := (FK.int .i64)) rfl slt_26 (ev (t := 12) rfl rfl) (ev (t := 13) rfl rfl) H0x0 hg125.1 hg125.2) ?_
    refine s_val (v := (.int .i64 (ix a0 s109))) (won rfl) rfl rfl (x_load rfl ty1x3 (ev (t := 14) rfl rfl) (RdF.cell0 H0x0 hm120 (Sub.trans hs (Sub.at_ (k := 0) rfl)) hg125.1 hg125.2 rfl)) ?_
    refine s_val (v := (.int .i64 a1)) (won rfl) rfl rfl (x_move rfl (ev (t := 1) (v := (.int .i64 a1)) rfl q108)) ?_
    refine s_val (v := (.bool (decide ((ix a0 s109) = a1)))) (won rfl) rfl rfl (x_eql rfl (ev (t := 15) rfl rfl) (ev (t := 16) rfl rfl)) ?_
    refine wpList_nil ?_
    refine nx ?_
    rcases Bool.eq_false_or_eq_true ((decide ((ix a0 s109) = a1))) with hb126 | hb126
    ·
     replace he := bifT he hb126
     refine c_true rfl (p := (decide ((ix a0 s109) = a1))) rfl rfl hb126 ?_
     refine wp_seq ?_
     refine wp_region_lit ?_
     refine s_val (v := (.bool true)) (won rfl) rfl rfl (x_assign rfl rfl) ?_
     refine wpList_nil ?_
     refine nx ?_
     refine wp_ret ?_
     refine rb ?_
     refine xr ?_
     refine xr ?_
     refine rb ?_
     refine xr ?_
     obtain rfl := Option.some.inj he
     replace he := outE hk96
     obtain rfl := Option.some.inj he
     refine r_ret (v := (.bool true)) (rv_one rfl (RVs.tmp (v := (.bool true)) rfl rfl RVs.nil)) rfl ?_
     exact ⟨rfl, Mem.pick [0] rfl hm120⟩
    ·
     replace he := bifF he hb126
     refine c_false rfl (p := (decide ((ix a0 s109) = a1))) rfl rfl hb126 ?_
     refine wp_skip ?_
     refine nb ?_
     refine nx ?_
     refine wp_region_lit ?_
     refine s_val (v := (.int .i64 s109)) (won rfl) rfl rfl (x_move rfl (ev (t := 5) (v := (.int .i64 s109)) rfl q110)) ?_
     refine s_val (v := (.int .i64 (IntKind.wrap .i64 (s109 + 1)))) (won rfl) rfl rfl (x_add rfl (ev (t := 10) rfl rfl) rfl) ?_
     refine s_val (v := (.int .i64 (IntKind.wrap .i64 (s109 + 1)))) (won rfl) rfl rfl (x_assign rfl (ev (t := 11) rfl rfl)) ?_
     refine wpList_nil ?_
     refine nx ?_
     exact ⟨(IntKind.wrap .i64 (s109 + 1)), _, he, rfl, q107, q108, rfl, Mem.pick [0] rfl hm120⟩
   ·
    replace he := bifF he hb122
    refine c_false rfl (p := (decide (s109 < (a0.length : Int)))) rfl rfl hb122 ?_
    refine wp_exit ?_
    refine xs ?_
    refine xs ?_
    refine xb ?_
    refine nx ?_
    obtain rfl := Option.some.inj he
    exact ⟨(), _, rfl, rfl, Mem.pick [0] rfl hm120⟩
 ·
  rintro a w ⟨s94, f, rfl, rfl, hm128⟩
  replace he := goE hk96
  refine wp_seq ?_
  refine wp_region_lit ?_
  refine s_val (v := (.bool false)) (won rfl) rfl rfl (x_assign rfl rfl) ?_
  refine wpList_nil ?_
  refine nx ?_
  refine wp_ret ?_
  obtain rfl := Option.some.inj he
  refine r_ret (v := (.bool false)) (rv_one rfl (RVs.tmp (v := (.bool false)) rfl rfl RVs.nil)) rfl ?_
  exact ⟨rfl, Mem.pick [0] rfl hm128⟩
def spec_l13Step_l1 (F : Nat) (a1 : impl_RingAct) (r64175 : (impl_Ring)) : Nat → (List Int) → (List Int) → Int → Int → Int → (List Int) → Int → Option (Bool × (List Int) × (List Int) × Int × Int × Int × Int × (List Int))
  | 0, _, _, _, _, _, _, _ => none
  | k + 1, s112070, s112074, s112078, s112079, s112080, s112082, s112087 => (bif (decide (s112087 < a1.N)) then ((bif ((!r64175.Up) || (decide ((s112070.length : Int) = 0))) then (some (s112070, s112074, (iMin (IntKind.wrap .i64 (s112078 + 1)) 1000000000), s112079, s112080, s112082)) else gd ((0 : Int) ≤ 0 ∧ 0 < (s112070.length : Int)) (gd ((s112082.length + ([(ix s112070 0)] : List Int).length) * 8 ≤ 140737488355328) (gd ((0 : Int) ≤ 0 ∧ 0 < (s112070.length : Int)) (gd ((s112074.length + ([(ix s112070 0)] : List Int).length) * 8 ≤ 140737488355328) (gd ((0 : Int) ≤ 1 ∧ 1 ≤ (s112070.length : Int)) (gd ((([] : List Int).length + (slc s112070 (Int.toNat 1) s112070.length).length) * 8 ≤ 140737488355328) ((bif (decide ((IntKind.wrap .i64 (s112079 + 1)) = r64175.Every)) then (some ((([] : List Int) ++ (slc s112070 (Int.toNat 1) s112070.length)), (s112074 ++ ([(ix s112070 0)] : List Int)), s112078, 0, (iMin (IntKind.wrap .i64 (s112080 + 1)) 1000000000), (s112082 ++ ([(ix s112070 0)] : List Int)))) else (some ((([] : List Int) ++ (slc s112070 (Int.toNat 1) s112070.length)), (s112074 ++ ([(ix s112070 0)] : List Int)), s112078, (IntKind.wrap .i64 (s112079 + 1)), s112080, (s112082 ++ ([(ix s112070 0)] : List Int)))))))))))) : Option ((List Int) × (List Int) × Int × Int × Int × (List Int))).bind fun (s124089 : ((List Int) × (List Int) × Int × Int × Int × (List Int))) => spec_l13Step_l1 F a1 r64175 k s124089.1 s124089.2.1 s124089.2.2.1 s124089.2.2.2.1 s124089.2.2.2.2.1 s124089.2.2.2.2.2 (IntKind.wrap .i64 (s112087 + 1)) else (some (r64175.Up, s112070, s112074, s112078, s112079, s112080, 0, s112082)))
def spec_l13Step (F : Nat) (a0 : impl_Ring) (a1 : impl_RingAct) : Option (impl_Ring × impl_RingReply) := (spec_l13Own a0).bind fun r64175 => ((bif (decide (a1.Kind = 1)) then (spec_l01In a1.N 0 999).bind fun r96176 => (bif (!r96176) then (some (r64175.Up, r64175.Posted, r64175.Done, r64175.Lost, r64175.Pending, r64175.Signals, 4, ([] : List Int))) else (spec_l13Has F r64175.Posted a1.N).bind fun r96183 => (bif (!r96183) then spec_l13Has F r64175.Done a1.N else some false).bind fun r96186 => (bif (r96183 || r96186) then (some (r64175.Up, r64175.Posted, r64175.Done, r64175.Lost, r64175.Pending, r64175.Signals, 9, ([] : List Int))) else (bif (decide ((IntKind.wrap .i64 ((r64175.Posted.length : Int) + (r64175.Done.length : Int))) = r64175.Size)) then (some (r64175.Up, r64175.Posted, r64175.Done, r64175.Lost, r64175.Pending, r64175.Signals, 7, ([] : List Int))) else gd ((r64175.Posted.length + ([a1.N] : List Int).length) * 8 ≤ 140737488355328) ((some (r64175.Up, (r64175.Posted ++ ([a1.N] : List Int)), r64175.Done, r64175.Lost, r64175.Pending, r64175.Signals, 0, ([] : List Int))))))) else (bif (decide (a1.Kind = 2)) then (spec_l01In a1.N 0 100).bind fun r96219 => (bif (!r96219) then (some (r64175.Up, r64175.Posted, r64175.Done, r64175.Lost, r64175.Pending, r64175.Signals, 4, ([] : List Int))) else spec_l13Step_l1 F a1 r64175 F r64175.Posted r64175.Done r64175.Lost r64175.Pending r64175.Signals ([] : List Int) 0) else (bif (decide (a1.Kind = 3)) then (bif (decide (a1.N < 1)) then (some (r64175.Up, r64175.Posted, r64175.Done, r64175.Lost, r64175.Pending, r64175.Signals, 4, ([] : List Int))) else gd ((0 : Int) ≤ (iMin a1.N (r64175.Done.length : Int)) ∧ (iMin a1.N (r64175.Done.length : Int)) ≤ (r64175.Done.length : Int)) (gd ((([] : List Int).length + (slc r64175.Done 0 (Int.toNat (iMin a1.N (r64175.Done.length : Int)))).length) * 8 ≤ 140737488355328) (gd ((0 : Int) ≤ (iMin a1.N (r64175.Done.length : Int)) ∧ (iMin a1.N (r64175.Done.length : Int)) ≤ (r64175.Done.length : Int)) (gd ((([] : List Int).length + (slc r64175.Done (Int.toNat (iMin a1.N (r64175.Done.length : Int))) r64175.Done.length).length) * 8 ≤ 140737488355328) ((some (r64175.Up, r64175.Posted, (([] : List Int) ++ (slc r64175.Done (Int.toNat (iMin a1.N (r64175.Done.length : Int))) r64175.Done.length)), r64175.Lost, (iMin r64175.Pending ((([] : List Int) ++ (slc r64175.Done (Int.toNat (iMin a1.N (r64175.Done.length : Int))) r64175.Done.length)).length : Int)), r64175.Signals, 0, (([] : List Int) ++ (slc r64175.Done 0 (Int.toNat (iMin a1.N (r64175.Done.length : Int)))))))))))) else (bif (decide (a1.Kind = 4)) then gd ((([] : List Int).length + r64175.Done.length) * 8 ≤ 140737488355328) (gd (((([] : List Int) ++ r64175.Done).length + r64175.Posted.length) * 8 ≤ 140737488355328) ((some (r64175.Up, ([] : List Int), ([] : List Int), r64175.Lost, 0, r64175.Signals, 0, ((([] : List Int) ++ r64175.Done) ++ r64175.Posted))))) else (bif (decide (a1.Kind = 5)) then (some ((decide (a1.N = 1)), r64175.Posted, r64175.Done, r64175.Lost, r64175.Pending, r64175.Signals, 0, ([] : List Int))) else (some (r64175.Up, r64175.Posted, r64175.Done, r64175.Lost, r64175.Pending, r64175.Signals, 3, ([] : List Int)))))))) : Option (Bool × (List Int) × (List Int) × Int × Int × Int × Int × (List Int))).bind fun (s96172 : (Bool × (List Int) × (List Int) × Int × Int × Int × Int × (List Int))) => (some ((impl_Ring.mk r64175.Size s96172.1 s96172.2.1 s96172.2.2.1 s96172.2.2.2.1 s96172.2.2.2.2.1 r64175.Every s96172.2.2.2.2.2.1), (impl_RingReply.mk s96172.2.2.2.2.2.2.1 s96172.2.2.2.2.2.2.2)))
set_option maxHeartbeats 400000 in
set_option maxRecDepth 100000 in
theorem spec_l13Step_ok (F : Nat) {w0 w : World} {hR hF : Hp} {v0x2 : Value} {v0x3 : Value} (a0 : impl_Ring) (a1 : impl_RingAct) {r : (impl_Ring × impl_RingReply)} (H0x2 : RdF w0 (FK.int .i64) v0x2 a0.Posted hR) (H0x3 : RdF w0 (FK.int .i64) v0x3 a0.Done hR) (hs : Sub hR hF) (hm : Mem w0 w (cat [hF])) (he : spec_l13Step F a0 a1 = some r) :
    Calls Try.prog 77 #[(.agg #[(.int .i64 a0.Size), (.bool a0.Up), v0x2, v0x3, (.int .i64 a0.Lost), (.int .i64 a0.Pending), (.int .i64 a0.Every), (.int .i64 a0.Signals)]), (.agg #[(.int .i64 a1.Kind), (.int .i64 a1.N)])] w (fun e w' => ∃ (v'0 : Value) (h'0 : Hp) (v'1 : Value) (h'1 : Hp) (v'2 : Value) (h'2 : Hp), e = .returned (.tuple #[(.agg #[(.int .i64 r.1.Size), (.bool r.1.Up), v'0, v'1, (.int .i64 r.1.Lost), (.int .i64 r.1.Pending), (.int .i64 r.1.Every), (.int .i64 r.1.Signals)]), (.agg #[(.int .i64 r.2.Code), v'2])]) ∧ OwF 3 (FK.int .i64) v'0 r.1.Posted h'0 ∧ OwF 3 (FK.int .i64) v'1 r.1.Done h'1 ∧ OwF 3 (FK.int .i64) v'2 r.2.List h'2 ∧ Mem w0 w' (cat [h'0, h'1, h'2, hF])) := by
 refine calls_fr (n := 182) Try.func77 rfl rfl rfl ?_
 unfold spec_l13Step at he
 refine wp_seq ?_
 refine wp_region_lit ?_
 refine s_exv (won rfl) rfl rfl (e_box (vs := [(.int .i64 a0.Size), (.bool a0.Up), v0x2, v0x3, (.int .i64 a0.Lost), (.int .i64 a0.Pending), (.int .i64 a0.Every), (.int .i64 a0.Signals)]) rfl (ev (t := 0) rfl rfl) rfl hm) ?_
 rintro g64156 w64157 hm64158
 refine s_exv (won rfl) rfl rfl (e_box (vs := [(.int .i64 a1.Kind), (.int .i64 a1.N)]) rfl (ev (t := 1) rfl rfl) rfl hm64158) ?_
 rintro g64160 w64161 hm64162
 refine s_exv (won rfl) rfl rfl (e_alloc (vs := [(.int .i64 0), (.bool false), (.slice none 0 0), (.slice none 0 0), (.int .i64 0), (.int .i64 0), (.int .i64 0), (.int .i64 0)]) rfl zt_65 rfl hm64162) ?_
 rintro g64166 w64167 hm64168
 refine s_exv (won rfl) rfl rfl (e_alloc (vs := [(.int .i64 0), (.slice none 0 0)]) rfl zt_71 rfl hm64168) ?_
 rintro g64171 w64172 hm64173
 refine wpList_nil ?_
 refine nx ?_
 refine wp_seq ?_
 obtain ⟨r64175, hr64175, he⟩ := bindE he
 refine wp_region_lit ?_
 refine s_val (v := (.agg #[(.int .i64 a0.Size), (.bool a0.Up), v0x2, v0x3, (.int .i64 a0.Lost), (.int .i64 a0.Pending), (.int .i64 a0.Every), (.int .i64 a0.Signals)])) (won rfl) rfl rfl (x_loadN (vs := [(.int .i64 a0.Size), (.bool a0.Up), v0x2, v0x3, (.int .i64 a0.Lost), (.int .i64 a0.Pending), (.int .i64 a0.Every), (.int .i64 a0.Signals)]) rfl tyN_65 (ev (t := 2) rfl rfl) (seg_cells (o' := 0) (j := 0) hm64173 (k := 3) rfl rfl rfl)) ?_
 refine s_call (won rfl) rfl rfl (x_call rfl rfl cl_78 (map_lit (map_cons (ev (t := 10) rfl rfl) map_nil))) (spec_l13Own_ok (hR := (cat [hR])) (hF := cat [sg g64171 71 (0, 0) [] [(.int .i64 0), (.slice none 0 0)] [], sg g64166 65 (0, 0) [] [(.int .i64 0), (.bool false), (.slice none 0 0), (.slice none 0 0), (.int .i64 0), (.int .i64 0), (.int .i64 0), (.int .i64 0)] [], sg g64160 74 (0, 0) [] [(.int .i64 a1.Kind), (.int .i64 a1.N)] [], sg g64156 65 (0, 0) [] [(.int .i64 a0.Size), (.bool a0.Up), v0x2, v0x3, (.int .i64 a0.Lost), (.int .i64 a0.Pending), (.int .i64 a0.Every), (.int .i64 a0.Signals)] [], hF]) a0 (H0x2.mono (Sub.at_ (k := 0) rfl)) (H0x3.mono (Sub.at_ (k := 0) rfl)) (subc (Sub.trans hs (Sub.at_ (k := 4) rfl)) subn) (Mem.one hm64173) hr64175) ?_
 rintro e w64184 ⟨v64177, h64179, v64181, h64183, rfl, H64178, H64182, hm64185⟩
 refine ⟨_, rfl, ?_⟩
 replace hm64185 : Mem w0 w64184 (cat [h64179, h64183, sg g64171 71 (0, 0) [] [(.int .i64 0), (.slice none 0 0)] [], sg g64166 65 (0, 0) [] [(.int .i64 0), (.bool false), (.slice none 0 0), (.slice none 0 0), (.int .i64 0), (.int .i64 0), (.int .i64 0), (.int .i64 0)] [], sg g64160 74 (0, 0) [] [(.int .i64 a1.Kind), (.int .i64 a1.N)] [], sg g64156 65 (0, 0) [] [(.int .i64 a0.Size), (.bool a0.Up), v0x2, v0x3, (.int .i64 a0.Lost), (.int .i64 a0.Pending), (.int .i64 a0.Every), (.int .i64 a0.Signals)] [], hF]) := Mem.ung [h64179, h64183] [sg g64171 71 (0, 0) [] [(.int .i64 0), (.slice none 0 0)] [], sg g64166 65 (0, 0) [] [(.int .i64 0), (.bool false), (.slice none 0 0), (.slice none 0 0), (.int .i64 0), (.int .i64 0), (.int .i64 0), (.int .i64 0)] [], sg g64160 74 (0, 0) [] [(.int .i64 a1.Kind), (.int .i64 a1.N)] [], sg g64156 65 (0, 0) [] [(.int .i64 a0.Size), (.bool a0.Up), v0x2, v0x3, (.int .i64 a0.Lost), (.int .i64 a0.Pending), (.int .i64 a0.Every), (.int .i64 a0.Signals)] [], hF] hm64185
 refine s_exv (won rfl) rfl rfl (e_alloc (vs := [(.int .i64 0), (.bool false), (.slice none 0 0), (.slice none 0 0), (.int .i64 0), (.int .i64 0), (.int .i64 0), (.int .i64 0)]) rfl zt_65 rfl hm64185) ?_
 rintro g64188 w64189 hm64190
 refine s_exs (won rfl) rfl (e_store (vs := [(.int .i64 r64175.Size), (.bool r64175.Up), v64177, v64181, (.int .i64 r64175.Lost), (.int .i64 r64175.Pending), (.int .i64 r64175.Every), (.int .i64 r64175.Signals)]) (o' := 0) (j := 0) rfl sz_65 (ev (t := 6) rfl rfl) (ev (t := 11) rfl rfl) rfl (one_cons rfl (one_cons rfl (one_cons (IsSl.one (H64178).sl) (one_cons (IsSl.one (H64182).sl) (one_cons rfl (one_cons rfl (one_cons rfl (one_cons rfl one_nil)))))))) hm64190 (k := 0) rfl rfl rfl) ?_
 intro w64192 hm64193
 replace hm64193 : Mem w0 w64192 (cat [sg g64188 65 (0, 0) [] [(.int .i64 r64175.Size), (.bool r64175.Up), v64177, v64181, (.int .i64 r64175.Lost), (.int .i64 r64175.Pending), (.int .i64 r64175.Every), (.int .i64 r64175.Signals)] [], h64179, h64183, sg g64171 71 (0, 0) [] [(.int .i64 0), (.slice none 0 0)] [], sg g64166 65 (0, 0) [] [(.int .i64 0), (.bool false), (.slice none 0 0), (.slice none 0 0), (.int .i64 0), (.int .i64 0), (.int .i64 0), (.int .i64 0)] [], sg g64160 74 (0, 0) [] [(.int .i64 a1.Kind), (.int .i64 a1.N)] [], sg g64156 65 (0, 0) [] [(.int .i64 a0.Size), (.bool a0.Up), v0x2, v0x3, (.int .i64 a0.Lost), (.int .i64 a0.Pending), (.int .i64 a0.Every), (.int .i64 a0.Signals)] [], hF]) := hm64193
 refine wpList_nil ?_
 have hm64194 : Mem w0 w64192 (cat [sg g64188 65 (0, 0) [] [(.int .i64 r64175.Size), (.bool r64175.Up), v64177, v64181, (.int .i64 r64175.Lost), (.int .i64 r64175.Pending), (.int .i64 r64175.Every), (.int .i64 r64175.Signals)] [], h64179, h64183, sg g64171 71 (0, 0) [] [(.int .i64 0), (.slice none 0 0)] [], sg g64166 65 (0, 0) [] [(.int .i64 0), (.bool false), (.slice none 0 0), (.slice none 0 0), (.int .i64 0), (.int .i64 0), (.int .i64 0), (.int .i64 0)] [], sg g64160 74 (0, 0) [] [(.int .i64 a1.Kind), (.int .i64 a1.N)] [], hF]) := Mem.pick [0, 1, 2, 3, 4, 5, 7] rfl hm64193
 refine nx ?_
 refine wp_seq ?_
 refine wp_region_lit ?_
 refine s_exv (won rfl) rfl rfl (e_litp (cells := []) (ps := []) rfl slt_26 (pmap_lit pmap_nil) (fun w1 => run_bslice0 slt_26) hm64194) ?_
 rintro g64197 w64195 hm64196
 have H64198 : OwF 3 (FK.int .i64) (.slice (some ⟨g64197, 0, none⟩) 0 0) ([] : List Int) (sg g64197 3 (0, 0) [] (encs (FK.int .i64) ([] : List Int)) []) := OwF.lit g64197 ([] : List Int) 0 rfl (by decide)
 replace hm64196 : Mem w0 w64195 (cat [(sg g64197 3 (0, 0) [] (encs (FK.int .i64) ([] : List Int)) []), sg g64188 65 (0, 0) [] [(.int .i64 r64175.Size), (.bool r64175.Up), v64177, v64181, (.int .i64 r64175.Lost), (.int .i64 r64175.Pending), (.int .i64 r64175.Every), (.int .i64 r64175.Signals)] [], h64179, h64183, sg g64171 71 (0, 0) [] [(.int .i64 0), (.slice none 0 0)] [], sg g64166 65 (0, 0) [] [(.int .i64 0), (.bool false), (.slice none 0 0), (.slice none 0 0), (.int .i64 0), (.int .i64 0), (.int .i64 0), (.int .i64 0)] [], sg g64160 74 (0, 0) [] [(.int .i64 a1.Kind), (.int .i64 a1.N)] [], hF]) := hm64196
 refine s_val (v := (.agg #[(.int .i64 0), (.slice (some ⟨g64197, 0, none⟩) 0 0)])) (won rfl) rfl rfl (x_build (cells := [(.int .i64 0), (.slice (some ⟨g64197, 0, none⟩) 0 0)]) (zc := [.int .i64 0, .slice none 0 0]) (sizes := [(0, 1), (1, 1)]) (ps := [(1, (.slice (some ⟨g64197, 0, none⟩) 0 0))]) rfl zt_71 rfl uf_71 ufz_71 (pmap_lit (pmap_cons (ev (t := 12) rfl rfl) pmap_nil)) (fill_cons (cs := [(.slice (some ⟨g64197, 0, none⟩) 0 0)]) rfl (IsSl.cells (H64198).sl) rfl fill_nil)) ?_
 refine s_exv (won rfl) rfl rfl (e_alloc (vs := [(.int .i64 0), (.slice none 0 0)]) rfl zt_71 rfl hm64196) ?_
 rintro g64202 w64203 hm64204
 refine s_exs (won rfl) rfl (e_store (vs := [(.int .i64 0), (.slice (some ⟨g64197, 0, none⟩) 0 0)]) (o' := 0) (j := 0) rfl sz_71 (ev (t := 7) rfl rfl) (ev (t := 13) rfl rfl) rfl (one_cons rfl (one_cons (IsSl.one (H64198).sl) one_nil)) hm64204 (k := 0) rfl rfl rfl) ?_
 intro w64206 hm64207
 replace hm64207 : Mem w0 w64206 (cat [sg g64202 71 (0, 0) [] [(.int .i64 0), (.slice (some ⟨g64197, 0, none⟩) 0 0)] [], (sg g64197 3 (0, 0) [] (encs (FK.int .i64) ([] : List Int)) []), sg g64188 65 (0, 0) [] [(.int .i64 r64175.Size), (.bool r64175.Up), v64177, v64181, (.int .i64 r64175.Lost), (.int .i64 r64175.Pending), (.int .i64 r64175.Every), (.int .i64 r64175.Signals)] [], h64179, h64183, sg g64171 71 (0, 0) [] [(.int .i64 0), (.slice none 0 0)] [], sg g64166 65 (0, 0) [] [(.int .i64 0), (.bool false), (.slice none 0 0), (.slice none 0 0), (.int .i64 0), (.int .i64 0), (.int .i64 0), (.int .i64 0)] [], sg g64160 74 (0, 0) [] [(.int .i64 a1.Kind), (.int .i64 a1.N)] [], hF]) := hm64207
 refine wpList_nil ?_
 refine nx ?_
 obtain ⟨s96172, hT96174, hk96173⟩ := bindE he
 replace he := hT96174
 refine wp_seqJ (fun a w => ∃ (v96153 : Value) (h96154 : Hp) (v96158 : Value) (h96159 : Hp) (v96168 : Value) (h96169 : Hp) (f : Nat → Value), a = fr 182 f ∧ f 4 = (.pointer (some ⟨g64166, 0, none⟩)) ∧ f 5 = (.pointer (some ⟨g64171, 0, none⟩)) ∧ f 6 = (.pointer (some ⟨g64188, 0, none⟩)) ∧ f 7 = (.pointer (some ⟨g64202, 0, none⟩)) ∧ OwF 3 (FK.int .i64) v96153 s96172.2.1 h96154 ∧ OwF 3 (FK.int .i64) v96158 s96172.2.2.1 h96159 ∧ OwF 3 (FK.int .i64) v96168 s96172.2.2.2.2.2.2.2 h96169 ∧ Mem w0 w (cat [sg g64166 65 (0, 0) [] [(.int .i64 0), (.bool false), (.slice none 0 0), (.slice none 0 0), (.int .i64 0), (.int .i64 0), (.int .i64 0), (.int .i64 0)] [], sg g64171 71 (0, 0) [] [(.int .i64 0), (.slice none 0 0)] [], sg g64188 65 (0, 0) [] [(.int .i64 r64175.Size), (.bool s96172.1), v96153, v96158, (.int .i64 s96172.2.2.2.1), (.int .i64 s96172.2.2.2.2.1), (.int .i64 r64175.Every), (.int .i64 s96172.2.2.2.2.2.1)] [], sg g64202 71 (0, 0) [] [(.int .i64 s96172.2.2.2.2.2.2.1), v96168] [], h96154, h96159, h96169, hF])) ?_ ?_
 ·
  refine wp_seq ?_
  refine wp_region_lit ?_
  refine s_val (v := (.pointer (some ⟨g64160, 0, none⟩))) (won rfl) rfl rfl (x_field rfl fa_74x0 (ev (t := 3) rfl rfl)) ?_
  refine s_val (v := (.int .i64 a1.Kind)) (won rfl) rfl rfl (x_load rfl ty1x3 (ev (t := 14) rfl rfl) (seg_cell (o' := 0) (j := 0) hm64207 (k := 7) rfl rfl rfl)) ?_
  refine wpList_nil ?_
  refine nx ?_
  refine wp_block ?_
  refine wp_seq ?_
  refine wp_region_lit ?_
  refine s_val (v := (.bool (decide (a1.Kind = 1)))) (won rfl) rfl rfl (x_eql rfl (ev (t := 15) rfl rfl) rfl) ?_
  refine s_val (v := (.bool (decide (a1.Kind = 1)))) (won rfl) rfl rfl (x_assign rfl (ev (t := 18) rfl rfl)) ?_
  refine wpList_nil ?_
  refine nx ?_
  rcases Bool.eq_false_or_eq_true ((decide (a1.Kind = 1))) with hb96175 | hb96175
  ·
   replace he := bifT he hb96175
   refine c_true rfl (p := (decide (a1.Kind = 1))) rfl rfl hb96175 ?_
   refine wp_block ?_
   refine wp_seq ?_
   obtain ⟨r96176, hr96176, he⟩ := bindE he
   refine wp_region_lit ?_
   refine s_val (v := (.pointer (some ⟨g64160, 1, none⟩))) (won rfl) rfl rfl (x_field rfl fa_74x1 (ev (t := 3) rfl rfl)) ?_
   refine s_val (v := (.int .i64 a1.N)) (won rfl) rfl rfl (x_load rfl ty1x3 (ev (t := 27) rfl rfl) (seg_cell (o' := 0) (j := 1) hm64207 (k := 7) rfl rfl rfl)) ?_
   refine s_call (won rfl) rfl rfl (x_call rfl rfl cl_87 (map_lit (map_cons (ev (t := 28) rfl rfl) (map_cons rfl (map_cons rfl map_nil))))) (spec_l01In_ok (hR := (cat [])) (hF := cat [sg g64202 71 (0, 0) [] [(.int .i64 0), (.slice (some ⟨g64197, 0, none⟩) 0 0)] [], (sg g64197 3 (0, 0) [] (encs (FK.int .i64) ([] : List Int)) []), sg g64188 65 (0, 0) [] [(.int .i64 r64175.Size), (.bool r64175.Up), v64177, v64181, (.int .i64 r64175.Lost), (.int .i64 r64175.Pending), (.int .i64 r64175.Every), (.int .i64 r64175.Signals)] [], h64179, h64183, sg g64171 71 (0, 0) [] [(.int .i64 0), (.slice none 0 0)] [], sg g64166 65 (0, 0) [] [(.int .i64 0), (.bool false), (.slice none 0 0), (.slice none 0 0), (.int .i64 0), (.int .i64 0), (.int .i64 0), (.int .i64 0)] [], sg g64160 74 (0, 0) [] [(.int .i64 a1.Kind), (.int .i64 a1.N)] [], hF]) a1.N 0 999  (Mem.one hm64207) hr96176) ?_
   rintro e w96177 ⟨rfl, hm96178⟩
   refine ⟨_, rfl, ?_⟩
   replace hm96178 : Mem w0 w96177 (cat [sg g64202 71 (0, 0) [] [(.int .i64 0), (.slice (some ⟨g64197, 0, none⟩) 0 0)] [], (sg g64197 3 (0, 0) [] (encs (FK.int .i64) ([] : List Int)) []), sg g64188 65 (0, 0) [] [(.int .i64 r64175.Size), (.bool r64175.Up), v64177, v64181, (.int .i64 r64175.Lost), (.int .i64 r64175.Pending), (.int .i64 r64175.Every), (.int .i64 r64175.Signals)] [], h64179, h64183, sg g64171 71 (0, 0) [] [(.int .i64 0), (.slice none 0 0)] [], sg g64166 65 (0, 0) [] [(.int .i64 0), (.bool false), (.slice none 0 0), (.slice none 0 0), (.int .i64 0), (.int .i64 0), (.int .i64 0), (.int .i64 0)] [], sg g64160 74 (0, 0) [] [(.int .i64 a1.Kind), (.int .i64 a1.N)] [], hF]) := Mem.un hm96178
   refine s_val (v := (.bool (!r96176))) (won rfl) rfl rfl (x_not rfl (ev (t := 29) rfl rfl)) ?_
   refine s_val (v := (.bool (!r96176))) (won rfl) rfl rfl (x_assign rfl (ev (t := 30) rfl rfl)) ?_
   refine wpList_nil ?_
   refine nx ?_
   rcases Bool.eq_false_or_eq_true ((!r96176)) with hb96179 | hb96179
   ·
    replace he := bifT he hb96179
    refine c_true rfl (p := (!r96176)) rfl rfl hb96179 ?_
    refine wp_region_lit ?_
    refine s_val (v := (.pointer (some ⟨g64202, 0, none⟩))) (won rfl) rfl rfl (x_field rfl fa_71x0 (ev (t := 7) rfl rfl)) ?_
    refine s_exs (won rfl) rfl (e_store (vs := [(.int .i64 4)]) (o' := 0) (j := 0) rfl sz_3 (ev (t := 31) rfl rfl) rfl rfl rfl hm96178 (k := 0) rfl rfl rfl) ?_
    intro w96180 hm96181
    replace hm96181 : Mem w0 w96180 (cat [sg g64202 71 (0, 0) [] [(.int .i64 4), (.slice (some ⟨g64197, 0, none⟩) 0 0)] [], (sg g64197 3 (0, 0) [] (encs (FK.int .i64) ([] : List Int)) []), sg g64188 65 (0, 0) [] [(.int .i64 r64175.Size), (.bool r64175.Up), v64177, v64181, (.int .i64 r64175.Lost), (.int .i64 r64175.Pending), (.int .i64 r64175.Every), (.int .i64 r64175.Signals)] [], h64179, h64183, sg g64171 71 (0, 0) [] [(.int .i64 0), (.slice none 0 0)] [], sg g64166 65 (0, 0) [] [(.int .i64 0), (.bool false), (.slice none 0 0), (.slice none 0 0), (.int .i64 0), (.int .i64 0), (.int .i64 0), (.int .i64 0)] [], sg g64160 74 (0, 0) [] [(.int .i64 a1.Kind), (.int .i64 a1.N)] [], hF]) := hm96181
    refine wpList_nil ?_
    have hm96182 : Mem w0 w96180 (cat [sg g64202 71 (0, 0) [] [(.int .i64 4), (.slice (some ⟨g64197, 0, none⟩) 0 0)] [], (sg g64197 3 (0, 0) [] (encs (FK.int .i64) ([] : List Int)) []), sg g64188 65 (0, 0) [] [(.int .i64 r64175.Size), (.bool r64175.Up), v64177, v64181, (.int .i64 r64175.Lost), (.int .i64 r64175.Pending), (.int .i64 r64175.Every), (.int .i64 r64175.Signals)] [], h64179, h64183, sg g64171 71 (0, 0) [] [(.int .i64 0), (.slice none 0 0)] [], sg g64166 65 (0, 0) [] [(.int .i64 0), (.bool false), (.slice none 0 0), (.slice none 0 0), (.int .i64 0), (.int .i64 0), (.int .i64 0), (.int .i64 0)] [], hF]) := Mem.pick [0, 1, 2, 3, 4, 5, 6, 8] rfl hm96181
    refine nb ?_
    refine nb ?_
    refine nx ?_
    obtain rfl := Option.some.inj he
    exact ⟨v64177, h64179, v64181, h64183, (.slice (some ⟨g64197, 0, none⟩) 0 0), (sg g64197 3 (0, 0) [] (encs (FK.int .i64) ([] : List Int)) []), _, rfl, rfl, rfl, rfl, rfl, H64178, H64182, H64198, Mem.pick [6, 5, 2, 0, 3, 4, 1, 7] rfl hm96182⟩
   ·
    replace he := bifF he hb96179
    refine c_false rfl (p := (!r96176)) rfl rfl hb96179 ?_
    refine wp_seq ?_
    obtain ⟨r96183, hr96183, he⟩ := bindE he
    obtain ⟨r96186, hr96186, he⟩ := bindE he
    refine wp_region_lit ?_
    refine s_val (v := (.pointer (some ⟨g64188, 2, none⟩))) (won rfl) rfl rfl (x_field rfl fa_65x2 (ev (t := 6) rfl rfl)) ?_
    refine s_val (v := v64177) (won rfl) rfl rfl (x_load rfl ty1x26 (ev (t := 33) rfl rfl) (seg_cell (o' := 0) (j := 2) hm96178 (k := 2) rfl rfl rfl)) ?_
    refine s_val (v := (.pointer (some ⟨g64160, 1, none⟩))) (won rfl) rfl rfl (x_field rfl fa_74x1 (ev (t := 3) rfl rfl)) ?_
    refine s_val (v := (.int .i64 a1.N)) (won rfl) rfl rfl (x_load rfl ty1x3 (ev (t := 35) rfl rfl) (seg_cell (o' := 0) (j := 1) hm96178 (k := 7) rfl rfl rfl)) ?_
    refine s_call (won rfl) rfl rfl (x_call rfl rfl cl_92 (map_lit (map_cons (ev (t := 34) rfl rfl) (map_cons (ev (t := 36) rfl rfl) map_nil)))) (spec_l13Has_ok F (hR := (cat [h64179])) (hF := cat [sg g64202 71 (0, 0) [] [(.int .i64 0), (.slice (some ⟨g64197, 0, none⟩) 0 0)] [], (sg g64197 3 (0, 0) [] (encs (FK.int .i64) ([] : List Int)) []), sg g64188 65 (0, 0) [] [(.int .i64 r64175.Size), (.bool r64175.Up), v64177, v64181, (.int .i64 r64175.Lost), (.int .i64 r64175.Pending), (.int .i64 r64175.Every), (.int .i64 r64175.Signals)] [], h64179, h64183, sg g64171 71 (0, 0) [] [(.int .i64 0), (.slice none 0 0)] [], sg g64166 65 (0, 0) [] [(.int .i64 0), (.bool false), (.slice none 0 0), (.slice none 0 0), (.int .i64 0), (.int .i64 0), (.int .i64 0), (.int .i64 0)] [], sg g64160 74 (0, 0) [] [(.int .i64 a1.Kind), (.int .i64 a1.N)] [], hF]) r64175.Posted a1.N ((H64178.rd w0).mono (Sub.at_ (k := 0) rfl)) (subc (Sub.at_ (k := 3) rfl) subn) (Mem.one hm96178) hr96183) ?_
    rintro e w96184 ⟨rfl, hm96185⟩
    refine ⟨_, rfl, ?_⟩
    replace hm96185 : Mem w0 w96184 (cat [sg g64202 71 (0, 0) [] [(.int .i64 0), (.slice (some ⟨g64197, 0, none⟩) 0 0)] [], (sg g64197 3 (0, 0) [] (encs (FK.int .i64) ([] : List Int)) []), sg g64188 65 (0, 0) [] [(.int .i64 r64175.Size), (.bool r64175.Up), v64177, v64181, (.int .i64 r64175.Lost), (.int .i64 r64175.Pending), (.int .i64 r64175.Every), (.int .i64 r64175.Signals)] [], h64179, h64183, sg g64171 71 (0, 0) [] [(.int .i64 0), (.slice none 0 0)] [], sg g64166 65 (0, 0) [] [(.int .i64 0), (.bool false), (.slice none 0 0), (.slice none 0 0), (.int .i64 0), (.int .i64 0), (.int .i64 0), (.int .i64 0)] [], sg g64160 74 (0, 0) [] [(.int .i64 a1.Kind), (.int .i64 a1.N)] [], hF]) := Mem.un hm96185
    refine s_val (v := (.bool r96183)) (won rfl) rfl rfl (x_move rfl (ev (t := 37) rfl rfl)) ?_
    refine s_cval (p := (!r96183)) (v := (.pointer (some ⟨g64188, 3, none⟩))) (won_f (j := 5) (t := 38) (q := r96183) rfl rfl rfl rfl rfl) rfl rfl (fun hp => (x_field rfl fa_65x3 (ev (t := 6) rfl rfl))) ?_
    refine s_cval (p := (!r96183)) (v := v64181) (won_f (j := 5) (t := 38) (q := r96183) rfl rfl rfl rfl rfl) rfl rfl (fun hp => (x_load rfl ty1x26 (ev (t := 39) rfl (Eq.trans (b := cv (!r96183) (.pointer (some ⟨g64188, 3, none⟩))) rfl (on_c hp))) (seg_cell (o' := 0) (j := 3) hm96185 (k := 2) rfl rfl rfl))) ?_
    refine s_cval (p := (!r96183)) (v := (.pointer (some ⟨g64160, 1, none⟩))) (won_f (j := 5) (t := 38) (q := r96183) rfl rfl rfl rfl rfl) rfl rfl (fun hp => (x_field rfl fa_74x1 (ev (t := 3) rfl rfl))) ?_
    refine s_cval (p := (!r96183)) (v := (.int .i64 a1.N)) (won_f (j := 5) (t := 38) (q := r96183) rfl rfl rfl rfl rfl) rfl rfl (fun hp => (x_load rfl ty1x3 (ev (t := 41) rfl (Eq.trans (b := cv (!r96183) (.pointer (some ⟨g64160, 1, none⟩))) rfl (on_c hp))) (seg_cell (o' := 0) (j := 1) hm96185 (k := 7) rfl rfl rfl))) ?_
    refine s_ccall (p := (!r96183)) (v := (.bool r96186)) (J := fun w' => Mem w0 w' (cat [sg g64202 71 (0, 0) [] [(.int .i64 0), (.slice (some ⟨g64197, 0, none⟩) 0 0)] [], (sg g64197 3 (0, 0) [] (encs (FK.int .i64) ([] : List Int)) []), sg g64188 65 (0, 0) [] [(.int .i64 r64175.Size), (.bool r64175.Up), v64177, v64181, (.int .i64 r64175.Lost), (.int .i64 r64175.Pending), (.int .i64 r64175.Every), (.int .i64 r64175.Signals)] [], h64179, h64183, sg g64171 71 (0, 0) [] [(.int .i64 0), (.slice none 0 0)] [], sg g64166 65 (0, 0) [] [(.int .i64 0), (.bool false), (.slice none 0 0), (.slice none 0 0), (.int .i64 0), (.int .i64 0), (.int .i64 0), (.int .i64 0)] [], sg g64160 74 (0, 0) [] [(.int .i64 a1.Kind), (.int .i64 a1.N)] [], hF])) (won_f (j := 5) (t := 38) (q := r96183) rfl rfl rfl rfl rfl) rfl rfl (fun hp => (x_call rfl rfl cl_92 (map_lit (map_cons (ev (t := 40) rfl (Eq.trans (b := cv (!r96183) v64181) rfl (on_c hp))) (map_cons (ev (t := 42) rfl (Eq.trans (b := cv (!r96183) (.int .i64 a1.N)) rfl (on_c hp))) map_nil))))) (fun hp => ((spec_l13Has_ok F (hR := (cat [h64183])) (hF := cat [sg g64202 71 (0, 0) [] [(.int .i64 0), (.slice (some ⟨g64197, 0, none⟩) 0 0)] [], (sg g64197 3 (0, 0) [] (encs (FK.int .i64) ([] : List Int)) []), sg g64188 65 (0, 0) [] [(.int .i64 r64175.Size), (.bool r64175.Up), v64177, v64181, (.int .i64 r64175.Lost), (.int .i64 r64175.Pending), (.int .i64 r64175.Every), (.int .i64 r64175.Signals)] [], h64179, h64183, sg g64171 71 (0, 0) [] [(.int .i64 0), (.slice none 0 0)] [], sg g64166 65 (0, 0) [] [(.int .i64 0), (.bool false), (.slice none 0 0), (.slice none 0 0), (.int .i64 0), (.int .i64 0), (.int .i64 0), (.int .i64 0)] [], sg g64160 74 (0, 0) [] [(.int .i64 a1.Kind), (.int .i64 a1.N)] [], hF]) r64175.Done a1.N ((H64182.rd w0).mono (Sub.at_ (k := 0) rfl)) (subc (Sub.at_ (k := 4) rfl) subn) (Mem.one hm96185) (bifT hr96186 hp))).mono fun e w2 h => ⟨h.1, Mem.un h.2⟩) hm96185 ?_
    intro w96187 hm96188
    refine s_val (v := (.bool (r96183 || r96186))) (won rfl) rfl rfl (x_pick_or rfl (ev (t := 38) rfl rfl) rfl (fun hq => ev rfl (Eq.trans (b := cv (!r96183) (.bool r96186)) rfl (on_c (not_i hq))))) ?_
    refine s_val (v := (.bool (r96183 || r96186))) (won rfl) rfl rfl (x_assign rfl (ev (t := 44) rfl rfl)) ?_
    refine wpList_nil ?_
    refine nx ?_
    rcases Bool.eq_false_or_eq_true ((r96183 || r96186)) with hb96189 | hb96189
    ·
     replace he := bifT he hb96189
     refine c_true rfl (p := (r96183 || r96186)) rfl rfl hb96189 ?_
     refine wp_region_lit ?_
     refine s_val (v := (.pointer (some ⟨g64202, 0, none⟩))) (won rfl) rfl rfl (x_field rfl fa_71x0 (ev (t := 7) rfl rfl)) ?_
     refine s_exs (won rfl) rfl (e_store (vs := [(.int .i64 9)]) (o' := 0) (j := 0) rfl sz_3 (ev (t := 45) rfl rfl) rfl rfl rfl hm96188 (k := 0) rfl rfl rfl) ?_
     intro w96190 hm96191
     replace hm96191 : Mem w0 w96190 (cat [sg g64202 71 (0, 0) [] [(.int .i64 9), (.slice (some ⟨g64197, 0, none⟩) 0 0)] [], (sg g64197 3 (0, 0) [] (encs (FK.int .i64) ([] : List Int)) []), sg g64188 65 (0, 0) [] [(.int .i64 r64175.Size), (.bool r64175.Up), v64177, v64181, (.int .i64 r64175.Lost), (.int .i64 r64175.Pending), (.int .i64 r64175.Every), (.int .i64 r64175.Signals)] [], h64179, h64183, sg g64171 71 (0, 0) [] [(.int .i64 0), (.slice none 0 0)] [], sg g64166 65 (0, 0) [] [(.int .i64 0), (.bool false), (.slice none 0 0), (.slice none 0 0), (.int .i64 0), (.int .i64 0), (.int .i64 0), (.int .i64 0)] [], sg g64160 74 (0, 0) [] [(.int .i64 a1.Kind), (.int .i64 a1.N)] [], hF]) := hm96191
     refine wpList_nil ?_
     have hm96192 : Mem w0 w96190 (cat [sg g64202 71 (0, 0) [] [(.int .i64 9), (.slice (some ⟨g64197, 0, none⟩) 0 0)] [], (sg g64197 3 (0, 0) [] (encs (FK.int .i64) ([] : List Int)) []), sg g64188 65 (0, 0) [] [(.int .i64 r64175.Size), (.bool r64175.Up), v64177, v64181, (.int .i64 r64175.Lost), (.int .i64 r64175.Pending), (.int .i64 r64175.Every), (.int .i64 r64175.Signals)] [], h64179, h64183, sg g64171 71 (0, 0) [] [(.int .i64 0), (.slice none 0 0)] [], sg g64166 65 (0, 0) [] [(.int .i64 0), (.bool false), (.slice none 0 0), (.slice none 0 0), (.int .i64 0), (.int .i64 0), (.int .i64 0), (.int .i64 0)] [], hF]) := Mem.pick [0, 1, 2, 3, 4, 5, 6, 8] rfl hm96191
     refine nb ?_
     refine nb ?_
     refine nx ?_
     obtain rfl := Option.some.inj he
     exact ⟨v64177, h64179, v64181, h64183, (.slice (some ⟨g64197, 0, none⟩) 0 0), (sg g64197 3 (0, 0) [] (encs (FK.int .i64) ([] : List Int)) []), _, rfl, rfl, rfl, rfl, rfl, H64178, H64182, H64198, Mem.pick [6, 5, 2, 0, 3, 4, 1, 7] rfl hm96192⟩
    ·
     replace he := bifF he hb96189
     refine c_false rfl (p := (r96183 || r96186)) rfl rfl hb96189 ?_
     refine wp_seq ?_
     refine wp_region_lit ?_
     refine s_val (v := (.pointer (some ⟨g64188, 2, none⟩))) (won rfl) rfl rfl (x_field rfl fa_65x2 (ev (t := 6) rfl rfl)) ?_
     refine s_val (v := v64177) (won rfl) rfl rfl (x_load rfl ty1x26 (ev (t := 47) rfl rfl) (seg_cell (o' := 0) (j := 2) hm96188 (k := 2) rfl rfl rfl)) ?_
     refine s_val (v := (.int .i64 (r64175.Posted.length : Int))) (won rfl) rfl rfl (x_len rfl slt_26 (ev (t := 48) rfl rfl) (H64178).sl) ?_
     refine s_val (v := (.pointer (some ⟨g64188, 3, none⟩))) (won rfl) rfl rfl (x_field rfl fa_65x3 (ev (t := 6) rfl rfl)) ?_
     refine s_val (v := v64181) (won rfl) rfl rfl (x_load rfl ty1x26 (ev (t := 50) rfl rfl) (seg_cell (o' := 0) (j := 3) hm96188 (k := 2) rfl rfl rfl)) ?_
     refine s_val (v := (.int .i64 (r64175.Done.length : Int))) (won rfl) rfl rfl (x_len rfl slt_26 (ev (t := 51) rfl rfl) (H64182).sl) ?_
     refine s_val (v := (.int .i64 (IntKind.wrap .i64 ((r64175.Posted.length : Int) + (r64175.Done.length : Int))))) (won rfl) rfl rfl (x_add rfl (ev (t := 49) rfl rfl) (ev (t := 52) rfl rfl)) ?_
     refine s_val (v := (.pointer (some ⟨g64188, 0, none⟩))) (won rfl) rfl rfl (x_field rfl fa_65x0 (ev (t := 6) rfl rfl)) ?_
     refine s_val (v := (.int .i64 r64175.Size)) (won rfl) rfl rfl (x_load rfl ty1x3 (ev (t := 54) rfl rfl) (seg_cell (o' := 0) (j := 0) hm96188 (k := 2) rfl rfl rfl)) ?_
     refine s_val (v := (.bool (decide ((IntKind.wrap .i64 ((r64175.Posted.length : Int) + (r64175.Done.length : Int))) = r64175.Size)))) (won rfl) rfl rfl (x_eql rfl (ev (t := 53) rfl rfl) (ev (t := 55) rfl rfl)) ?_
     refine s_val (v := (.bool (decide ((IntKind.wrap .i64 ((r64175.Posted.length : Int) + (r64175.Done.length : Int))) = r64175.Size)))) (won rfl) rfl rfl (x_assign rfl (ev (t := 56) rfl rfl)) ?_
     refine wpList_nil ?_
     refine nx ?_
     rcases Bool.eq_false_or_eq_true ((decide ((IntKind.wrap .i64 ((r64175.Posted.length : Int) + (r64175.Done.length : Int))) = r64175.Size))) with hb96193 | hb96193
     ·
      replace he := bifT he hb96193
      refine c_true rfl (p := (decide ((IntKind.wrap .i64 ((r64175.Posted.length : Int) + (r64175.Done.length : Int))) = r64175.Size))) rfl rfl hb96193 ?_
      refine wp_region_lit ?_
      refine s_val (v := (.pointer (some ⟨g64202, 0, none⟩))) (won rfl) rfl rfl (x_field rfl fa_71x0 (ev (t := 7) rfl rfl)) ?_
      refine s_exs (won rfl) rfl (e_store (vs := [(.int .i64 7)]) (o' := 0) (j := 0) rfl sz_3 (ev (t := 57) rfl rfl) rfl rfl rfl hm96188 (k := 0) rfl rfl rfl) ?_
      intro w96194 hm96195
      replace hm96195 : Mem w0 w96194 (cat [sg g64202 71 (0, 0) [] [(.int .i64 7), (.slice (some ⟨g64197, 0, none⟩) 0 0)] [], (sg g64197 3 (0, 0) [] (encs (FK.int .i64) ([] : List Int)) []), sg g64188 65 (0, 0) [] [(.int .i64 r64175.Size), (.bool r64175.Up), v64177, v64181, (.int .i64 r64175.Lost), (.int .i64 r64175.Pending), (.int .i64 r64175.Every), (.int .i64 r64175.Signals)] [], h64179, h64183, sg g64171 71 (0, 0) [] [(.int .i64 0), (.slice none 0 0)] [], sg g64166 65 (0, 0) [] [(.int .i64 0), (.bool false), (.slice none 0 0), (.slice none 0 0), (.int .i64 0), (.int .i64 0), (.int .i64 0), (.int .i64 0)] [], sg g64160 74 (0, 0) [] [(.int .i64 a1.Kind), (.int .i64 a1.N)] [], hF]) := hm96195
      refine wpList_nil ?_
      have hm96196 : Mem w0 w96194 (cat [sg g64202 71 (0, 0) [] [(.int .i64 7), (.slice (some ⟨g64197, 0, none⟩) 0 0)] [], (sg g64197 3 (0, 0) [] (encs (FK.int .i64) ([] : List Int)) []), sg g64188 65 (0, 0) [] [(.int .i64 r64175.Size), (.bool r64175.Up), v64177, v64181, (.int .i64 r64175.Lost), (.int .i64 r64175.Pending), (.int .i64 r64175.Every), (.int .i64 r64175.Signals)] [], h64179, h64183, sg g64171 71 (0, 0) [] [(.int .i64 0), (.slice none 0 0)] [], sg g64166 65 (0, 0) [] [(.int .i64 0), (.bool false), (.slice none 0 0), (.slice none 0 0), (.int .i64 0), (.int .i64 0), (.int .i64 0), (.int .i64 0)] [], hF]) := Mem.pick [0, 1, 2, 3, 4, 5, 6, 8] rfl hm96195
      refine nb ?_
      refine nb ?_
      refine nx ?_
      obtain rfl := Option.some.inj he
      exact ⟨v64177, h64179, v64181, h64183, (.slice (some ⟨g64197, 0, none⟩) 0 0), (sg g64197 3 (0, 0) [] (encs (FK.int .i64) ([] : List Int)) []), _, rfl, rfl, rfl, rfl, rfl, H64178, H64182, H64198, Mem.pick [6, 5, 2, 0, 3, 4, 1, 7] rfl hm96196⟩
     ·
      replace he := bifF he hb96193
      refine c_false rfl (p := (decide ((IntKind.wrap .i64 ((r64175.Posted.length : Int) + (r64175.Done.length : Int))) = r64175.Size))) rfl rfl hb96193 ?_
      obtain ⟨hg96202, he⟩ := gdE he
      refine wp_region_lit ?_
      refine s_val (v := (.pointer (some ⟨g64188, 2, none⟩))) (won rfl) rfl rfl (x_field rfl fa_65x2 (ev (t := 6) rfl rfl)) ?_
      refine s_val (v := v64177) (won rfl) rfl rfl (x_load rfl ty1x26 (ev (t := 19) rfl rfl) (seg_cell (o' := 0) (j := 2) hm96188 (k := 2) rfl rfl rfl)) ?_
      refine s_val (v := (.pointer (some ⟨g64160, 1, none⟩))) (won rfl) rfl rfl (x_field rfl fa_74x1 (ev (t := 3) rfl rfl)) ?_
      refine s_val (v := (.int .i64 a1.N)) (won rfl) rfl rfl (x_load rfl ty1x3 (ev (t := 21) rfl rfl) (seg_cell (o' := 0) (j := 1) hm96188 (k := 7) rfl rfl rfl)) ?_
      refine s_exv (won rfl) rfl rfl (e_litp (cells := [(.int .i64 a1.N)]) (ps := [(0, (.int .i64 a1.N))]) rfl slt_26 (pmap_lit (pmap_cons (ev (t := 22) rfl rfl) pmap_nil)) (fun w1 => run_bslicez (cells := [(.int .i64 a1.N)]) (zs := [.int .i64 0]) (zc := [.int .i64 0]) slt_26 rfl rfl (by kernel_rfl) (fill_cons (cs := [(.int .i64 a1.N)]) rfl rfl rfl fill_nil) (by decide)) hm96188) ?_
      rintro g96199 w96197 hm96198
      have H96200 : OwF 3 (FK.int .i64) (.slice (some ⟨g96199, 0, none⟩) 1 1) ([a1.N] : List Int) (sg g96199 3 (0, 0) [] (encs (FK.int .i64) ([a1.N] : List Int)) []) := OwF.lit g96199 ([a1.N] : List Int) 1 rfl (by decide)
      replace hm96198 : Mem w0 w96197 (cat [(sg g96199 3 (0, 0) [] (encs (FK.int .i64) ([a1.N] : List Int)) []), sg g64202 71 (0, 0) [] [(.int .i64 0), (.slice (some ⟨g64197, 0, none⟩) 0 0)] [], (sg g64197 3 (0, 0) [] (encs (FK.int .i64) ([] : List Int)) []), sg g64188 65 (0, 0) [] [(.int .i64 r64175.Size), (.bool r64175.Up), v64177, v64181, (.int .i64 r64175.Lost), (.int .i64 r64175.Pending), (.int .i64 r64175.Every), (.int .i64 r64175.Signals)] [], h64179, h64183, sg g64171 71 (0, 0) [] [(.int .i64 0), (.slice none 0 0)] [], sg g64166 65 (0, 0) [] [(.int .i64 0), (.bool false), (.slice none 0 0), (.slice none 0 0), (.int .i64 0), (.int .i64 0), (.int .i64 0), (.int .i64 0)] [], sg g64160 74 (0, 0) [] [(.int .i64 a1.Kind), (.int .i64 a1.N)] [], hF]) := hm96198
      refine s_exv (won rfl) rfl rfl (e_append (bytes := 8) rfl slt_26 rfl (ev (t := 20) rfl rfl) (ev (t := 23) rfl rfl) H64178 (k := 4) rfl (H96200.rd w0) (Sub.at_ (k := 0) rfl) hm96198 hg96202 (len63 hg96202 rfl)) ?_
      rintro p96204 w96206 ⟨H96205, hm96207⟩
      replace hm96207 : Mem w0 w96206 (cat [(sg g96199 3 (0, 0) [] (encs (FK.int .i64) ([a1.N] : List Int)) []), sg g64202 71 (0, 0) [] [(.int .i64 0), (.slice (some ⟨g64197, 0, none⟩) 0 0)] [], (sg g64197 3 (0, 0) [] (encs (FK.int .i64) ([] : List Int)) []), sg g64188 65 (0, 0) [] [(.int .i64 r64175.Size), (.bool r64175.Up), v64177, v64181, (.int .i64 r64175.Lost), (.int .i64 r64175.Pending), (.int .i64 r64175.Every), (.int .i64 r64175.Signals)] [], p96204.2, h64183, sg g64171 71 (0, 0) [] [(.int .i64 0), (.slice none 0 0)] [], sg g64166 65 (0, 0) [] [(.int .i64 0), (.bool false), (.slice none 0 0), (.slice none 0 0), (.int .i64 0), (.int .i64 0), (.int .i64 0), (.int .i64 0)] [], sg g64160 74 (0, 0) [] [(.int .i64 a1.Kind), (.int .i64 a1.N)] [], hF]) := hm96207
      refine s_val (v := (.pointer (some ⟨g64188, 2, none⟩))) (won rfl) rfl rfl (x_field rfl fa_65x2 (ev (t := 6) rfl rfl)) ?_
      refine s_exs (won rfl) rfl (e_store (vs := [p96204.1]) (o' := 0) (j := 2) rfl sz_26 (ev (t := 25) rfl rfl) (ev (t := 24) rfl rfl) (IsSl.cells (H96205).sl) (one_cons (IsSl.one (H96205).sl) one_nil) hm96207 (k := 3) rfl rfl rfl) ?_
      intro w96208 hm96209
      replace hm96209 : Mem w0 w96208 (cat [(sg g96199 3 (0, 0) [] (encs (FK.int .i64) ([a1.N] : List Int)) []), sg g64202 71 (0, 0) [] [(.int .i64 0), (.slice (some ⟨g64197, 0, none⟩) 0 0)] [], (sg g64197 3 (0, 0) [] (encs (FK.int .i64) ([] : List Int)) []), sg g64188 65 (0, 0) [] [(.int .i64 r64175.Size), (.bool r64175.Up), p96204.1, v64181, (.int .i64 r64175.Lost), (.int .i64 r64175.Pending), (.int .i64 r64175.Every), (.int .i64 r64175.Signals)] [], p96204.2, h64183, sg g64171 71 (0, 0) [] [(.int .i64 0), (.slice none 0 0)] [], sg g64166 65 (0, 0) [] [(.int .i64 0), (.bool false), (.slice none 0 0), (.slice none 0 0), (.int .i64 0), (.int .i64 0), (.int .i64 0), (.int .i64 0)] [], sg g64160 74 (0, 0) [] [(.int .i64 a1.Kind), (.int .i64 a1.N)] [], hF]) := hm96209
      refine wpList_nil ?_
      have hm96210 : Mem w0 w96208 (cat [sg g64202 71 (0, 0) [] [(.int .i64 0), (.slice (some ⟨g64197, 0, none⟩) 0 0)] [], (sg g64197 3 (0, 0) [] (encs (FK.int .i64) ([] : List Int)) []), sg g64188 65 (0, 0) [] [(.int .i64 r64175.Size), (.bool r64175.Up), p96204.1, v64181, (.int .i64 r64175.Lost), (.int .i64 r64175.Pending), (.int .i64 r64175.Every), (.int .i64 r64175.Signals)] [], p96204.2, h64183, sg g64171 71 (0, 0) [] [(.int .i64 0), (.slice none 0 0)] [], sg g64166 65 (0, 0) [] [(.int .i64 0), (.bool false), (.slice none 0 0), (.slice none 0 0), (.int .i64 0), (.int .i64 0), (.int .i64 0), (.int .i64 0)] [], hF]) := Mem.pick [1, 2, 3, 4, 5, 6, 7, 9] rfl hm96209
      refine nb ?_
      refine nb ?_
      refine nx ?_
      obtain rfl := Option.some.inj he
      exact ⟨p96204.1, p96204.2, v64181, h64183, (.slice (some ⟨g64197, 0, none⟩) 0 0), (sg g64197 3 (0, 0) [] (encs (FK.int .i64) ([] : List Int)) []), _, rfl, rfl, rfl, rfl, rfl, H96205, H64182, H64198, Mem.pick [6, 5, 2, 0, 3, 4, 1, 7] rfl hm96210⟩
  ·
   replace he := bifF he hb96175
   refine c_false rfl (p := (decide (a1.Kind = 1))) rfl rfl hb96175 ?_
   refine wp_seq ?_
   refine wp_region_lit ?_
   refine s_val (v := (.bool (decide (a1.Kind = 2)))) (won rfl) rfl rfl (x_eql rfl (ev (t := 15) rfl rfl) rfl) ?_
   refine s_val (v := (.bool (decide (a1.Kind = 2)))) (won rfl) rfl rfl (x_assign rfl (ev (t := 59) rfl rfl)) ?_
   refine wpList_nil ?_
   refine nx ?_
   rcases Bool.eq_false_or_eq_true ((decide (a1.Kind = 2))) with hb96211 | hb96211
   ·
    replace he := bifT he hb96211
    refine c_true rfl (p := (decide (a1.Kind = 2))) rfl rfl hb96211 ?_
    refine wp_seq ?_
    refine wp_seq ?_
    obtain ⟨r96219, hr96219, he⟩ := bindE he
    refine wp_region_lit ?_
    refine s_val (v := (.pointer (some ⟨g64160, 1, none⟩))) (won rfl) rfl rfl (x_field rfl fa_74x1 (ev (t := 3) rfl rfl)) ?_
    refine s_val (v := (.int .i64 a1.N)) (won rfl) rfl rfl (x_load rfl ty1x3 (ev (t := 60) rfl rfl) (seg_cell (o' := 0) (j := 1) hm64207 (k := 7) rfl rfl rfl)) ?_
    refine s_call (won rfl) rfl rfl (x_call rfl rfl cl_87 (map_lit (map_cons (ev (t := 61) rfl rfl) (map_cons rfl (map_cons rfl map_nil))))) (spec_l01In_ok (hR := (cat [])) (hF := cat [sg g64202 71 (0, 0) [] [(.int .i64 0), (.slice (some ⟨g64197, 0, none⟩) 0 0)] [], (sg g64197 3 (0, 0) [] (encs (FK.int .i64) ([] : List Int)) []), sg g64188 65 (0, 0) [] [(.int .i64 r64175.Size), (.bool r64175.Up), v64177, v64181, (.int .i64 r64175.Lost), (.int .i64 r64175.Pending), (.int .i64 r64175.Every), (.int .i64 r64175.Signals)] [], h64179, h64183, sg g64171 71 (0, 0) [] [(.int .i64 0), (.slice none 0 0)] [], sg g64166 65 (0, 0) [] [(.int .i64 0), (.bool false), (.slice none 0 0), (.slice none 0 0), (.int .i64 0), (.int .i64 0), (.int .i64 0), (.int .i64 0)] [], sg g64160 74 (0, 0) [] [(.int .i64 a1.Kind), (.int .i64 a1.N)] [], hF]) a1.N 0 100  (Mem.one hm64207) hr96219) ?_
    rintro e w96220 ⟨rfl, hm96221⟩
    refine ⟨_, rfl, ?_⟩
    replace hm96221 : Mem w0 w96220 (cat [sg g64202 71 (0, 0) [] [(.int .i64 0), (.slice (some ⟨g64197, 0, none⟩) 0 0)] [], (sg g64197 3 (0, 0) [] (encs (FK.int .i64) ([] : List Int)) []), sg g64188 65 (0, 0) [] [(.int .i64 r64175.Size), (.bool r64175.Up), v64177, v64181, (.int .i64 r64175.Lost), (.int .i64 r64175.Pending), (.int .i64 r64175.Every), (.int .i64 r64175.Signals)] [], h64179, h64183, sg g64171 71 (0, 0) [] [(.int .i64 0), (.slice none 0 0)] [], sg g64166 65 (0, 0) [] [(.int .i64 0), (.bool false), (.slice none 0 0), (.slice none 0 0), (.int .i64 0), (.int .i64 0), (.int .i64 0), (.int .i64 0)] [], sg g64160 74 (0, 0) [] [(.int .i64 a1.Kind), (.int .i64 a1.N)] [], hF]) := Mem.un hm96221
    refine s_val (v := (.bool (!r96219))) (won rfl) rfl rfl (x_not rfl (ev (t := 62) rfl rfl)) ?_
    refine wpList_nil ?_
    refine nx ?_
    rcases Bool.eq_false_or_eq_true ((!r96219)) with hb96222 | hb96222
    ·
     replace he := bifT he hb96222
     refine c_true rfl (p := (!r96219)) rfl rfl hb96222 ?_
     refine wp_seq ?_
     refine wp_region_lit ?_
     refine s_val (v := (.pointer (some ⟨g64202, 0, none⟩))) (won rfl) rfl rfl (x_field rfl fa_71x0 (ev (t := 7) rfl rfl)) ?_
     refine s_exs (won rfl) rfl (e_store (vs := [(.int .i64 4)]) (o' := 0) (j := 0) rfl sz_3 (ev (t := 64) rfl rfl) rfl rfl rfl hm96221 (k := 0) rfl rfl rfl) ?_
     intro w96223 hm96224
     replace hm96224 : Mem w0 w96223 (cat [sg g64202 71 (0, 0) [] [(.int .i64 4), (.slice (some ⟨g64197, 0, none⟩) 0 0)] [], (sg g64197 3 (0, 0) [] (encs (FK.int .i64) ([] : List Int)) []), sg g64188 65 (0, 0) [] [(.int .i64 r64175.Size), (.bool r64175.Up), v64177, v64181, (.int .i64 r64175.Lost), (.int .i64 r64175.Pending), (.int .i64 r64175.Every), (.int .i64 r64175.Signals)] [], h64179, h64183, sg g64171 71 (0, 0) [] [(.int .i64 0), (.slice none 0 0)] [], sg g64166 65 (0, 0) [] [(.int .i64 0), (.bool false), (.slice none 0 0), (.slice none 0 0), (.int .i64 0), (.int .i64 0), (.int .i64 0), (.int .i64 0)] [], sg g64160 74 (0, 0) [] [(.int .i64 a1.Kind), (.int .i64 a1.N)] [], hF]) := hm96224
     refine wpList_nil ?_
     have hm96225 : Mem w0 w96223 (cat [sg g64202 71 (0, 0) [] [(.int .i64 4), (.slice (some ⟨g64197, 0, none⟩) 0 0)] [], (sg g64197 3 (0, 0) [] (encs (FK.int .i64) ([] : List Int)) []), sg g64188 65 (0, 0) [] [(.int .i64 r64175.Size), (.bool r64175.Up), v64177, v64181, (.int .i64 r64175.Lost), (.int .i64 r64175.Pending), (.int .i64 r64175.Every), (.int .i64 r64175.Signals)] [], h64179, h64183, sg g64171 71 (0, 0) [] [(.int .i64 0), (.slice none 0 0)] [], sg g64166 65 (0, 0) [] [(.int .i64 0), (.bool false), (.slice none 0 0), (.slice none 0 0), (.int .i64 0), (.int .i64 0), (.int .i64 0), (.int .i64 0)] [], hF]) := Mem.pick [0, 1, 2, 3, 4, 5, 6, 8] rfl hm96224
     refine nx ?_
     refine wp_exit ?_
     refine xs ?_
     refine xb ?_
     refine nx ?_
     obtain rfl := Option.some.inj he
     exact ⟨v64177, h64179, v64181, h64183, (.slice (some ⟨g64197, 0, none⟩) 0 0), (sg g64197 3 (0, 0) [] (encs (FK.int .i64) ([] : List Int)) []), _, rfl, rfl, rfl, rfl, rfl, H64178, H64182, H64198, Mem.pick [6, 5, 2, 0, 3, 4, 1, 7] rfl hm96225⟩
    ·
     replace he := bifF he hb96222
     refine c_false rfl (p := (!r96219)) rfl rfl hb96222 ?_
     refine wp_skip ?_
     refine nx ?_
     refine wp_seq ?_
     refine wp_region_lit ?_
     refine s_val (v := (.int .i64 0)) (won rfl) rfl rfl (x_assign rfl rfl) ?_
     refine wpList_nil ?_
     refine nx ?_
     refine wp_block ?_
     refine wp_fuel (I := fun k => fun a w => ∃ (s112070 : (List Int)) (s112074 : (List Int)) (s112078 : Int) (s112079 : Int) (s112080 : Int) (s112082 : (List Int)) (s112087 : Int) (v112071 : Value) (h112072 : Hp) (v112075 : Value) (h112076 : Hp) (v112083 : Value) (h112084 : Hp) (f : Nat → Value), spec_l13Step_l1 F a1 r64175 k s112070 s112074 s112078 s112079 s112080 s112082 s112087 = some s96172 ∧ a = fr 182 f ∧ f 3 = (.pointer (some ⟨g64160, 0, none⟩)) ∧ f 4 = (.pointer (some ⟨g64166, 0, none⟩)) ∧ f 5 = (.pointer (some ⟨g64171, 0, none⟩)) ∧ f 6 = (.pointer (some ⟨g64188, 0, none⟩)) ∧ f 7 = (.pointer (some ⟨g64202, 0, none⟩)) ∧ f 8 = (.int .i64 s112087) ∧ OwF 3 (FK.int .i64) v112071 s112070 h112072 ∧ OwF 3 (FK.int .i64) v112075 s112074 h112076 ∧ OwF 3 (FK.int .i64) v112083 s112082 h112084 ∧ Mem w0 w (cat [sg g64160 74 (0, 0) [] [(.int .i64 a1.Kind), (.int .i64 a1.N)] [], sg g64166 65 (0, 0) [] [(.int .i64 0), (.bool false), (.slice none 0 0), (.slice none 0 0), (.int .i64 0), (.int .i64 0), (.int .i64 0), (.int .i64 0)] [], sg g64171 71 (0, 0) [] [(.int .i64 0), (.slice none 0 0)] [], sg g64188 65 (0, 0) [] [(.int .i64 r64175.Size), (.bool r64175.Up), v112071, v112075, (.int .i64 s112078), (.int .i64 s112079), (.int .i64 r64175.Every), (.int .i64 s112080)] [], sg g64202 71 (0, 0) [] [(.int .i64 0), v112083] [], h112072, h112076, h112084, hF])) F _ _ ⟨r64175.Posted, r64175.Done, r64175.Lost, r64175.Pending, r64175.Signals, ([] : List Int), 0, v64177, h64179, v64181, h64183, (.slice (some ⟨g64197, 0, none⟩) 0 0), (sg g64197 3 (0, 0) [] (encs (FK.int .i64) ([] : List Int)) []), _, he, rfl, rfl, rfl, rfl, rfl, rfl, rfl, H64178, H64182, H64198, Mem.pick [7, 6, 5, 2, 0, 3, 4, 1, 8] rfl hm96221⟩ ?_ ?_
     ·
      rintro a w ⟨s112070, s112074, s112078, s112079, s112080, s112082, s112087, v112071, h112072, v112075, h112076, v112083, h112084, f, he, rfl, q112067, q112068, q112069, q112081, q112086, q112088, H112073, H112077, H112085, hm120068⟩
      rw [spec_l13Step_l1] at he; exact none_no he
     ·
      rintro k a w ⟨s112070, s112074, s112078, s112079, s112080, s112082, s112087, v112071, h112072, v112075, h112076, v112083, h112084, f, he, rfl, q112067, q112068, q112069, q112081, q112086, q112088, H112073, H112077, H112085, hm120070⟩
      rw [spec_l13Step_l1] at he
      refine wp_seq ?_
      refine wp_seq ?_
      refine wp_region_lit ?_
      refine s_val (v := (.int .i64 s112087)) (won rfl) rfl rfl (x_move rfl (ev (t := 8) (v := (.int .i64 s112087)) rfl q112088)) ?_
      refine s_val (v := (.pointer (some ⟨g64160, 1, none⟩))) (won rfl) rfl rfl (x_field rfl fa_74x1 (ev (t := 3) (v := (.pointer (some ⟨g64160, 0, none⟩))) rfl q112067)) ?_
      refine s_val (v := (.int .i64 a1.N)) (won rfl) rfl rfl (x_load rfl ty1x3 (ev (t := 66) rfl rfl) (seg_cell (o' := 0) (j := 1) hm120070 (k := 0) rfl rfl rfl)) ?_
      refine s_val (v := (.bool (decide (s112087 < a1.N)))) (won rfl) rfl rfl (x_lss rfl (ev (t := 65) rfl rfl) (ev (t := 67) rfl rfl)) ?_
      refine wpList_nil ?_
      refine nx ?_
      rcases Bool.eq_false_or_eq_true ((decide (s112087 < a1.N))) with hb120072 | hb120072
      ·
       replace he := bifT he hb120072
       refine c_true rfl (p := (decide (s112087 < a1.N))) rfl rfl hb120072 ?_
       refine wp_skip ?_
       refine nx ?_
       obtain ⟨s124089, hT124091, hk124090⟩ := bindE he
       replace he := hT124091
       refine wp_seqJ (fun a w => ∃ (v124070 : Value) (h124071 : Hp) (v124075 : Value) (h124076 : Hp) (v124084 : Value) (h124085 : Hp) (f : Nat → Value), a = fr 182 f ∧ f 3 = (.pointer (some ⟨g64160, 0, none⟩)) ∧ f 4 = (.pointer (some ⟨g64166, 0, none⟩)) ∧ f 5 = (.pointer (some ⟨g64171, 0, none⟩)) ∧ f 6 = (.pointer (some ⟨g64188, 0, none⟩)) ∧ f 7 = (.pointer (some ⟨g64202, 0, none⟩)) ∧ f 8 = (.int .i64 s112087) ∧ OwF 3 (FK.int .i64) v124070 s124089.1 h124071 ∧ OwF 3 (FK.int .i64) v124075 s124089.2.1 h124076 ∧ OwF 3 (FK.int .i64) v124084 s124089.2.2.2.2.2 h124085 ∧ Mem w0 w (cat [sg g64160 74 (0, 0) [] [(.int .i64 a1.Kind), (.int .i64 a1.N)] [], sg g64166 65 (0, 0) [] [(.int .i64 0), (.bool false), (.slice none 0 0), (.slice none 0 0), (.int .i64 0), (.int .i64 0), (.int .i64 0), (.int .i64 0)] [], sg g64171 71 (0, 0) [] [(.int .i64 0), (.slice none 0 0)] [], sg g64188 65 (0, 0) [] [(.int .i64 r64175.Size), (.bool r64175.Up), v124070, v124075, (.int .i64 s124089.2.2.1), (.int .i64 s124089.2.2.2.1), (.int .i64 r64175.Every), (.int .i64 s124089.2.2.2.2.1)] [], sg g64202 71 (0, 0) [] [(.int .i64 0), v124084] [], h124071, h124076, h124085, hF])) ?_ ?_
       ·
        refine wp_block ?_
        refine wp_seq ?_
        refine wp_seq ?_
        refine wp_region_lit ?_
        refine s_val (v := (.pointer (some ⟨g64188, 1, none⟩))) (won rfl) rfl rfl (x_field rfl fa_65x1 (ev (t := 6) (v := (.pointer (some ⟨g64188, 0, none⟩))) rfl q112081)) ?_
        refine s_val (v := (.bool r64175.Up)) (won rfl) rfl rfl (x_load rfl ty1x4 (ev (t := 71) rfl rfl) (seg_cell (o' := 0) (j := 1) hm120070 (k := 3) rfl rfl rfl)) ?_
        refine s_val (v := (.bool (!r64175.Up))) (won rfl) rfl rfl (x_not rfl (ev (t := 72) rfl rfl)) ?_
        refine s_val (v := (.bool (!r64175.Up))) (won rfl) rfl rfl (x_move rfl (ev (t := 73) rfl rfl)) ?_
        refine s_cval (p := (!(!r64175.Up))) (v := (.pointer (some ⟨g64188, 2, none⟩))) (won_f (j := 3) (t := 74) (q := (!r64175.Up)) rfl rfl rfl rfl rfl) rfl rfl (fun hp => (x_field rfl fa_65x2 (ev (t := 6) (v := (.pointer (some ⟨g64188, 0, none⟩))) rfl q112081))) ?_
        refine s_cval (p := (!(!r64175.Up))) (v := v112071) (won_f (j := 3) (t := 74) (q := (!r64175.Up)) rfl rfl rfl rfl rfl) rfl rfl (fun hp => (x_load rfl ty1x26 (ev (t := 75) rfl (Eq.trans (b := cv (!(!r64175.Up)) (.pointer (some ⟨g64188, 2, none⟩))) rfl (on_c hp))) (seg_cell (o' := 0) (j := 2) hm120070 (k := 3) rfl rfl rfl))) ?_
        refine s_cval (p := (!(!r64175.Up))) (v := (.int .i64 (s112070.length : Int))) (won_f (j := 3) (t := 74) (q := (!r64175.Up)) rfl rfl rfl rfl rfl) rfl rfl (fun hp => (x_len rfl slt_26 (ev (t := 76) rfl (Eq.trans (b := cv (!(!r64175.Up)) v112071) rfl (on_c hp))) (H112073).sl)) ?_
        refine s_cval (p := (!(!r64175.Up))) (v := (.bool (decide ((s112070.length : Int) = 0)))) (won_f (j := 3) (t := 74) (q := (!r64175.Up)) rfl rfl rfl rfl rfl) rfl rfl (fun hp => (x_eql rfl (ev (t := 77) rfl (Eq.trans (b := cv (!(!r64175.Up)) (.int .i64 (s112070.length : Int))) rfl (on_c hp))) rfl)) ?_
        refine s_val (v := (.bool ((!r64175.Up) || (decide ((s112070.length : Int) = 0))))) (won rfl) rfl rfl (x_pick_or rfl (ev (t := 74) rfl rfl) rfl (fun hq => ev rfl (Eq.trans (b := cv (!(!r64175.Up)) (.bool (decide ((s112070.length : Int) = 0)))) rfl (on_c (not_i hq))))) ?_
        refine wpList_nil ?_
        refine nx ?_
        rcases Bool.eq_false_or_eq_true (((!r64175.Up) || (decide ((s112070.length : Int) = 0)))) with hb124095 | hb124095
        ·
         replace he := bifT he hb124095
         refine c_true rfl (p := ((!r64175.Up) || (decide ((s112070.length : Int) = 0)))) rfl rfl hb124095 ?_
         refine wp_seq ?_
         refine wp_region_lit ?_
         refine s_val (v := (.pointer (some ⟨g64188, 4, none⟩))) (won rfl) rfl rfl (x_field rfl fa_65x4 (ev (t := 6) (v := (.pointer (some ⟨g64188, 0, none⟩))) rfl q112081)) ?_
         refine s_val (v := (.int .i64 s112078)) (won rfl) rfl rfl (x_load rfl ty1x3 (ev (t := 80) rfl rfl) (seg_cell (o' := 0) (j := 4) hm120070 (k := 3) rfl rfl rfl)) ?_
         refine s_val (v := (.int .i64 (IntKind.wrap .i64 (s112078 + 1)))) (won rfl) rfl rfl (x_add rfl (ev (t := 81) rfl rfl) rfl) ?_
         refine s_val (v := (.int .i64 (iMin (IntKind.wrap .i64 (s112078 + 1)) 1000000000))) (won rfl) rfl rfl (x_min rfl (ev (t := 82) rfl rfl) rfl) ?_
         refine s_val (v := (.pointer (some ⟨g64188, 4, none⟩))) (won rfl) rfl rfl (x_field rfl fa_65x4 (ev (t := 6) (v := (.pointer (some ⟨g64188, 0, none⟩))) rfl q112081)) ?_
         refine s_exs (won rfl) rfl (e_store (vs := [(.int .i64 (iMin (IntKind.wrap .i64 (s112078 + 1)) 1000000000))]) (o' := 0) (j := 4) rfl sz_3 (ev (t := 84) rfl rfl) (ev (t := 83) rfl rfl) rfl rfl hm120070 (k := 3) rfl rfl rfl) ?_
         intro w124096 hm124097
         replace hm124097 : Mem w0 w124096 (cat [sg g64160 74 (0, 0) [] [(.int .i64 a1.Kind), (.int .i64 a1.N)] [], sg g64166 65 (0, 0) [] [(.int .i64 0), (.bool false), (.slice none 0 0), (.slice none 0 0), (.int .i64 0), (.int .i64 0), (.int .i64 0), (.int .i64 0)] [], sg g64171 71 (0, 0) [] [(.int .i64 0), (.slice none 0 0)] [], sg g64188 65 (0, 0) [] [(.int .i64 r64175.Size), (.bool r64175.Up), v112071, v112075, (.int .i64 (iMin (IntKind.wrap .i64 (s112078 + 1)) 1000000000)), (.int .i64 s112079), (.int .i64 r64175.Every), (.int .i64 s112080)] [], sg g64202 71 (0, 0) [] [(.int .i64 0), v112083] [], h112072, h112076, h112084, hF]) := hm124097
         refine wpList_nil ?_
         refine nx ?_
         refine wp_exit ?_
         refine xs ?_
         refine xb ?_
         refine nx ?_
         obtain rfl := Option.some.inj he
         exact ⟨v112071, h112072, v112075, h112076, v112083, h112084, _, rfl, q112067, q112068, q112069, q112081, q112086, q112088, H112073, H112077, H112085, Mem.pick [0, 1, 2, 3, 4, 5, 6, 7, 8] rfl hm124097⟩
        ·
         replace he := bifF he hb124095
         refine c_false rfl (p := ((!r64175.Up) || (decide ((s112070.length : Int) = 0)))) rfl rfl hb124095 ?_
         refine wp_skip ?_
         refine nx ?_
         refine wp_seq ?_
         obtain ⟨hg125401, he⟩ := gdE he
         obtain ⟨hg125701, he⟩ := gdE he
         obtain ⟨hz125000, hze125000⟩ : ∃ hz : Hp, hz = cat [sg g64160 74 (0, 0) [] [(.int .i64 a1.Kind), (.int .i64 a1.N)] [], sg g64166 65 (0, 0) [] [(.int .i64 0), (.bool false), (.slice none 0 0), (.slice none 0 0), (.int .i64 0), (.int .i64 0), (.int .i64 0), (.int .i64 0)] [], sg g64171 71 (0, 0) [] [(.int .i64 0), (.slice none 0 0)] [], h112076, hF] := ⟨_, rfl⟩
         have hm125000 : Mem w0 w (cat [sg g64188 65 (0, 0) [] [(.int .i64 r64175.Size), (.bool r64175.Up), v112071, v112075, (.int .i64 s112078), (.int .i64 s112079), (.int .i64 r64175.Every), (.int .i64 s112080)] [], sg g64202 71 (0, 0) [] [(.int .i64 0), v112083] [], h112072, h112084, hz125000]) := by rw [hze125000]; exact Mem.grp [sg g64188 65 (0, 0) [] [(.int .i64 r64175.Size), (.bool r64175.Up), v112071, v112075, (.int .i64 s112078), (.int .i64 s112079), (.int .i64 r64175.Every), (.int .i64 s112080)] [], sg g64202 71 (0, 0) [] [(.int .i64 0), v112083] [], h112072, h112084] [sg g64160 74 (0, 0) [] [(.int .i64 a1.Kind), (.int .i64 a1.N)] [], sg g64166 65 (0, 0) [] [(.int .i64 0), (.bool false), (.slice none 0 0), (.slice none 0 0), (.int .i64 0), (.int .i64 0), (.int .i64 0), (.int .i64 0)] [], sg g64171 71 (0, 0) [] [(.int .i64 0), (.slice none 0 0)] [], h112076, hF] (Mem.pick [3, 4, 5, 7, 0, 1, 2, 6, 8] rfl hm120070)
         refine wp_drawF (I := fun f b a w => ∃ (vs : Nat → Value) (g125603 : Nat) (p125703 : Value × Hp), a = fr 182 (sel b [(0, 85), (1, 86), (2, 87), (3, 88), (4, 89), (5, 90), (6, 91), (7, 92), (8, 93)] vs f) ∧ (b 0 = true → vs 0 = (.pointer (some ⟨g64202, 1, none⟩))) ∧ (b 1 = true → vs 1 = v112083) ∧ (b 2 = true → vs 2 = (.pointer (some ⟨g64188, 2, none⟩))) ∧ (b 3 = true → vs 3 = v112071) ∧ (b 4 = true → vs 4 = (.pointer (some ((slA v112071).add (Int.toNat 0 * 1))))) ∧ (b 5 = true → vs 5 = (.int .i64 (ix s112070 0))) ∧ (b 6 = true → vs 6 = (.slice (some ⟨g125603, 0, none⟩) 1 1)) ∧ (b 7 = true → vs 7 = p125703.1) ∧ (b 8 = true → vs 8 = (.pointer (some ⟨g64202, 1, none⟩))) ∧ (b 6 = true → OwF 3 (FK.int .i64) (.slice (some ⟨g125603, 0, none⟩) 1 1) ([(ix s112070 0)] : List Int) (sg g125603 3 (0, 0) [] (encs (FK.int .i64) ([(ix s112070 0)] : List Int)) [])) ∧ (b 7 = true → OwF 3 (FK.int .i64) p125703.1 (s112082 ++ ([(ix s112070 0)] : List Int)) p125703.2) ∧ Mem w0 w (cat [sg g64188 65 (0, 0) [] [(.int .i64 r64175.Size), (.bool r64175.Up), v112071, v112075, (.int .i64 s112078), (.int .i64 s112079), (.int .i64 r64175.Every), (.int .i64 s112080)] [], (bif b 9 then sg g64202 71 (0, 0) [] [(.int .i64 0), p125703.1] [] else sg g64202 71 (0, 0) [] [(.int .i64 0), v112083] []), h112072, (bif b 7 then [] else h112084), hz125000, (bif b 6 then (sg g125603 3 (0, 0) [] (encs (FK.int .i64) ([(ix s112070 0)] : List Int)) []) else []), (bif b 7 then p125703.2 else [])])) mixed (by kernel_rfl) ⟨fun _ => undef, 0, (undef, []), (by rw [sel_false]), fun h => fno h, fun h => fno h, fun h => fno h, fun h => fno h, fun h => fno h, fun h => fno h, fun h => fno h, fun h => fno h, fun h => fno h, fun h => fno h, fun h => fno h, Mem.drew (Mem.pick [0, 1, 2, 3, 4, 1000, 1001] rfl hm125000)⟩ (steps_cons (i := 0) ?_ (steps_cons (i := 1) ?_ (steps_cons (i := 2) ?_ (steps_cons (i := 3) ?_ (steps_cons (i := 4) ?_ (steps_cons (i := 5) ?_ (steps_cons (i := 6) ?_ (steps_cons (i := 7) ?_ (steps_cons (i := 8) ?_ (steps_cons (i := 9) ?_ steps_nil)))))))))) ?_
         ·
          intro b a w hI hbi hn hc K hK
          obtain ⟨vs, g125603, p125703, ha, y0, y1, y2, y3, y4, y5, y6, y7, y8, H125604, H125704, hm⟩ := hI
          subst ha
          have b1 : b 1 = false := later (j := 1) hc rfl (i := 0) (da rfl) hbi
          have b7 : b 7 = false := later (j := 7) hc rfl (i := 1) (da rfl) b1
          have b8 : b 8 = false := later (j := 8) hc rfl (i := 0) (da rfl) hbi
          have b9 : b 9 = false := later (j := 9) hc rfl (i := 0) (da rfl) hbi
          have hm126001 : Mem w0 w (cat [sg g64188 65 (0, 0) [] [(.int .i64 r64175.Size), (.bool r64175.Up), v112071, v112075, (.int .i64 s112078), (.int .i64 s112079), (.int .i64 r64175.Every), (.int .i64 s112080)] [], sg g64202 71 (0, 0) [] [(.int .i64 0), v112083] [], h112072, h112084, hz125000, (bif b 6 then (sg g125603 3 (0, 0) [] (encs (FK.int .i64) ([(ix s112070 0)] : List Int)) []) else [])]) := Mem.pick [0, 1, 2, 3, 4, 5] rfl (Mem.cg (B := [sg g64188 65 (0, 0) [] [(.int .i64 r64175.Size), (.bool r64175.Up), v112071, v112075, (.int .i64 s112078), (.int .i64 s112079), (.int .i64 r64175.Every), (.int .i64 s112080)] [], sg g64202 71 (0, 0) [] [(.int .i64 0), v112083] [], h112072, h112084, hz125000, (bif b 6 then (sg g125603 3 (0, 0) [] (encs (FK.int .i64) ([(ix s112070 0)] : List Int)) []) else []), []]) (cat_cons rfl (cat_cons (off_ b9 rfl) (cat_cons rfl (cat_cons (off_ b7 rfl) (cat_cons rfl (cat_cons rfl (cat_cons (off_ b7 rfl) rfl))))))) hm)
          refine e_val (i := 0) hbi rfl rfl (v := (.pointer (some ⟨g64202, 1, none⟩))) (won rfl) rfl rfl (x_field rfl fa_71x1 (ev (t := 7) (v := (.pointer (some ⟨g64202, 0, none⟩))) rfl ((sel_no rfl).trans q112086))) ?_
          exact hK _ _ ⟨_, g125603, p125703, rfl, fun _ => rfl, y1, y2, y3, y4, y5, y6, y7, y8, H125604, H125704, Mem.gc (A := [sg g64188 65 (0, 0) [] [(.int .i64 r64175.Size), (.bool r64175.Up), v112071, v112075, (.int .i64 s112078), (.int .i64 s112079), (.int .i64 r64175.Every), (.int .i64 s112080)] [], sg g64202 71 (0, 0) [] [(.int .i64 0), v112083] [], h112072, h112084, hz125000, (bif b 6 then (sg g125603 3 (0, 0) [] (encs (FK.int .i64) ([(ix s112070 0)] : List Int)) []) else []), []]) (cat_cons rfl (cat_cons (off_ b9 rfl) (cat_cons rfl (cat_cons (off_ b7 rfl) (cat_cons rfl (cat_cons rfl (cat_cons (off_ b7 rfl) rfl))))))) (Mem.pick [0, 1, 2, 3, 4, 5, 1006] rfl hm126001)⟩
         ·
          intro b a w hI hbi hn hc K hK
          obtain ⟨vs, g125603, p125703, ha, y0, y1, y2, y3, y4, y5, y6, y7, y8, H125604, H125704, hm⟩ := hI
          subst ha
          have b0 : b 0 = true := hn 0 (da rfl)
          have b7 : b 7 = false := later (j := 7) hc rfl (i := 1) (da rfl) hbi
          have b8 : b 8 = false := later (j := 8) hc rfl (i := 1) (da rfl) hbi
          have b9 : b 9 = false := later (j := 9) hc rfl (i := 1) (da rfl) hbi
          have hm126004 : Mem w0 w (cat [sg g64188 65 (0, 0) [] [(.int .i64 r64175.Size), (.bool r64175.Up), v112071, v112075, (.int .i64 s112078), (.int .i64 s112079), (.int .i64 r64175.Every), (.int .i64 s112080)] [], sg g64202 71 (0, 0) [] [(.int .i64 0), v112083] [], h112072, h112084, hz125000, (bif b 6 then (sg g125603 3 (0, 0) [] (encs (FK.int .i64) ([(ix s112070 0)] : List Int)) []) else [])]) := Mem.pick [0, 1, 2, 3, 4, 5] rfl (Mem.cg (B := [sg g64188 65 (0, 0) [] [(.int .i64 r64175.Size), (.bool r64175.Up), v112071, v112075, (.int .i64 s112078), (.int .i64 s112079), (.int .i64 r64175.Every), (.int .i64 s112080)] [], sg g64202 71 (0, 0) [] [(.int .i64 0), v112083] [], h112072, h112084, hz125000, (bif b 6 then (sg g125603 3 (0, 0) [] (encs (FK.int .i64) ([(ix s112070 0)] : List Int)) []) else []), []]) (cat_cons rfl (cat_cons (off_ b9 rfl) (cat_cons rfl (cat_cons (off_ b7 rfl) (cat_cons rfl (cat_cons rfl (cat_cons (off_ b7 rfl) rfl))))))) hm)
          refine e_val (i := 1) hbi rfl rfl (v := v112083) (won rfl) rfl rfl (x_load rfl ty1x26 (ev (t := 85) (v := (.pointer (some ⟨g64202, 1, none⟩))) rfl ((sel_on (p := (0, 85)) rfl b0).trans (y0 b0))) (seg_cell (o' := 0) (j := 1) hm126004 (k := 1) rfl rfl rfl)) ?_
          exact hK _ _ ⟨_, g125603, p125703, rfl, y0, fun _ => rfl, y2, y3, y4, y5, y6, y7, y8, H125604, H125704, Mem.gc (A := [sg g64188 65 (0, 0) [] [(.int .i64 r64175.Size), (.bool r64175.Up), v112071, v112075, (.int .i64 s112078), (.int .i64 s112079), (.int .i64 r64175.Every), (.int .i64 s112080)] [], sg g64202 71 (0, 0) [] [(.int .i64 0), v112083] [], h112072, h112084, hz125000, (bif b 6 then (sg g125603 3 (0, 0) [] (encs (FK.int .i64) ([(ix s112070 0)] : List Int)) []) else []), []]) (cat_cons rfl (cat_cons (off_ b9 rfl) (cat_cons rfl (cat_cons (off_ b7 rfl) (cat_cons rfl (cat_cons rfl (cat_cons (off_ b7 rfl) rfl))))))) (Mem.pick [0, 1, 2, 3, 4, 5, 1006] rfl hm126004)⟩
         ·
          intro b a w hI hbi hn hc K hK
          obtain ⟨vs, g125603, p125703, ha, y0, y1, y2, y3, y4, y5, y6, y7, y8, H125604, H125704, hm⟩ := hI
          subst ha
          have b3 : b 3 = false := later (j := 3) hc rfl (i := 2) (da rfl) hbi
          have b4 : b 4 = false := later (j := 4) hc rfl (i := 3) (da rfl) b3
          have b5 : b 5 = false := later (j := 5) hc rfl (i := 4) (da rfl) b4
          have b6 : b 6 = false := later (j := 6) hc rfl (i := 5) (da rfl) b5
          have b7 : b 7 = false := later (j := 7) hc rfl (i := 6) (da rfl) b6
          have b8 : b 8 = false := later (j := 8) hc rfl (i := 2) (da rfl) hbi
          have b9 : b 9 = false := later (j := 9) hc rfl (i := 2) (da rfl) hbi
          have hm126007 : Mem w0 w (cat [sg g64188 65 (0, 0) [] [(.int .i64 r64175.Size), (.bool r64175.Up), v112071, v112075, (.int .i64 s112078), (.int .i64 s112079), (.int .i64 r64175.Every), (.int .i64 s112080)] [], sg g64202 71 (0, 0) [] [(.int .i64 0), v112083] [], h112072, h112084, hz125000]) := Mem.pick [0, 1, 2, 3, 4] rfl (Mem.cg (B := [sg g64188 65 (0, 0) [] [(.int .i64 r64175.Size), (.bool r64175.Up), v112071, v112075, (.int .i64 s112078), (.int .i64 s112079), (.int .i64 r64175.Every), (.int .i64 s112080)] [], sg g64202 71 (0, 0) [] [(.int .i64 0), v112083] [], h112072, h112084, hz125000, [], []]) (cat_cons rfl (cat_cons (off_ b9 rfl) (cat_cons rfl (cat_cons (off_ b7 rfl) (cat_cons rfl (cat_cons (off_ b6 rfl) (cat_cons (off_ b7 rfl) rfl))))))) hm)
          refine e_val (i := 2) hbi rfl rfl (v := (.pointer (some ⟨g64188, 2, none⟩))) (won rfl) rfl rfl (x_field rfl fa_65x2 (ev (t := 6) (v := (.pointer (some ⟨g64188, 0, none⟩))) rfl ((sel_no rfl).trans q112081))) ?_
          exact hK _ _ ⟨_, g125603, p125703, rfl, y0, y1, fun _ => rfl, y3, y4, y5, y6, y7, y8, H125604, H125704, Mem.gc (A := [sg g64188 65 (0, 0) [] [(.int .i64 r64175.Size), (.bool r64175.Up), v112071, v112075, (.int .i64 s112078), (.int .i64 s112079), (.int .i64 r64175.Every), (.int .i64 s112080)] [], sg g64202 71 (0, 0) [] [(.int .i64 0), v112083] [], h112072, h112084, hz125000, [], []]) (cat_cons rfl (cat_cons (off_ b9 rfl) (cat_cons rfl (cat_cons (off_ b7 rfl) (cat_cons rfl (cat_cons (off_ b6 rfl) (cat_cons (off_ b7 rfl) rfl))))))) (Mem.pick [0, 1, 2, 3, 4, 1005, 1006] rfl hm126007)⟩
         ·
          intro b a w hI hbi hn hc K hK
          obtain ⟨vs, g125603, p125703, ha, y0, y1, y2, y3, y4, y5, y6, y7, y8, H125604, H125704, hm⟩ := hI
          subst ha
          have b2 : b 2 = true := hn 2 (da rfl)
          have b4 : b 4 = false := later (j := 4) hc rfl (i := 3) (da rfl) hbi
          have b5 : b 5 = false := later (j := 5) hc rfl (i := 4) (da rfl) b4
          have b6 : b 6 = false := later (j := 6) hc rfl (i := 5) (da rfl) b5
          have b7 : b 7 = false := later (j := 7) hc rfl (i := 6) (da rfl) b6
          have b8 : b 8 = false := later (j := 8) hc rfl (i := 3) (da rfl) hbi
          have b9 : b 9 = false := later (j := 9) hc rfl (i := 3) (da rfl) hbi
          have hm126010 : Mem w0 w (cat [sg g64188 65 (0, 0) [] [(.int .i64 r64175.Size), (.bool r64175.Up), v112071, v112075, (.int .i64 s112078), (.int .i64 s112079), (.int .i64 r64175.Every), (.int .i64 s112080)] [], sg g64202 71 (0, 0) [] [(.int .i64 0), v112083] [], h112072, h112084, hz125000]) := Mem.pick [0, 1, 2, 3, 4] rfl (Mem.cg (B := [sg g64188 65 (0, 0) [] [(.int .i64 r64175.Size), (.bool r64175.Up), v112071, v112075, (.int .i64 s112078), (.int .i64 s112079), (.int .i64 r64175.Every), (.int .i64 s112080)] [], sg g64202 71 (0, 0) [] [(.int .i64 0), v112083] [], h112072, h112084, hz125000, [], []]) (cat_cons rfl (cat_cons (off_ b9 rfl) (cat_cons rfl (cat_cons (off_ b7 rfl) (cat_cons rfl (cat_cons (off_ b6 rfl) (cat_cons (off_ b7 rfl) rfl))))))) hm)
          refine e_val (i := 3) hbi rfl rfl (v := v112071) (won rfl) rfl rfl (x_load rfl ty1x26 (ev (t := 87) (v := (.pointer (some ⟨g64188, 2, none⟩))) rfl ((sel_on (p := (2, 87)) rfl b2).trans (y2 b2))) (seg_cell (o' := 0) (j := 2) hm126010 (k := 0) rfl rfl rfl)) ?_
          exact hK _ _ ⟨_, g125603, p125703, rfl, y0, y1, y2, fun _ => rfl, y4, y5, y6, y7, y8, H125604, H125704, Mem.gc (A := [sg g64188 65 (0, 0) [] [(.int .i64 r64175.Size), (.bool r64175.Up), v112071, v112075, (.int .i64 s112078), (.int .i64 s112079), (.int .i64 r64175.Every), (.int .i64 s112080)] [], sg g64202 71 (0, 0) [] [(.int .i64 0), v112083] [], h112072, h112084, hz125000, [], []]) (cat_cons rfl (cat_cons (off_ b9 rfl) (cat_cons rfl (cat_cons (off_ b7 rfl) (cat_cons rfl (cat_cons (off_ b6 rfl) (cat_cons (off_ b7 rfl) rfl))))))) (Mem.pick [0, 1, 2, 3, 4, 1005, 1006] rfl hm126010)⟩
         ·
          intro b a w hI hbi hn hc K hK
          obtain ⟨vs, g125603, p125703, ha, y0, y1, y2, y3, y4, y5, y6, y7, y8, H125604, H125704, hm⟩ := hI
          subst ha
          have b3 : b 3 = true := hn 3 (da rfl)
          have b2 : b 2 = true := hc 3 _ rfl b3 2 (da rfl)
          have b5 : b 5 = false := later (j := 5) hc rfl (i := 4) (da rfl) hbi
          have b6 : b 6 = false := later (j := 6) hc rfl (i := 5) (da rfl) b5
          have b7 : b 7 = false := later (j := 7) hc rfl (i := 6) (da rfl) b6
          have b8 : b 8 = false := later (j := 8) hc rfl (i := 4) (da rfl) hbi
          have b9 : b 9 = false := later (j := 9) hc rfl (i := 4) (da rfl) hbi
          have hm126013 : Mem w0 w (cat [sg g64188 65 (0, 0) [] [(.int .i64 r64175.Size), (.bool r64175.Up), v112071, v112075, (.int .i64 s112078), (.int .i64 s112079), (.int .i64 r64175.Every), (.int .i64 s112080)] [], sg g64202 71 (0, 0) [] [(.int .i64 0), v112083] [], h112072, h112084, hz125000]) := Mem.pick [0, 1, 2, 3, 4] rfl (Mem.cg (B := [sg g64188 65 (0, 0) [] [(.int .i64 r64175.Size), (.bool r64175.Up), v112071, v112075, (.int .i64 s112078), (.int .i64 s112079), (.int .i64 r64175.Every), (.int .i64 s112080)] [], sg g64202 71 (0, 0) [] [(.int .i64 0), v112083] [], h112072, h112084, hz125000, [], []]) (cat_cons rfl (cat_cons (off_ b9 rfl) (cat_cons rfl (cat_cons (off_ b7 rfl) (cat_cons rfl (cat_cons (off_ b6 rfl) (cat_cons (off_ b7 rfl) rfl))))))) hm)
          refine e_val (i := 4) hbi rfl rfl (v := (.pointer (some ((slA v112071).add (Int.toNat 0 * 1))))) (won rfl) rfl rfl (x_index (d := (FK.int .i64)) rfl slt_26 (ev (t := 88) (v := v112071) rfl ((sel_on (p := (3, 88)) rfl b3).trans (y3 b3))) rfl (H112073.rd w0) hg125401.1 hg125401.2) ?_
          exact hK _ _ ⟨_, g125603, p125703, rfl, y0, y1, y2, y3, fun _ => rfl, y5, y6, y7, y8, H125604, H125704, Mem.gc (A := [sg g64188 65 (0, 0) [] [(.int .i64 r64175.Size), (.bool r64175.Up), v112071, v112075, (.int .i64 s112078), (.int .i64 s112079), (.int .i64 r64175.Every), (.int .i64 s112080)] [], sg g64202 71 (0, 0) [] [(.int .i64 0), v112083] [], h112072, h112084, hz125000, [], []]) (cat_cons rfl (cat_cons (off_ b9 rfl) (cat_cons rfl (cat_cons (off_ b7 rfl) (cat_cons rfl (cat_cons (off_ b6 rfl) (cat_cons (off_ b7 rfl) rfl))))))) (Mem.pick [0, 1, 2, 3, 4, 1005, 1006] rfl hm126013)⟩
         ·
          intro b a w hI hbi hn hc K hK
          obtain ⟨vs, g125603, p125703, ha, y0, y1, y2, y3, y4, y5, y6, y7, y8, H125604, H125704, hm⟩ := hI
          subst ha
          have b4 : b 4 = true := hn 4 (da rfl)
          have b3 : b 3 = true := hc 4 _ rfl b4 3 (da rfl)
          have b2 : b 2 = true := hc 3 _ rfl b3 2 (da rfl)
          have b6 : b 6 = false := later (j := 6) hc rfl (i := 5) (da rfl) hbi
          have b7 : b 7 = false := later (j := 7) hc rfl (i := 6) (da rfl) b6
          have b8 : b 8 = false := later (j := 8) hc rfl (i := 5) (da rfl) hbi
          have b9 : b 9 = false := later (j := 9) hc rfl (i := 5) (da rfl) hbi
          have hm126016 : Mem w0 w (cat [sg g64188 65 (0, 0) [] [(.int .i64 r64175.Size), (.bool r64175.Up), v112071, v112075, (.int .i64 s112078), (.int .i64 s112079), (.int .i64 r64175.Every), (.int .i64 s112080)] [], sg g64202 71 (0, 0) [] [(.int .i64 0), v112083] [], h112072, h112084, hz125000]) := Mem.pick [0, 1, 2, 3, 4] rfl (Mem.cg (B := [sg g64188 65 (0, 0) [] [(.int .i64 r64175.Size), (.bool r64175.Up), v112071, v112075, (.int .i64 s112078), (.int .i64 s112079), (.int .i64 r64175.Every), (.int .i64 s112080)] [], sg g64202 71 (0, 0) [] [(.int .i64 0), v112083] [], h112072, h112084, hz125000, [], []]) (cat_cons rfl (cat_cons (off_ b9 rfl) (cat_cons rfl (cat_cons (off_ b7 rfl) (cat_cons rfl (cat_cons (off_ b6 rfl) (cat_cons (off_ b7 rfl) rfl))))))) hm)
          refine e_val (i := 5) hbi rfl rfl (v := (.int .i64 (ix s112070 0))) (won rfl) rfl rfl (x_load rfl ty1x3 (ev (t := 89) (v := (.pointer (some ((slA v112071).add (Int.toNat 0 * 1))))) rfl ((sel_on (p := (4, 89)) rfl b4).trans (y4 b4))) (RdF.cell0 (H112073.rd w0) hm126016 (Sub.at_ (k := 2) rfl) hg125401.1 hg125401.2 rfl)) ?_
          exact hK _ _ ⟨_, g125603, p125703, rfl, y0, y1, y2, y3, y4, fun _ => rfl, y6, y7, y8, H125604, H125704, Mem.gc (A := [sg g64188 65 (0, 0) [] [(.int .i64 r64175.Size), (.bool r64175.Up), v112071, v112075, (.int .i64 s112078), (.int .i64 s112079), (.int .i64 r64175.Every), (.int .i64 s112080)] [], sg g64202 71 (0, 0) [] [(.int .i64 0), v112083] [], h112072, h112084, hz125000, [], []]) (cat_cons rfl (cat_cons (off_ b9 rfl) (cat_cons rfl (cat_cons (off_ b7 rfl) (cat_cons rfl (cat_cons (off_ b6 rfl) (cat_cons (off_ b7 rfl) rfl))))))) (Mem.pick [0, 1, 2, 3, 4, 1005, 1006] rfl hm126016)⟩
         ·
          intro b a w hI hbi hn hc K hK
          obtain ⟨vs, g125603, p125703, ha, y0, y1, y2, y3, y4, y5, y6, y7, y8, H125604, H125704, hm⟩ := hI
          subst ha
          have b5 : b 5 = true := hn 5 (da rfl)
          have b4 : b 4 = true := hc 5 _ rfl b5 4 (da rfl)
          have b3 : b 3 = true := hc 4 _ rfl b4 3 (da rfl)
          have b2 : b 2 = true := hc 3 _ rfl b3 2 (da rfl)
          have b7 : b 7 = false := later (j := 7) hc rfl (i := 6) (da rfl) hbi
          have b8 : b 8 = false := later (j := 8) hc rfl (i := 6) (da rfl) hbi
          have b9 : b 9 = false := later (j := 9) hc rfl (i := 6) (da rfl) hbi
          have hm126019 : Mem w0 w (cat [sg g64188 65 (0, 0) [] [(.int .i64 r64175.Size), (.bool r64175.Up), v112071, v112075, (.int .i64 s112078), (.int .i64 s112079), (.int .i64 r64175.Every), (.int .i64 s112080)] [], sg g64202 71 (0, 0) [] [(.int .i64 0), v112083] [], h112072, h112084, hz125000]) := Mem.pick [0, 1, 2, 3, 4] rfl (Mem.cg (B := [sg g64188 65 (0, 0) [] [(.int .i64 r64175.Size), (.bool r64175.Up), v112071, v112075, (.int .i64 s112078), (.int .i64 s112079), (.int .i64 r64175.Every), (.int .i64 s112080)] [], sg g64202 71 (0, 0) [] [(.int .i64 0), v112083] [], h112072, h112084, hz125000, [], []]) (cat_cons rfl (cat_cons (off_ b9 rfl) (cat_cons rfl (cat_cons (off_ b7 rfl) (cat_cons rfl (cat_cons (off_ hbi rfl) (cat_cons (off_ b7 rfl) rfl))))))) hm)
          refine e_exv (i := 6) hbi rfl rfl (won rfl) rfl rfl (e_litp (cells := [(.int .i64 (ix s112070 0))]) (ps := [(0, (.int .i64 (ix s112070 0)))]) rfl slt_26 (pmap_lit (pmap_cons (ev (t := 90) (v := (.int .i64 (ix s112070 0))) rfl ((sel_on (p := (5, 90)) rfl b5).trans (y5 b5))) pmap_nil)) (fun w1 => run_bslicez (cells := [(.int .i64 (ix s112070 0))]) (zs := [.int .i64 0]) (zc := [.int .i64 0]) slt_26 rfl rfl (by kernel_rfl) (fill_cons (cs := [(.int .i64 (ix s112070 0))]) rfl rfl rfl fill_nil) (by decide)) hm126019) ?_
          rintro g125603 w125601 hm125602
          have H125604 : OwF 3 (FK.int .i64) (.slice (some ⟨g125603, 0, none⟩) 1 1) ([(ix s112070 0)] : List Int) (sg g125603 3 (0, 0) [] (encs (FK.int .i64) ([(ix s112070 0)] : List Int)) []) := OwF.lit g125603 ([(ix s112070 0)] : List Int) 1 rfl (by decide)
          replace hm125602 : Mem w0 w125601 (cat [(sg g125603 3 (0, 0) [] (encs (FK.int .i64) ([(ix s112070 0)] : List Int)) []), sg g64188 65 (0, 0) [] [(.int .i64 r64175.Size), (.bool r64175.Up), v112071, v112075, (.int .i64 s112078), (.int .i64 s112079), (.int .i64 r64175.Every), (.int .i64 s112080)] [], sg g64202 71 (0, 0) [] [(.int .i64 0), v112083] [], h112072, h112084, hz125000]) := hm125602
          exact hK _ _ ⟨_, g125603, p125703, rfl, y0, y1, y2, y3, y4, y5, fun _ => rfl, y7, y8, fun _ => H125604, H125704, Mem.gc (A := [sg g64188 65 (0, 0) [] [(.int .i64 r64175.Size), (.bool r64175.Up), v112071, v112075, (.int .i64 s112078), (.int .i64 s112079), (.int .i64 r64175.Every), (.int .i64 s112080)] [], sg g64202 71 (0, 0) [] [(.int .i64 0), v112083] [], h112072, h112084, hz125000, (sg g125603 3 (0, 0) [] (encs (FK.int .i64) ([(ix s112070 0)] : List Int)) []), []]) (cat_cons rfl (cat_cons (off_ b9 rfl) (cat_cons rfl (cat_cons (off_ b7 rfl) (cat_cons rfl (cat_cons (on_ rfl rfl) (cat_cons (off_ b7 rfl) rfl))))))) (Mem.pick [1, 2, 3, 4, 5, 0, 1006] rfl hm125602)⟩
         ·
          intro b a w hI hbi hn hc K hK
          obtain ⟨vs, g125603, p125703, ha, y0, y1, y2, y3, y4, y5, y6, y7, y8, H125604, H125704, hm⟩ := hI
          subst ha
          have b1 : b 1 = true := hn 1 (da rfl)
          have b6 : b 6 = true := hn 6 (da rfl)
          have b0 : b 0 = true := hc 1 _ rfl b1 0 (da rfl)
          have b5 : b 5 = true := hc 6 _ rfl b6 5 (da rfl)
          have b4 : b 4 = true := hc 5 _ rfl b5 4 (da rfl)
          have b3 : b 3 = true := hc 4 _ rfl b4 3 (da rfl)
          have b2 : b 2 = true := hc 3 _ rfl b3 2 (da rfl)
          have b8 : b 8 = false := later (j := 8) hc rfl (i := 7) (da rfl) hbi
          have b9 : b 9 = false := later (j := 9) hc rfl (i := 7) (da rfl) hbi
          have H125604 := H125604 b6
          have hm126022 : Mem w0 w (cat [sg g64188 65 (0, 0) [] [(.int .i64 r64175.Size), (.bool r64175.Up), v112071, v112075, (.int .i64 s112078), (.int .i64 s112079), (.int .i64 r64175.Every), (.int .i64 s112080)] [], sg g64202 71 (0, 0) [] [(.int .i64 0), v112083] [], h112072, h112084, hz125000, (sg g125603 3 (0, 0) [] (encs (FK.int .i64) ([(ix s112070 0)] : List Int)) [])]) := Mem.pick [0, 1, 2, 3, 4, 5] rfl (Mem.cg (B := [sg g64188 65 (0, 0) [] [(.int .i64 r64175.Size), (.bool r64175.Up), v112071, v112075, (.int .i64 s112078), (.int .i64 s112079), (.int .i64 r64175.Every), (.int .i64 s112080)] [], sg g64202 71 (0, 0) [] [(.int .i64 0), v112083] [], h112072, h112084, hz125000, (sg g125603 3 (0, 0) [] (encs (FK.int .i64) ([(ix s112070 0)] : List Int)) []), []]) (cat_cons rfl (cat_cons (off_ b9 rfl) (cat_cons rfl (cat_cons (off_ hbi rfl) (cat_cons rfl (cat_cons (on_ b6 rfl) (cat_cons (off_ hbi rfl) rfl))))))) hm)
          refine e_exv (i := 7) hbi rfl rfl (won rfl) rfl rfl (e_append (bytes := 8) rfl slt_26 rfl (ev (t := 86) (v := v112083) rfl ((sel_on (p := (1, 86)) rfl b1).trans (y1 b1))) (ev (t := 91) (v := (.slice (some ⟨g125603, 0, none⟩) 1 1)) rfl ((sel_on (p := (6, 91)) rfl b6).trans (y6 b6))) H112085 (k := 3) rfl (H125604.rd w0) (Sub.at_ (k := 5) rfl) hm126022 hg125701 (len63 hg125701 rfl)) ?_
          rintro p125703 w125705 ⟨H125704, hm125706⟩
          replace hm125706 : Mem w0 w125705 (cat [sg g64188 65 (0, 0) [] [(.int .i64 r64175.Size), (.bool r64175.Up), v112071, v112075, (.int .i64 s112078), (.int .i64 s112079), (.int .i64 r64175.Every), (.int .i64 s112080)] [], sg g64202 71 (0, 0) [] [(.int .i64 0), v112083] [], h112072, p125703.2, hz125000, (sg g125603 3 (0, 0) [] (encs (FK.int .i64) ([(ix s112070 0)] : List Int)) [])]) := hm125706
          exact hK _ _ ⟨_, g125603, p125703, rfl, y0, y1, y2, y3, y4, y5, y6, fun _ => rfl, y8, fun _ => H125604, fun _ => H125704, Mem.gc (A := [sg g64188 65 (0, 0) [] [(.int .i64 r64175.Size), (.bool r64175.Up), v112071, v112075, (.int .i64 s112078), (.int .i64 s112079), (.int .i64 r64175.Every), (.int .i64 s112080)] [], sg g64202 71 (0, 0) [] [(.int .i64 0), v112083] [], h112072, [], hz125000, (sg g125603 3 (0, 0) [] (encs (FK.int .i64) ([(ix s112070 0)] : List Int)) []), p125703.2]) (cat_cons rfl (cat_cons (off_ b9 rfl) (cat_cons rfl (cat_cons (on_ rfl rfl) (cat_cons rfl (cat_cons (on_ b6 rfl) (cat_cons (on_ rfl rfl) rfl))))))) (Mem.pick [0, 1, 2, 1003, 4, 5, 3] rfl hm125706)⟩
         ·
          intro b a w hI hbi hn hc K hK
          obtain ⟨vs, g125603, p125703, ha, y0, y1, y2, y3, y4, y5, y6, y7, y8, H125604, H125704, hm⟩ := hI
          subst ha
          have b0 : b 0 = true := hn 0 (da rfl)
          have b1 : b 1 = true := hn 1 (da rfl)
          have b2 : b 2 = true := hn 2 (da rfl)
          have b3 : b 3 = true := hn 3 (da rfl)
          have b4 : b 4 = true := hn 4 (da rfl)
          have b5 : b 5 = true := hn 5 (da rfl)
          have b6 : b 6 = true := hn 6 (da rfl)
          have b7 : b 7 = true := hn 7 (da rfl)
          have b9 : b 9 = false := later (j := 9) hc rfl (i := 8) (da rfl) hbi
          have H125604 := H125604 b6
          have H125704 := H125704 b7
          have hm126025 : Mem w0 w (cat [sg g64188 65 (0, 0) [] [(.int .i64 r64175.Size), (.bool r64175.Up), v112071, v112075, (.int .i64 s112078), (.int .i64 s112079), (.int .i64 r64175.Every), (.int .i64 s112080)] [], sg g64202 71 (0, 0) [] [(.int .i64 0), v112083] [], h112072, hz125000, (sg g125603 3 (0, 0) [] (encs (FK.int .i64) ([(ix s112070 0)] : List Int)) []), p125703.2]) := Mem.pick [0, 1, 2, 4, 5, 6] rfl (Mem.cg (B := [sg g64188 65 (0, 0) [] [(.int .i64 r64175.Size), (.bool r64175.Up), v112071, v112075, (.int .i64 s112078), (.int .i64 s112079), (.int .i64 r64175.Every), (.int .i64 s112080)] [], sg g64202 71 (0, 0) [] [(.int .i64 0), v112083] [], h112072, [], hz125000, (sg g125603 3 (0, 0) [] (encs (FK.int .i64) ([(ix s112070 0)] : List Int)) []), p125703.2]) (cat_cons rfl (cat_cons (off_ b9 rfl) (cat_cons rfl (cat_cons (on_ b7 rfl) (cat_cons rfl (cat_cons (on_ b6 rfl) (cat_cons (on_ b7 rfl) rfl))))))) hm)
          refine e_val (i := 8) hbi rfl rfl (v := (.pointer (some ⟨g64202, 1, none⟩))) (won rfl) rfl rfl (x_field rfl fa_71x1 (ev (t := 7) (v := (.pointer (some ⟨g64202, 0, none⟩))) rfl ((sel_no rfl).trans q112086))) ?_
          exact hK _ _ ⟨_, g125603, p125703, rfl, y0, y1, y2, y3, y4, y5, y6, y7, fun _ => rfl, fun _ => H125604, fun _ => H125704, Mem.gc (A := [sg g64188 65 (0, 0) [] [(.int .i64 r64175.Size), (.bool r64175.Up), v112071, v112075, (.int .i64 s112078), (.int .i64 s112079), (.int .i64 r64175.Every), (.int .i64 s112080)] [], sg g64202 71 (0, 0) [] [(.int .i64 0), v112083] [], h112072, [], hz125000, (sg g125603 3 (0, 0) [] (encs (FK.int .i64) ([(ix s112070 0)] : List Int)) []), p125703.2]) (cat_cons rfl (cat_cons (off_ b9 rfl) (cat_cons rfl (cat_cons (on_ b7 rfl) (cat_cons rfl (cat_cons (on_ b6 rfl) (cat_cons (on_ b7 rfl) rfl))))))) (Mem.pick [0, 1, 2, 1003, 3, 4, 5] rfl hm126025)⟩
         ·
          intro b a w hI hbi hn hc K hK
          obtain ⟨vs, g125603, p125703, ha, y0, y1, y2, y3, y4, y5, y6, y7, y8, H125604, H125704, hm⟩ := hI
          subst ha
          have b0 : b 0 = true := hn 0 (da rfl)
          have b1 : b 1 = true := hn 1 (da rfl)
          have b2 : b 2 = true := hn 2 (da rfl)
          have b3 : b 3 = true := hn 3 (da rfl)
          have b4 : b 4 = true := hn 4 (da rfl)
          have b5 : b 5 = true := hn 5 (da rfl)
          have b6 : b 6 = true := hn 6 (da rfl)
          have b7 : b 7 = true := hn 7 (da rfl)
          have b8 : b 8 = true := hn 8 (da rfl)
          have H125604 := H125604 b6
          have H125704 := H125704 b7
          have hm126028 : Mem w0 w (cat [sg g64188 65 (0, 0) [] [(.int .i64 r64175.Size), (.bool r64175.Up), v112071, v112075, (.int .i64 s112078), (.int .i64 s112079), (.int .i64 r64175.Every), (.int .i64 s112080)] [], sg g64202 71 (0, 0) [] [(.int .i64 0), v112083] [], h112072, hz125000, (sg g125603 3 (0, 0) [] (encs (FK.int .i64) ([(ix s112070 0)] : List Int)) []), p125703.2]) := Mem.pick [0, 1, 2, 4, 5, 6] rfl (Mem.cg (B := [sg g64188 65 (0, 0) [] [(.int .i64 r64175.Size), (.bool r64175.Up), v112071, v112075, (.int .i64 s112078), (.int .i64 s112079), (.int .i64 r64175.Every), (.int .i64 s112080)] [], sg g64202 71 (0, 0) [] [(.int .i64 0), v112083] [], h112072, [], hz125000, (sg g125603 3 (0, 0) [] (encs (FK.int .i64) ([(ix s112070 0)] : List Int)) []), p125703.2]) (cat_cons rfl (cat_cons (off_ hbi rfl) (cat_cons rfl (cat_cons (on_ b7 rfl) (cat_cons rfl (cat_cons (on_ b6 rfl) (cat_cons (on_ b7 rfl) rfl))))))) hm)
          refine e_exs (i := 9) hbi rfl (won rfl) rfl (e_store (vs := [p125703.1]) (o' := 0) (j := 1) rfl sz_26 (ev (t := 93) (v := (.pointer (some ⟨g64202, 1, none⟩))) rfl ((sel_on (p := (8, 93)) rfl b8).trans (y8 b8))) (ev (t := 92) (v := p125703.1) rfl ((sel_on (p := (7, 92)) rfl b7).trans (y7 b7))) (IsSl.cells (H125704).sl) (one_cons (IsSl.one (H125704).sl) one_nil) hm126028 (k := 1) rfl rfl rfl) ?_
          intro w125901 hm125902
          replace hm125902 : Mem w0 w125901 (cat [sg g64188 65 (0, 0) [] [(.int .i64 r64175.Size), (.bool r64175.Up), v112071, v112075, (.int .i64 s112078), (.int .i64 s112079), (.int .i64 r64175.Every), (.int .i64 s112080)] [], sg g64202 71 (0, 0) [] [(.int .i64 0), p125703.1] [], h112072, hz125000, (sg g125603 3 (0, 0) [] (encs (FK.int .i64) ([(ix s112070 0)] : List Int)) []), p125703.2]) := hm125902
          exact hK _ _ ⟨_, g125603, p125703, rfl, y0, y1, y2, y3, y4, y5, y6, y7, y8, fun _ => H125604, fun _ => H125704, Mem.gc (A := [sg g64188 65 (0, 0) [] [(.int .i64 r64175.Size), (.bool r64175.Up), v112071, v112075, (.int .i64 s112078), (.int .i64 s112079), (.int .i64 r64175.Every), (.int .i64 s112080)] [], sg g64202 71 (0, 0) [] [(.int .i64 0), p125703.1] [], h112072, [], hz125000, (sg g125603 3 (0, 0) [] (encs (FK.int .i64) ([(ix s112070 0)] : List Int)) []), p125703.2]) (cat_cons rfl (cat_cons (on_ rfl rfl) (cat_cons rfl (cat_cons (on_ b7 rfl) (cat_cons rfl (cat_cons (on_ b6 rfl) (cat_cons (on_ b7 rfl) rfl))))))) (Mem.pick [0, 1, 2, 1003, 3, 4, 5] rfl hm125902)⟩
         intro b a w hall hI
         obtain ⟨vs, g125603, p125703, ha, y0, y1, y2, y3, y4, y5, y6, y7, y8, H125604, H125704, hm⟩ := hI
         have b0 : b 0 = true := hall 0 rfl
         have b1 : b 1 = true := hall 1 rfl
         have b2 : b 2 = true := hall 2 rfl
         have b3 : b 3 = true := hall 3 rfl
         have b4 : b 4 = true := hall 4 rfl
         have b5 : b 5 = true := hall 5 rfl
         have b6 : b 6 = true := hall 6 rfl
         have b7 : b 7 = true := hall 7 rfl
         have b8 : b 8 = true := hall 8 rfl
         have b9 : b 9 = true := hall 9 rfl
         replace H125604 := H125604 b6
         replace H125704 := H125704 b7
         have hm126031 : Mem w0 w (cat [sg g64188 65 (0, 0) [] [(.int .i64 r64175.Size), (.bool r64175.Up), v112071, v112075, (.int .i64 s112078), (.int .i64 s112079), (.int .i64 r64175.Every), (.int .i64 s112080)] [], sg g64202 71 (0, 0) [] [(.int .i64 0), p125703.1] [], h112072, (sg g125603 3 (0, 0) [] (encs (FK.int .i64) ([(ix s112070 0)] : List Int)) []), p125703.2, hz125000]) := Mem.pick [0, 1, 2, 5, 6, 4] rfl (Mem.cg (B := [sg g64188 65 (0, 0) [] [(.int .i64 r64175.Size), (.bool r64175.Up), v112071, v112075, (.int .i64 s112078), (.int .i64 s112079), (.int .i64 r64175.Every), (.int .i64 s112080)] [], sg g64202 71 (0, 0) [] [(.int .i64 0), p125703.1] [], h112072, [], hz125000, (sg g125603 3 (0, 0) [] (encs (FK.int .i64) ([(ix s112070 0)] : List Int)) []), p125703.2]) (cat_cons rfl (cat_cons (on_ b9 rfl) (cat_cons rfl (cat_cons (on_ b7 rfl) (cat_cons rfl (cat_cons (on_ b6 rfl) (cat_cons (on_ b7 rfl) rfl))))))) hm)
         obtain ⟨f125000, ha', z125000x3, z125000x4, z125000x5, z125000x6, z125000x7, z125000x8⟩ : ∃ f' : Nat → Value, a = fr 182 f' ∧ f' 3 = (.pointer (some ⟨g64160, 0, none⟩)) ∧ f' 4 = (.pointer (some ⟨g64166, 0, none⟩)) ∧ f' 5 = (.pointer (some ⟨g64171, 0, none⟩)) ∧ f' 6 = (.pointer (some ⟨g64188, 0, none⟩)) ∧ f' 7 = (.pointer (some ⟨g64202, 0, none⟩)) ∧ f' 8 = (.int .i64 s112087) := ⟨_, ha, (sel_no rfl).trans q112067, (sel_no rfl).trans q112068, (sel_no rfl).trans q112069, (sel_no rfl).trans q112081, (sel_no rfl).trans q112086, (sel_no rfl).trans q112088⟩
         subst ha'
         subst hze125000
         replace hm126031 : Mem w0 w (cat [sg g64188 65 (0, 0) [] [(.int .i64 r64175.Size), (.bool r64175.Up), v112071, v112075, (.int .i64 s112078), (.int .i64 s112079), (.int .i64 r64175.Every), (.int .i64 s112080)] [], sg g64202 71 (0, 0) [] [(.int .i64 0), p125703.1] [], h112072, (sg g125603 3 (0, 0) [] (encs (FK.int .i64) ([(ix s112070 0)] : List Int)) []), p125703.2, sg g64160 74 (0, 0) [] [(.int .i64 a1.Kind), (.int .i64 a1.N)] [], sg g64166 65 (0, 0) [] [(.int .i64 0), (.bool false), (.slice none 0 0), (.slice none 0 0), (.int .i64 0), (.int .i64 0), (.int .i64 0), (.int .i64 0)] [], sg g64171 71 (0, 0) [] [(.int .i64 0), (.slice none 0 0)] [], h112076, hF]) := Mem.ung [sg g64188 65 (0, 0) [] [(.int .i64 r64175.Size), (.bool r64175.Up), v112071, v112075, (.int .i64 s112078), (.int .i64 s112079), (.int .i64 r64175.Every), (.int .i64 s112080)] [], sg g64202 71 (0, 0) [] [(.int .i64 0), p125703.1] [], h112072, (sg g125603 3 (0, 0) [] (encs (FK.int .i64) ([(ix s112070 0)] : List Int)) []), p125703.2] [sg g64160 74 (0, 0) [] [(.int .i64 a1.Kind), (.int .i64 a1.N)] [], sg g64166 65 (0, 0) [] [(.int .i64 0), (.bool false), (.slice none 0 0), (.slice none 0 0), (.int .i64 0), (.int .i64 0), (.int .i64 0), (.int .i64 0)] [], sg g64171 71 (0, 0) [] [(.int .i64 0), (.slice none 0 0)] [], h112076, hF] hm126031
         have hm126041 : Mem w0 w (cat [sg g64188 65 (0, 0) [] [(.int .i64 r64175.Size), (.bool r64175.Up), v112071, v112075, (.int .i64 s112078), (.int .i64 s112079), (.int .i64 r64175.Every), (.int .i64 s112080)] [], sg g64202 71 (0, 0) [] [(.int .i64 0), p125703.1] [], h112072, p125703.2, sg g64160 74 (0, 0) [] [(.int .i64 a1.Kind), (.int .i64 a1.N)] [], sg g64166 65 (0, 0) [] [(.int .i64 0), (.bool false), (.slice none 0 0), (.slice none 0 0), (.int .i64 0), (.int .i64 0), (.int .i64 0), (.int .i64 0)] [], sg g64171 71 (0, 0) [] [(.int .i64 0), (.slice none 0 0)] [], h112076, hF]) := Mem.pick [0, 1, 2, 4, 5, 6, 7, 8, 9] rfl hm126031
         refine nx ?_
         refine wp_seq ?_
         obtain ⟨hg127401, he⟩ := gdE he
         obtain ⟨hg127701, he⟩ := gdE he
         obtain ⟨hz127000, hze127000⟩ : ∃ hz : Hp, hz = cat [sg g64202 71 (0, 0) [] [(.int .i64 0), p125703.1] [], p125703.2, sg g64160 74 (0, 0) [] [(.int .i64 a1.Kind), (.int .i64 a1.N)] [], sg g64166 65 (0, 0) [] [(.int .i64 0), (.bool false), (.slice none 0 0), (.slice none 0 0), (.int .i64 0), (.int .i64 0), (.int .i64 0), (.int .i64 0)] [], sg g64171 71 (0, 0) [] [(.int .i64 0), (.slice none 0 0)] [], hF] := ⟨_, rfl⟩
         have hm127000 : Mem w0 w (cat [sg g64188 65 (0, 0) [] [(.int .i64 r64175.Size), (.bool r64175.Up), v112071, v112075, (.int .i64 s112078), (.int .i64 s112079), (.int .i64 r64175.Every), (.int .i64 s112080)] [], h112072, h112076, hz127000]) := by rw [hze127000]; exact Mem.grp [sg g64188 65 (0, 0) [] [(.int .i64 r64175.Size), (.bool r64175.Up), v112071, v112075, (.int .i64 s112078), (.int .i64 s112079), (.int .i64 r64175.Every), (.int .i64 s112080)] [], h112072, h112076] [sg g64202 71 (0, 0) [] [(.int .i64 0), p125703.1] [], p125703.2, sg g64160 74 (0, 0) [] [(.int .i64 a1.Kind), (.int .i64 a1.N)] [], sg g64166 65 (0, 0) [] [(.int .i64 0), (.bool false), (.slice none 0 0), (.slice none 0 0), (.int .i64 0), (.int .i64 0), (.int .i64 0), (.int .i64 0)] [], sg g64171 71 (0, 0) [] [(.int .i64 0), (.slice none 0 0)] [], hF] (Mem.pick [0, 2, 7, 1, 3, 4, 5, 6, 8] rfl hm126041)
         refine wp_drawF (I := fun f b a w => ∃ (vs : Nat → Value) (g127603 : Nat) (p127703 : Value × Hp), a = fr 182 (sel b [(0, 94), (1, 95), (2, 96), (3, 97), (4, 98), (5, 99), (6, 100), (7, 101), (8, 102)] vs f) ∧ (b 0 = true → vs 0 = (.pointer (some ⟨g64188, 3, none⟩))) ∧ (b 1 = true → vs 1 = v112075) ∧ (b 2 = true → vs 2 = (.pointer (some ⟨g64188, 2, none⟩))) ∧ (b 3 = true → vs 3 = v112071) ∧ (b 4 = true → vs 4 = (.pointer (some ((slA v112071).add (Int.toNat 0 * 1))))) ∧ (b 5 = true → vs 5 = (.int .i64 (ix s112070 0))) ∧ (b 6 = true → vs 6 = (.slice (some ⟨g127603, 0, none⟩) 1 1)) ∧ (b 7 = true → vs 7 = p127703.1) ∧ (b 8 = true → vs 8 = (.pointer (some ⟨g64188, 3, none⟩))) ∧ (b 6 = true → OwF 3 (FK.int .i64) (.slice (some ⟨g127603, 0, none⟩) 1 1) ([(ix s112070 0)] : List Int) (sg g127603 3 (0, 0) [] (encs (FK.int .i64) ([(ix s112070 0)] : List Int)) [])) ∧ (b 7 = true → OwF 3 (FK.int .i64) p127703.1 (s112074 ++ ([(ix s112070 0)] : List Int)) p127703.2) ∧ Mem w0 w (cat [(bif b 9 then sg g64188 65 (0, 0) [] [(.int .i64 r64175.Size), (.bool r64175.Up), v112071, p127703.1, (.int .i64 s112078), (.int .i64 s112079), (.int .i64 r64175.Every), (.int .i64 s112080)] [] else sg g64188 65 (0, 0) [] [(.int .i64 r64175.Size), (.bool r64175.Up), v112071, v112075, (.int .i64 s112078), (.int .i64 s112079), (.int .i64 r64175.Every), (.int .i64 s112080)] []), h112072, (bif b 7 then [] else h112076), hz127000, (bif b 6 then (sg g127603 3 (0, 0) [] (encs (FK.int .i64) ([(ix s112070 0)] : List Int)) []) else []), (bif b 7 then p127703.2 else [])])) mixed (by kernel_rfl) ⟨fun _ => undef, 0, (undef, []), (by rw [sel_false]), fun h => fno h, fun h => fno h, fun h => fno h, fun h => fno h, fun h => fno h, fun h => fno h, fun h => fno h, fun h => fno h, fun h => fno h, fun h => fno h, fun h => fno h, Mem.drew (Mem.pick [0, 1, 2, 3, 1000, 1001] rfl hm127000)⟩ (steps_cons (i := 0) ?_ (steps_cons (i := 1) ?_ (steps_cons (i := 2) ?_ (steps_cons (i := 3) ?_ (steps_cons (i := 4) ?_ (steps_cons (i := 5) ?_ (steps_cons (i := 6) ?_ (steps_cons (i := 7) ?_ (steps_cons (i := 8) ?_ (steps_cons (i := 9) ?_ steps_nil)))))))))) ?_
         ·
          intro b a w hI hbi hn hc K hK
          obtain ⟨vs, g127603, p127703, ha, y0, y1, y2, y3, y4, y5, y6, y7, y8, H127604, H127704, hm⟩ := hI
          subst ha
          have b1 : b 1 = false := later (j := 1) hc rfl (i := 0) (da rfl) hbi
          have b7 : b 7 = false := later (j := 7) hc rfl (i := 1) (da rfl) b1
          have b8 : b 8 = false := later (j := 8) hc rfl (i := 0) (da rfl) hbi
          have b9 : b 9 = false := later (j := 9) hc rfl (i := 0) (da rfl) hbi
          have hm128001 : Mem w0 w (cat [sg g64188 65 (0, 0) [] [(.int .i64 r64175.Size), (.bool r64175.Up), v112071, v112075, (.int .i64 s112078), (.int .i64 s112079), (.int .i64 r64175.Every), (.int .i64 s112080)] [], h112072, h112076, hz127000, (bif b 6 then (sg g127603 3 (0, 0) [] (encs (FK.int .i64) ([(ix s112070 0)] : List Int)) []) else [])]) := Mem.pick [0, 1, 2, 3, 4] rfl (Mem.cg (B := [sg g64188 65 (0, 0) [] [(.int .i64 r64175.Size), (.bool r64175.Up), v112071, v112075, (.int .i64 s112078), (.int .i64 s112079), (.int .i64 r64175.Every), (.int .i64 s112080)] [], h112072, h112076, hz127000, (bif b 6 then (sg g127603 3 (0, 0) [] (encs (FK.int .i64) ([(ix s112070 0)] : List Int)) []) else []), []]) (cat_cons (off_ b9 rfl) (cat_cons rfl (cat_cons (off_ b7 rfl) (cat_cons rfl (cat_cons rfl (cat_cons (off_ b7 rfl) rfl)))))) hm)
          refine e_val (i := 0) hbi rfl rfl (v := (.pointer (some ⟨g64188, 3, none⟩))) (won rfl) rfl rfl (x_field rfl fa_65x3 (ev (t := 6) (v := (.pointer (some ⟨g64188, 0, none⟩))) rfl ((sel_no rfl).trans z125000x6))) ?_
          exact hK _ _ ⟨_, g127603, p127703, rfl, fun _ => rfl, y1, y2, y3, y4, y5, y6, y7, y8, H127604, H127704, Mem.gc (A := [sg g64188 65 (0, 0) [] [(.int .i64 r64175.Size), (.bool r64175.Up), v112071, v112075, (.int .i64 s112078), (.int .i64 s112079), (.int .i64 r64175.Every), (.int .i64 s112080)] [], h112072, h112076, hz127000, (bif b 6 then (sg g127603 3 (0, 0) [] (encs (FK.int .i64) ([(ix s112070 0)] : List Int)) []) else []), []]) (cat_cons (off_ b9 rfl) (cat_cons rfl (cat_cons (off_ b7 rfl) (cat_cons rfl (cat_cons rfl (cat_cons (off_ b7 rfl) rfl)))))) (Mem.pick [0, 1, 2, 3, 4, 1005] rfl hm128001)⟩
         ·
          intro b a w hI hbi hn hc K hK
          obtain ⟨vs, g127603, p127703, ha, y0, y1, y2, y3, y4, y5, y6, y7, y8, H127604, H127704, hm⟩ := hI
          subst ha
          have b0 : b 0 = true := hn 0 (da rfl)
          have b7 : b 7 = false := later (j := 7) hc rfl (i := 1) (da rfl) hbi
          have b8 : b 8 = false := later (j := 8) hc rfl (i := 1) (da rfl) hbi
          have b9 : b 9 = false := later (j := 9) hc rfl (i := 1) (da rfl) hbi
          have hm128004 : Mem w0 w (cat [sg g64188 65 (0, 0) [] [(.int .i64 r64175.Size), (.bool r64175.Up), v112071, v112075, (.int .i64 s112078), (.int .i64 s112079), (.int .i64 r64175.Every), (.int .i64 s112080)] [], h112072, h112076, hz127000, (bif b 6 then (sg g127603 3 (0, 0) [] (encs (FK.int .i64) ([(ix s112070 0)] : List Int)) []) else [])]) := Mem.pick [0, 1, 2, 3, 4] rfl (Mem.cg (B := [sg g64188 65 (0, 0) [] [(.int .i64 r64175.Size), (.bool r64175.Up), v112071, v112075, (.int .i64 s112078), (.int .i64 s112079), (.int .i64 r64175.Every), (.int .i64 s112080)] [], h112072, h112076, hz127000, (bif b 6 then (sg g127603 3 (0, 0) [] (encs (FK.int .i64) ([(ix s112070 0)] : List Int)) []) else []), []]) (cat_cons (off_ b9 rfl) (cat_cons rfl (cat_cons (off_ b7 rfl) (cat_cons rfl (cat_cons rfl (cat_cons (off_ b7 rfl) rfl)))))) hm)
          refine e_val (i := 1) hbi rfl rfl (v := v112075) (won rfl) rfl rfl (x_load rfl ty1x26 (ev (t := 94) (v := (.pointer (some ⟨g64188, 3, none⟩))) rfl ((sel_on (p := (0, 94)) rfl b0).trans (y0 b0))) (seg_cell (o' := 0) (j := 3) hm128004 (k := 0) rfl rfl rfl)) ?_
          exact hK _ _ ⟨_, g127603, p127703, rfl, y0, fun _ => rfl, y2, y3, y4, y5, y6, y7, y8, H127604, H127704, Mem.gc (A := [sg g64188 65 (0, 0) [] [(.int .i64 r64175.Size), (.bool r64175.Up), v112071, v112075, (.int .i64 s112078), (.int .i64 s112079), (.int .i64 r64175.Every), (.int .i64 s112080)] [], h112072, h112076, hz127000, (bif b 6 then (sg g127603 3 (0, 0) [] (encs (FK.int .i64) ([(ix s112070 0)] : List Int)) []) else []), []]) (cat_cons (off_ b9 rfl) (cat_cons rfl (cat_cons (off_ b7 rfl) (cat_cons rfl (cat_cons rfl (cat_cons (off_ b7 rfl) rfl)))))) (Mem.pick [0, 1, 2, 3, 4, 1005] rfl hm128004)⟩
         ·
          intro b a w hI hbi hn hc K hK
          obtain ⟨vs, g127603, p127703, ha, y0, y1, y2, y3, y4, y5, y6, y7, y8, H127604, H127704, hm⟩ := hI
          subst ha
          have b3 : b 3 = false := later (j := 3) hc rfl (i := 2) (da rfl) hbi
          have b4 : b 4 = false := later (j := 4) hc rfl (i := 3) (da rfl) b3
          have b5 : b 5 = false := later (j := 5) hc rfl (i := 4) (da rfl) b4
          have b6 : b 6 = false := later (j := 6) hc rfl (i := 5) (da rfl) b5
          have b7 : b 7 = false := later (j := 7) hc rfl (i := 6) (da rfl) b6
          have b8 : b 8 = false := later (j := 8) hc rfl (i := 2) (da rfl) hbi
          have b9 : b 9 = false := later (j := 9) hc rfl (i := 2) (da rfl) hbi
          have hm128007 : Mem w0 w (cat [sg g64188 65 (0, 0) [] [(.int .i64 r64175.Size), (.bool r64175.Up), v112071, v112075, (.int .i64 s112078), (.int .i64 s112079), (.int .i64 r64175.Every), (.int .i64 s112080)] [], h112072, h112076, hz127000]) := Mem.pick [0, 1, 2, 3] rfl (Mem.cg (B := [sg g64188 65 (0, 0) [] [(.int .i64 r64175.Size), (.bool r64175.Up), v112071, v112075, (.int .i64 s112078), (.int .i64 s112079), (.int .i64 r64175.Every), (.int .i64 s112080)] [], h112072, h112076, hz127000, [], []]) (cat_cons (off_ b9 rfl) (cat_cons rfl (cat_cons (off_ b7 rfl) (cat_cons rfl (cat_cons (off_ b6 rfl) (cat_cons (off_ b7 rfl) rfl)))))) hm)
          refine e_val (i := 2) hbi rfl rfl (v := (.pointer (some ⟨g64188, 2, none⟩))) (won rfl) rfl rfl (x_field rfl fa_65x2 (ev (t := 6) (v := (.pointer (some ⟨g64188, 0, none⟩))) rfl ((sel_no rfl).trans z125000x6))) ?_
          exact hK _ _ ⟨_, g127603, p127703, rfl, y0, y1, fun _ => rfl, y3, y4, y5, y6, y7, y8, H127604, H127704, Mem.gc (A := [sg g64188 65 (0, 0) [] [(.int .i64 r64175.Size), (.bool r64175.Up), v112071, v112075, (.int .i64 s112078), (.int .i64 s112079), (.int .i64 r64175.Every), (.int .i64 s112080)] [], h112072, h112076, hz127000, [], []]) (cat_cons (off_ b9 rfl) (cat_cons rfl (cat_cons (off_ b7 rfl) (cat_cons rfl (cat_cons (off_ b6 rfl) (cat_cons (off_ b7 rfl) rfl)))))) (Mem.pick [0, 1, 2, 3, 1004, 1005] rfl hm128007)⟩
         ·
          intro b a w hI hbi hn hc K hK
          obtain ⟨vs, g127603, p127703, ha, y0, y1, y2, y3, y4, y5, y6, y7, y8, H127604, H127704, hm⟩ := hI
          subst ha
          have b2 : b 2 = true := hn 2 (da rfl)
          have b4 : b 4 = false := later (j := 4) hc rfl (i := 3) (da rfl) hbi
          have b5 : b 5 = false := later (j := 5) hc rfl (i := 4) (da rfl) b4
          have b6 : b 6 = false := later (j := 6) hc rfl (i := 5) (da rfl) b5
          have b7 : b 7 = false := later (j := 7) hc rfl (i := 6) (da rfl) b6
          have b8 : b 8 = false := later (j := 8) hc rfl (i := 3) (da rfl) hbi
          have b9 : b 9 = false := later (j := 9) hc rfl (i := 3) (da rfl) hbi
          have hm128010 : Mem w0 w (cat [sg g64188 65 (0, 0) [] [(.int .i64 r64175.Size), (.bool r64175.Up), v112071, v112075, (.int .i64 s112078), (.int .i64 s112079), (.int .i64 r64175.Every), (.int .i64 s112080)] [], h112072, h112076, hz127000]) := Mem.pick [0, 1, 2, 3] rfl (Mem.cg (B := [sg g64188 65 (0, 0) [] [(.int .i64 r64175.Size), (.bool r64175.Up), v112071, v112075, (.int .i64 s112078), (.int .i64 s112079), (.int .i64 r64175.Every), (.int .i64 s112080)] [], h112072, h112076, hz127000, [], []]) (cat_cons (off_ b9 rfl) (cat_cons rfl (cat_cons (off_ b7 rfl) (cat_cons rfl (cat_cons (off_ b6 rfl) (cat_cons (off_ b7 rfl) rfl)))))) hm)
          refine e_val (i := 3) hbi rfl rfl (v := v112071) (won rfl) rfl rfl (x_load rfl ty1x26 (ev (t := 96) (v := (.pointer (some ⟨g64188, 2, none⟩))) rfl ((sel_on (p := (2, 96)) rfl b2).trans (y2 b2))) (seg_cell (o' := 0) (j := 2) hm128010 (k := 0) rfl rfl rfl)) ?_
          exact hK _ _ ⟨_, g127603, p127703, rfl, y0, y1, y2, fun _ => rfl, y4, y5, y6, y7, y8, H127604, H127704, Mem.gc (A := [sg g64188 65 (0, 0) [] [(.int .i64 r64175.Size), (.bool r64175.Up), v112071, v112075, (.int .i64 s112078), (.int .i64 s112079), (.int .i64 r64175.Every), (.int .i64 s112080)] [], h112072, h112076, hz127000, [], []]) (cat_cons (off_ b9 rfl) (cat_cons rfl (cat_cons (off_ b7 rfl) (cat_cons rfl (cat_cons (off_ b6 rfl) (cat_cons (off_ b7 rfl) rfl)))))) (Mem.pick [0, 1, 2, 3, 1004, 1005] rfl hm128010)⟩
         ·
          intro b a w hI hbi hn hc K hK
          obtain ⟨vs, g127603, p127703, ha, y0, y1, y2, y3, y4, y5, y6, y7, y8, H127604, H127704, hm⟩ := hI
          subst ha
          have b3 : b 3 = true := hn 3 (da rfl)
          have b2 : b 2 = true := hc 3 _ rfl b3 2 (da rfl)
          have b5 : b 5 = false := later (j := 5) hc rfl (i := 4) (da rfl) hbi
          have b6 : b 6 = false := later (j := 6) hc rfl (i := 5) (da rfl) b5
          have b7 : b 7 = false := later (j := 7) hc rfl (i := 6) (da rfl) b6
          have b8 : b 8 = false := later (j := 8) hc rfl (i := 4) (da rfl) hbi
          have b9 : b 9 = false := later (j := 9) hc rfl (i := 4) (da rfl) hbi
          have hm128013 : Mem w0 w (cat [sg g64188 65 (0, 0) [] [(.int .i64 r64175.Size), (.bool r64175.Up), v112071, v112075, (.int .i64 s112078), (.int .i64 s112079), (.int .i64 r64175.Every), (.int .i64 s112080)] [], h112072, h112076, hz127000]) := Mem.pick [0, 1, 2, 3] rfl (Mem.cg (B := [sg g64188 65 (0, 0) [] [(.int .i64 r64175.Size), (.bool r64175.Up), v112071, v112075, (.int .i64 s112078), (.int .i64 s112079), (.int .i64 r64175.Every), (.int .i64 s112080)] [], h112072, h112076, hz127000, [], []]) (cat_cons (off_ b9 rfl) (cat_cons rfl (cat_cons (off_ b7 rfl) (cat_cons rfl (cat_cons (off_ b6 rfl) (cat_cons (off_ b7 rfl) rfl)))))) hm)
          refine e_val (i := 4) hbi rfl rfl (v := (.pointer (some ((slA v112071).add (Int.toNat 0 * 1))))) (won rfl) rfl rfl (x_index (d := (FK.int .i64)) rfl slt_26 (ev (t := 97) (v := v112071) rfl ((sel_on (p := (3, 97)) rfl b3).trans (y3 b3))) rfl (H112073.rd w0) hg127401.1 hg127401.2) ?_
          exact hK _ _ ⟨_, g127603, p127703, rfl, y0, y1, y2, y3, fun _ => rfl, y5, y6, y7, y8, H127604, H127704, Mem.gc (A := [sg g64188 65 (0, 0) [] [(.int .i64 r64175.Size), (.bool r64175.Up), v112071, v112075, (.int .i64 s112078), (.int .i64 s112079), (.int .i64 r64175.Every), (.int .i64 s112080)] [], h112072, h112076, hz127000, [], []]) (cat_cons (off_ b9 rfl) (cat_cons rfl (cat_cons (off_ b7 rfl) (cat_cons rfl (cat_cons (off_ b6 rfl) (cat_cons (off_ b7 rfl) rfl)))))) (Mem.pick [0, 1, 2, 3, 1004, 1005] rfl hm128013)⟩
         ·
          intro b a w hI hbi hn hc K hK
          obtain ⟨vs, g127603, p127703, ha, y0, y1, y2, y3, y4, y5, y6, y7, y8, H127604, H127704, hm⟩ := hI
          subst ha
          have b4 : b 4 = true := hn 4 (da rfl)
          have b3 : b 3 = true := hc 4 _ rfl b4 3 (da rfl)
          have b2 : b 2 = true := hc 3 _ rfl b3 2 (da rfl)
          have b6 : b 6 = false := later (j := 6) hc rfl (i := 5) (da rfl) hbi
          have b7 : b 7 = false := later (j := 7) hc rfl (i := 6) (da rfl) b6
          have b8 : b 8 = false := later (j := 8) hc rfl (i := 5) (da rfl) hbi
          have b9 : b 9 = false := later (j := 9) hc rfl (i := 5) (da rfl) hbi
          have hm128016 : Mem w0 w (cat [sg g64188 65 (0, 0) [] [(.int .i64 r64175.Size), (.bool r64175.Up), v112071, v112075, (.int .i64 s112078), (.int .i64 s112079), (.int .i64 r64175.Every), (.int .i64 s112080)] [], h112072, h112076, hz127000]) := Mem.pick [0, 1, 2, 3] rfl (Mem.cg (B := [sg g64188 65 (0, 0) [] [(.int .i64 r64175.Size), (.bool r64175.Up), v112071, v112075, (.int .i64 s112078), (.int .i64 s112079), (.int .i64 r64175.Every), (.int .i64 s112080)] [], h112072, h112076, hz127000, [], []]) (cat_cons (off_ b9 rfl) (cat_cons rfl (cat_cons (off_ b7 rfl) (cat_cons rfl (cat_cons (off_ b6 rfl) (cat_cons (off_ b7 rfl) rfl)))))) hm)
          refine e_val (i := 5) hbi rfl rfl (v := (.int .i64 (ix s112070 0))) (won rfl) rfl rfl (x_load rfl ty1x3 (ev (t := 98) (v := (.pointer (some ((slA v112071).add (Int.toNat 0 * 1))))) rfl ((sel_on (p := (4, 98)) rfl b4).trans (y4 b4))) (RdF.cell0 (H112073.rd w0) hm128016 (Sub.at_ (k := 1) rfl) hg127401.1 hg127401.2 rfl)) ?_
          exact hK _ _ ⟨_, g127603, p127703, rfl, y0, y1, y2, y3, y4, fun _ => rfl, y6, y7, y8, H127604, H127704, Mem.gc (A := [sg g64188 65 (0, 0) [] [(.int .i64 r64175.Size), (.bool r64175.Up), v112071, v112075, (.int .i64 s112078), (.int .i64 s112079), (.int .i64 r64175.Every), (.int .i64 s112080)] [], h112072, h112076, hz127000, [], []]) (cat_cons (off_ b9 rfl) (cat_cons rfl (cat_cons (off_ b7 rfl) (cat_cons rfl (cat_cons (off_ b6 rfl) (cat_cons (off_ b7 rfl) rfl)))))) (Mem.pick [0, 1, 2, 3, 1004, 1005] rfl hm128016)⟩
         ·
          intro b a w hI hbi hn hc K hK
          obtain ⟨vs, g127603, p127703, ha, y0, y1, y2, y3, y4, y5, y6, y7, y8, H127604, H127704, hm⟩ := hI
          subst ha
          have b5 : b 5 = true := hn 5 (da rfl)
          have b4 : b 4 = true := hc 5 _ rfl b5 4 (da rfl)
          have b3 : b 3 = true := hc 4 _ rfl b4 3 (da rfl)
          have b2 : b 2 = true := hc 3 _ rfl b3 2 (da rfl)
          have b7 : b 7 = false := later (j := 7) hc rfl (i := 6) (da rfl) hbi
          have b8 : b 8 = false := later (j := 8) hc rfl (i := 6) (da rfl) hbi
          have b9 : b 9 = false := later (j := 9) hc rfl (i := 6) (da rfl) hbi
          have hm128019 : Mem w0 w (cat [sg g64188 65 (0, 0) [] [(.int .i64 r64175.Size), (.bool r64175.Up), v112071, v112075, (.int .i64 s112078), (.int .i64 s112079), (.int .i64 r64175.Every), (.int .i64 s112080)] [], h112072, h112076, hz127000]) := Mem.pick [0, 1, 2, 3] rfl (Mem.cg (B := [sg g64188 65 (0, 0) [] [(.int .i64 r64175.Size), (.bool r64175.Up), v112071, v112075, (.int .i64 s112078), (.int .i64 s112079), (.int .i64 r64175.Every), (.int .i64 s112080)] [], h112072, h112076, hz127000, [], []]) (cat_cons (off_ b9 rfl) (cat_cons rfl (cat_cons (off_ b7 rfl) (cat_cons rfl (cat_cons (off_ hbi rfl) (cat_cons (off_ b7 rfl) rfl)))))) hm)
          refine e_exv (i := 6) hbi rfl rfl (won rfl) rfl rfl (e_litp (cells := [(.int .i64 (ix s112070 0))]) (ps := [(0, (.int .i64 (ix s112070 0)))]) rfl slt_26 (pmap_lit (pmap_cons (ev (t := 99) (v := (.int .i64 (ix s112070 0))) rfl ((sel_on (p := (5, 99)) rfl b5).trans (y5 b5))) pmap_nil)) (fun w1 => run_bslicez (cells := [(.int .i64 (ix s112070 0))]) (zs := [.int .i64 0]) (zc := [.int .i64 0]) slt_26 rfl rfl (by kernel_rfl) (fill_cons (cs := [(.int .i64 (ix s112070 0))]) rfl rfl rfl fill_nil) (by decide)) hm128019) ?_
          rintro g127603 w127601 hm127602
          have H127604 : OwF 3 (FK.int .i64) (.slice (some ⟨g127603, 0, none⟩) 1 1) ([(ix s112070 0)] : List Int) (sg g127603 3 (0, 0) [] (encs (FK.int .i64) ([(ix s112070 0)] : List Int)) []) := OwF.lit g127603 ([(ix s112070 0)] : List Int) 1 rfl (by decide)
          replace hm127602 : Mem w0 w127601 (cat [(sg g127603 3 (0, 0) [] (encs (FK.int .i64) ([(ix s112070 0)] : List Int)) []), sg g64188 65 (0, 0) [] [(.int .i64 r64175.Size), (.bool r64175.Up), v112071, v112075, (.int .i64 s112078), (.int .i64 s112079), (.int .i64 r64175.Every), (.int .i64 s112080)] [], h112072, h112076, hz127000]) := hm127602
          exact hK _ _ ⟨_, g127603, p127703, rfl, y0, y1, y2, y3, y4, y5, fun _ => rfl, y7, y8, fun _ => H127604, H127704, Mem.gc (A := [sg g64188 65 (0, 0) [] [(.int .i64 r64175.Size), (.bool r64175.Up), v112071, v112075, (.int .i64 s112078), (.int .i64 s112079), (.int .i64 r64175.Every), (.int .i64 s112080)] [], h112072, h112076, hz127000, (sg g127603 3 (0, 0) [] (encs (FK.int .i64) ([(ix s112070 0)] : List Int)) []), []]) (cat_cons (off_ b9 rfl) (cat_cons rfl (cat_cons (off_ b7 rfl) (cat_cons rfl (cat_cons (on_ rfl rfl) (cat_cons (off_ b7 rfl) rfl)))))) (Mem.pick [1, 2, 3, 4, 0, 1005] rfl hm127602)⟩
         ·
          intro b a w hI hbi hn hc K hK
          obtain ⟨vs, g127603, p127703, ha, y0, y1, y2, y3, y4, y5, y6, y7, y8, H127604, H127704, hm⟩ := hI
          subst ha
          have b1 : b 1 = true := hn 1 (da rfl)
          have b6 : b 6 = true := hn 6 (da rfl)
          have b0 : b 0 = true := hc 1 _ rfl b1 0 (da rfl)
          have b5 : b 5 = true := hc 6 _ rfl b6 5 (da rfl)
          have b4 : b 4 = true := hc 5 _ rfl b5 4 (da rfl)
          have b3 : b 3 = true := hc 4 _ rfl b4 3 (da rfl)
          have b2 : b 2 = true := hc 3 _ rfl b3 2 (da rfl)
          have b8 : b 8 = false := later (j := 8) hc rfl (i := 7) (da rfl) hbi
          have b9 : b 9 = false := later (j := 9) hc rfl (i := 7) (da rfl) hbi
          have H127604 := H127604 b6
          have hm128022 : Mem w0 w (cat [sg g64188 65 (0, 0) [] [(.int .i64 r64175.Size), (.bool r64175.Up), v112071, v112075, (.int .i64 s112078), (.int .i64 s112079), (.int .i64 r64175.Every), (.int .i64 s112080)] [], h112072, h112076, hz127000, (sg g127603 3 (0, 0) [] (encs (FK.int .i64) ([(ix s112070 0)] : List Int)) [])]) := Mem.pick [0, 1, 2, 3, 4] rfl (Mem.cg (B := [sg g64188 65 (0, 0) [] [(.int .i64 r64175.Size), (.bool r64175.Up), v112071, v112075, (.int .i64 s112078), (.int .i64 s112079), (.int .i64 r64175.Every), (.int .i64 s112080)] [], h112072, h112076, hz127000, (sg g127603 3 (0, 0) [] (encs (FK.int .i64) ([(ix s112070 0)] : List Int)) []), []]) (cat_cons (off_ b9 rfl) (cat_cons rfl (cat_cons (off_ hbi rfl) (cat_cons rfl (cat_cons (on_ b6 rfl) (cat_cons (off_ hbi rfl) rfl)))))) hm)
          refine e_exv (i := 7) hbi rfl rfl (won rfl) rfl rfl (e_append (bytes := 8) rfl slt_26 rfl (ev (t := 95) (v := v112075) rfl ((sel_on (p := (1, 95)) rfl b1).trans (y1 b1))) (ev (t := 100) (v := (.slice (some ⟨g127603, 0, none⟩) 1 1)) rfl ((sel_on (p := (6, 100)) rfl b6).trans (y6 b6))) H112077 (k := 2) rfl (H127604.rd w0) (Sub.at_ (k := 4) rfl) hm128022 hg127701 (len63 hg127701 rfl)) ?_
          rintro p127703 w127705 ⟨H127704, hm127706⟩
          replace hm127706 : Mem w0 w127705 (cat [sg g64188 65 (0, 0) [] [(.int .i64 r64175.Size), (.bool r64175.Up), v112071, v112075, (.int .i64 s112078), (.int .i64 s112079), (.int .i64 r64175.Every), (.int .i64 s112080)] [], h112072, p127703.2, hz127000, (sg g127603 3 (0, 0) [] (encs (FK.int .i64) ([(ix s112070 0)] : List Int)) [])]) := hm127706
          exact hK _ _ ⟨_, g127603, p127703, rfl, y0, y1, y2, y3, y4, y5, y6, fun _ => rfl, y8, fun _ => H127604, fun _ => H127704, Mem.gc (A := [sg g64188 65 (0, 0) [] [(.int .i64 r64175.Size), (.bool r64175.Up), v112071, v112075, (.int .i64 s112078), (.int .i64 s112079), (.int .i64 r64175.Every), (.int .i64 s112080)] [], h112072, [], hz127000, (sg g127603 3 (0, 0) [] (encs (FK.int .i64) ([(ix s112070 0)] : List Int)) []), p127703.2]) (cat_cons (off_ b9 rfl) (cat_cons rfl (cat_cons (on_ rfl rfl) (cat_cons rfl (cat_cons (on_ b6 rfl) (cat_cons (on_ rfl rfl) rfl)))))) (Mem.pick [0, 1, 1002, 3, 4, 2] rfl hm127706)⟩
         ·
          intro b a w hI hbi hn hc K hK
          obtain ⟨vs, g127603, p127703, ha, y0, y1, y2, y3, y4, y5, y6, y7, y8, H127604, H127704, hm⟩ := hI
          subst ha
          have b0 : b 0 = true := hn 0 (da rfl)
          have b1 : b 1 = true := hn 1 (da rfl)
          have b2 : b 2 = true := hn 2 (da rfl)
          have b3 : b 3 = true := hn 3 (da rfl)
          have b4 : b 4 = true := hn 4 (da rfl)
          have b5 : b 5 = true := hn 5 (da rfl)
          have b6 : b 6 = true := hn 6 (da rfl)
          have b7 : b 7 = true := hn 7 (da rfl)
          have b9 : b 9 = false := later (j := 9) hc rfl (i := 8) (da rfl) hbi
          have H127604 := H127604 b6
          have H127704 := H127704 b7
          have hm128025 : Mem w0 w (cat [sg g64188 65 (0, 0) [] [(.int .i64 r64175.Size), (.bool r64175.Up), v112071, v112075, (.int .i64 s112078), (.int .i64 s112079), (.int .i64 r64175.Every), (.int .i64 s112080)] [], h112072, hz127000, (sg g127603 3 (0, 0) [] (encs (FK.int .i64) ([(ix s112070 0)] : List Int)) []), p127703.2]) := Mem.pick [0, 1, 3, 4, 5] rfl (Mem.cg (B := [sg g64188 65 (0, 0) [] [(.int .i64 r64175.Size), (.bool r64175.Up), v112071, v112075, (.int .i64 s112078), (.int .i64 s112079), (.int .i64 r64175.Every), (.int .i64 s112080)] [], h112072, [], hz127000, (sg g127603 3 (0, 0) [] (encs (FK.int .i64) ([(ix s112070 0)] : List Int)) []), p127703.2]) (cat_cons (off_ b9 rfl) (cat_cons rfl (cat_cons (on_ b7 rfl) (cat_cons rfl (cat_cons (on_ b6 rfl) (cat_cons (on_ b7 rfl) rfl)))))) hm)
          refine e_val (i := 8) hbi rfl rfl (v := (.pointer (some ⟨g64188, 3, none⟩))) (won rfl) rfl rfl (x_field rfl fa_65x3 (ev (t := 6) (v := (.pointer (some ⟨g64188, 0, none⟩))) rfl ((sel_no rfl).trans z125000x6))) ?_
          exact hK _ _ ⟨_, g127603, p127703, rfl, y0, y1, y2, y3, y4, y5, y6, y7, fun _ => rfl, fun _ => H127604, fun _ => H127704, Mem.gc (A := [sg g64188 65 (0, 0) [] [(.int .i64 r64175.Size), (.bool r64175.Up), v112071, v112075, (.int .i64 s112078), (.int .i64 s112079), (.int .i64 r64175.Every), (.int .i64 s112080)] [], h112072, [], hz127000, (sg g127603 3 (0, 0) [] (encs (FK.int .i64) ([(ix s112070 0)] : List Int)) []), p127703.2]) (cat_cons (off_ b9 rfl) (cat_cons rfl (cat_cons (on_ b7 rfl) (cat_cons rfl (cat_cons (on_ b6 rfl) (cat_cons (on_ b7 rfl) rfl)))))) (Mem.pick [0, 1, 1002, 2, 3, 4] rfl hm128025)⟩
         ·
          intro b a w hI hbi hn hc K hK
          obtain ⟨vs, g127603, p127703, ha, y0, y1, y2, y3, y4, y5, y6, y7, y8, H127604, H127704, hm⟩ := hI
          subst ha
          have b0 : b 0 = true := hn 0 (da rfl)
          have b1 : b 1 = true := hn 1 (da rfl)
          have b2 : b 2 = true := hn 2 (da rfl)
          have b3 : b 3 = true := hn 3 (da rfl)
          have b4 : b 4 = true := hn 4 (da rfl)
          have b5 : b 5 = true := hn 5 (da rfl)
          have b6 : b 6 = true := hn 6 (da rfl)
          have b7 : b 7 = true := hn 7 (da rfl)
          have b8 : b 8 = true := hn 8 (da rfl)
          have H127604 := H127604 b6
          have H127704 := H127704 b7
          have hm128028 : Mem w0 w (cat [sg g64188 65 (0, 0) [] [(.int .i64 r64175.Size), (.bool r64175.Up), v112071, v112075, (.int .i64 s112078), (.int .i64 s112079), (.int .i64 r64175.Every), (.int .i64 s112080)] [], h112072, hz127000, (sg g127603 3 (0, 0) [] (encs (FK.int .i64) ([(ix s112070 0)] : List Int)) []), p127703.2]) := Mem.pick [0, 1, 3, 4, 5] rfl (Mem.cg (B := [sg g64188 65 (0, 0) [] [(.int .i64 r64175.Size), (.bool r64175.Up), v112071, v112075, (.int .i64 s112078), (.int .i64 s112079), (.int .i64 r64175.Every), (.int .i64 s112080)] [], h112072, [], hz127000, (sg g127603 3 (0, 0) [] (encs (FK.int .i64) ([(ix s112070 0)] : List Int)) []), p127703.2]) (cat_cons (off_ hbi rfl) (cat_cons rfl (cat_cons (on_ b7 rfl) (cat_cons rfl (cat_cons (on_ b6 rfl) (cat_cons (on_ b7 rfl) rfl)))))) hm)
          refine e_exs (i := 9) hbi rfl (won rfl) rfl (e_store (vs := [p127703.1]) (o' := 0) (j := 3) rfl sz_26 (ev (t := 102) (v := (.pointer (some ⟨g64188, 3, none⟩))) rfl ((sel_on (p := (8, 102)) rfl b8).trans (y8 b8))) (ev (t := 101) (v := p127703.1) rfl ((sel_on (p := (7, 101)) rfl b7).trans (y7 b7))) (IsSl.cells (H127704).sl) (one_cons (IsSl.one (H127704).sl) one_nil) hm128028 (k := 0) rfl rfl rfl) ?_
          intro w127901 hm127902
          replace hm127902 : Mem w0 w127901 (cat [sg g64188 65 (0, 0) [] [(.int .i64 r64175.Size), (.bool r64175.Up), v112071, p127703.1, (.int .i64 s112078), (.int .i64 s112079), (.int .i64 r64175.Every), (.int .i64 s112080)] [], h112072, hz127000, (sg g127603 3 (0, 0) [] (encs (FK.int .i64) ([(ix s112070 0)] : List Int)) []), p127703.2]) := hm127902
          exact hK _ _ ⟨_, g127603, p127703, rfl, y0, y1, y2, y3, y4, y5, y6, y7, y8, fun _ => H127604, fun _ => H127704, Mem.gc (A := [sg g64188 65 (0, 0) [] [(.int .i64 r64175.Size), (.bool r64175.Up), v112071, p127703.1, (.int .i64 s112078), (.int .i64 s112079), (.int .i64 r64175.Every), (.int .i64 s112080)] [], h112072, [], hz127000, (sg g127603 3 (0, 0) [] (encs (FK.int .i64) ([(ix s112070 0)] : List Int)) []), p127703.2]) (cat_cons (on_ rfl rfl) (cat_cons rfl (cat_cons (on_ b7 rfl) (cat_cons rfl (cat_cons (on_ b6 rfl) (cat_cons (on_ b7 rfl) rfl)))))) (Mem.pick [0, 1, 1002, 2, 3, 4] rfl hm127902)⟩
         intro b a w hall hI
         obtain ⟨vs, g127603, p127703, ha, y0, y1, y2, y3, y4, y5, y6, y7, y8, H127604, H127704, hm⟩ := hI
         have b0 : b 0 = true := hall 0 rfl
         have b1 : b 1 = true := hall 1 rfl
         have b2 : b 2 = true := hall 2 rfl
         have b3 : b 3 = true := hall 3 rfl
         have b4 : b 4 = true := hall 4 rfl
         have b5 : b 5 = true := hall 5 rfl
         have b6 : b 6 = true := hall 6 rfl
         have b7 : b 7 = true := hall 7 rfl
         have b8 : b 8 = true := hall 8 rfl
         have b9 : b 9 = true := hall 9 rfl
         replace H127604 := H127604 b6
         replace H127704 := H127704 b7
         have hm128031 : Mem w0 w (cat [sg g64188 65 (0, 0) [] [(.int .i64 r64175.Size), (.bool r64175.Up), v112071, p127703.1, (.int .i64 s112078), (.int .i64 s112079), (.int .i64 r64175.Every), (.int .i64 s112080)] [], h112072, (sg g127603 3 (0, 0) [] (encs (FK.int .i64) ([(ix s112070 0)] : List Int)) []), p127703.2, hz127000]) := Mem.pick [0, 1, 4, 5, 3] rfl (Mem.cg (B := [sg g64188 65 (0, 0) [] [(.int .i64 r64175.Size), (.bool r64175.Up), v112071, p127703.1, (.int .i64 s112078), (.int .i64 s112079), (.int .i64 r64175.Every), (.int .i64 s112080)] [], h112072, [], hz127000, (sg g127603 3 (0, 0) [] (encs (FK.int .i64) ([(ix s112070 0)] : List Int)) []), p127703.2]) (cat_cons (on_ b9 rfl) (cat_cons rfl (cat_cons (on_ b7 rfl) (cat_cons rfl (cat_cons (on_ b6 rfl) (cat_cons (on_ b7 rfl) rfl)))))) hm)
         obtain ⟨f127000, ha', z127000x3, z127000x4, z127000x5, z127000x6, z127000x7, z127000x8⟩ : ∃ f' : Nat → Value, a = fr 182 f' ∧ f' 3 = (.pointer (some ⟨g64160, 0, none⟩)) ∧ f' 4 = (.pointer (some ⟨g64166, 0, none⟩)) ∧ f' 5 = (.pointer (some ⟨g64171, 0, none⟩)) ∧ f' 6 = (.pointer (some ⟨g64188, 0, none⟩)) ∧ f' 7 = (.pointer (some ⟨g64202, 0, none⟩)) ∧ f' 8 = (.int .i64 s112087) := ⟨_, ha, (sel_no rfl).trans z125000x3, (sel_no rfl).trans z125000x4, (sel_no rfl).trans z125000x5, (sel_no rfl).trans z125000x6, (sel_no rfl).trans z125000x7, (sel_no rfl).trans z125000x8⟩
         subst ha'
         subst hze127000
         replace hm128031 : Mem w0 w (cat [sg g64188 65 (0, 0) [] [(.int .i64 r64175.Size), (.bool r64175.Up), v112071, p127703.1, (.int .i64 s112078), (.int .i64 s112079), (.int .i64 r64175.Every), (.int .i64 s112080)] [], h112072, (sg g127603 3 (0, 0) [] (encs (FK.int .i64) ([(ix s112070 0)] : List Int)) []), p127703.2, sg g64202 71 (0, 0) [] [(.int .i64 0), p125703.1] [], p125703.2, sg g64160 74 (0, 0) [] [(.int .i64 a1.Kind), (.int .i64 a1.N)] [], sg g64166 65 (0, 0) [] [(.int .i64 0), (.bool false), (.slice none 0 0), (.slice none 0 0), (.int .i64 0), (.int .i64 0), (.int .i64 0), (.int .i64 0)] [], sg g64171 71 (0, 0) [] [(.int .i64 0), (.slice none 0 0)] [], hF]) := Mem.ung [sg g64188 65 (0, 0) [] [(.int .i64 r64175.Size), (.bool r64175.Up), v112071, p127703.1, (.int .i64 s112078), (.int .i64 s112079), (.int .i64 r64175.Every), (.int .i64 s112080)] [], h112072, (sg g127603 3 (0, 0) [] (encs (FK.int .i64) ([(ix s112070 0)] : List Int)) []), p127703.2] [sg g64202 71 (0, 0) [] [(.int .i64 0), p125703.1] [], p125703.2, sg g64160 74 (0, 0) [] [(.int .i64 a1.Kind), (.int .i64 a1.N)] [], sg g64166 65 (0, 0) [] [(.int .i64 0), (.bool false), (.slice none 0 0), (.slice none 0 0), (.int .i64 0), (.int .i64 0), (.int .i64 0), (.int .i64 0)] [], sg g64171 71 (0, 0) [] [(.int .i64 0), (.slice none 0 0)] [], hF] hm128031
         have hm128041 : Mem w0 w (cat [sg g64188 65 (0, 0) [] [(.int .i64 r64175.Size), (.bool r64175.Up), v112071, p127703.1, (.int .i64 s112078), (.int .i64 s112079), (.int .i64 r64175.Every), (.int .i64 s112080)] [], h112072, p127703.2, sg g64202 71 (0, 0) [] [(.int .i64 0), p125703.1] [], p125703.2, sg g64160 74 (0, 0) [] [(.int .i64 a1.Kind), (.int .i64 a1.N)] [], sg g64166 65 (0, 0) [] [(.int .i64 0), (.bool false), (.slice none 0 0), (.slice none 0 0), (.int .i64 0), (.int .i64 0), (.int .i64 0), (.int .i64 0)] [], sg g64171 71 (0, 0) [] [(.int .i64 0), (.slice none 0 0)] [], hF]) := Mem.pick [0, 1, 3, 4, 5, 6, 7, 8, 9] rfl hm128031
         refine nx ?_
         refine wp_seq ?_
         obtain ⟨hg128047, he⟩ := gdE he
         obtain ⟨hg128049, he⟩ := gdE he
         refine wp_region_lit ?_
         refine s_exv (won rfl) rfl rfl (e_litp (cells := []) (ps := []) rfl slt_26 (pmap_lit pmap_nil) (fun w1 => run_bslice0 slt_26) hm128041) ?_
         rintro g128044 w128042 hm128043
         have H128045 : OwF 3 (FK.int .i64) (.slice (some ⟨g128044, 0, none⟩) 0 0) ([] : List Int) (sg g128044 3 (0, 0) [] (encs (FK.int .i64) ([] : List Int)) []) := OwF.lit g128044 ([] : List Int) 0 rfl (by decide)
         replace hm128043 : Mem w0 w128042 (cat [(sg g128044 3 (0, 0) [] (encs (FK.int .i64) ([] : List Int)) []), sg g64188 65 (0, 0) [] [(.int .i64 r64175.Size), (.bool r64175.Up), v112071, p127703.1, (.int .i64 s112078), (.int .i64 s112079), (.int .i64 r64175.Every), (.int .i64 s112080)] [], h112072, p127703.2, sg g64202 71 (0, 0) [] [(.int .i64 0), p125703.1] [], p125703.2, sg g64160 74 (0, 0) [] [(.int .i64 a1.Kind), (.int .i64 a1.N)] [], sg g64166 65 (0, 0) [] [(.int .i64 0), (.bool false), (.slice none 0 0), (.slice none 0 0), (.int .i64 0), (.int .i64 0), (.int .i64 0), (.int .i64 0)] [], sg g64171 71 (0, 0) [] [(.int .i64 0), (.slice none 0 0)] [], hF]) := hm128043
         refine s_val (v := (.pointer (some ⟨g64188, 2, none⟩))) (won rfl) rfl rfl (x_field rfl fa_65x2 (ev (t := 6) (v := (.pointer (some ⟨g64188, 0, none⟩))) rfl z127000x6)) ?_
         refine s_val (v := v112071) (won rfl) rfl rfl (x_load rfl ty1x26 (ev (t := 104) rfl rfl) (seg_cell (o' := 0) (j := 2) hm128043 (k := 1) rfl rfl rfl)) ?_
         refine s_val (v := (cutV v112071 (Int.toNat 1) s112070.length 1)) (won rfl) rfl rfl (y_slice_l rfl slt_26 (ev (t := 105) rfl rfl) rfl (H112073).sl hg128047.1 hg128047.2) ?_
         refine s_exv (won rfl) rfl rfl (e_append (bytes := 8) rfl slt_26 rfl (ev (t := 103) rfl rfl) (ev (t := 106) rfl rfl) H128045 (k := 0) rfl (cutV_rd (a := (Int.toNat 1)) (b := s112070.length) (H112073.rd w0) (by have := hg128047; omega) (Nat.le_refl _)) (Sub.at_ (k := 2) rfl) hm128043 hg128049 (len63 hg128049 rfl)) ?_
         rintro p128051 w128053 ⟨H128052, hm128054⟩
         replace hm128054 : Mem w0 w128053 (cat [p128051.2, sg g64188 65 (0, 0) [] [(.int .i64 r64175.Size), (.bool r64175.Up), v112071, p127703.1, (.int .i64 s112078), (.int .i64 s112079), (.int .i64 r64175.Every), (.int .i64 s112080)] [], h112072, p127703.2, sg g64202 71 (0, 0) [] [(.int .i64 0), p125703.1] [], p125703.2, sg g64160 74 (0, 0) [] [(.int .i64 a1.Kind), (.int .i64 a1.N)] [], sg g64166 65 (0, 0) [] [(.int .i64 0), (.bool false), (.slice none 0 0), (.slice none 0 0), (.int .i64 0), (.int .i64 0), (.int .i64 0), (.int .i64 0)] [], sg g64171 71 (0, 0) [] [(.int .i64 0), (.slice none 0 0)] [], hF]) := hm128054
         refine s_val (v := (.pointer (some ⟨g64188, 2, none⟩))) (won rfl) rfl rfl (x_field rfl fa_65x2 (ev (t := 6) (v := (.pointer (some ⟨g64188, 0, none⟩))) rfl z127000x6)) ?_
         refine s_exs (won rfl) rfl (e_store (vs := [p128051.1]) (o' := 0) (j := 2) rfl sz_26 (ev (t := 108) rfl rfl) (ev (t := 107) rfl rfl) (IsSl.cells (H128052).sl) (one_cons (IsSl.one (H128052).sl) one_nil) hm128054 (k := 1) rfl rfl rfl) ?_
         intro w128055 hm128056
         replace hm128056 : Mem w0 w128055 (cat [p128051.2, sg g64188 65 (0, 0) [] [(.int .i64 r64175.Size), (.bool r64175.Up), p128051.1, p127703.1, (.int .i64 s112078), (.int .i64 s112079), (.int .i64 r64175.Every), (.int .i64 s112080)] [], h112072, p127703.2, sg g64202 71 (0, 0) [] [(.int .i64 0), p125703.1] [], p125703.2, sg g64160 74 (0, 0) [] [(.int .i64 a1.Kind), (.int .i64 a1.N)] [], sg g64166 65 (0, 0) [] [(.int .i64 0), (.bool false), (.slice none 0 0), (.slice none 0 0), (.int .i64 0), (.int .i64 0), (.int .i64 0), (.int .i64 0)] [], sg g64171 71 (0, 0) [] [(.int .i64 0), (.slice none 0 0)] [], hF]) := hm128056
         refine wpList_nil ?_
         have hm128057 : Mem w0 w128055 (cat [p128051.2, sg g64188 65 (0, 0) [] [(.int .i64 r64175.Size), (.bool r64175.Up), p128051.1, p127703.1, (.int .i64 s112078), (.int .i64 s112079), (.int .i64 r64175.Every), (.int .i64 s112080)] [], p127703.2, sg g64202 71 (0, 0) [] [(.int .i64 0), p125703.1] [], p125703.2, sg g64160 74 (0, 0) [] [(.int .i64 a1.Kind), (.int .i64 a1.N)] [], sg g64166 65 (0, 0) [] [(.int .i64 0), (.bool false), (.slice none 0 0), (.slice none 0 0), (.int .i64 0), (.int .i64 0), (.int .i64 0), (.int .i64 0)] [], sg g64171 71 (0, 0) [] [(.int .i64 0), (.slice none 0 0)] [], hF]) := Mem.pick [0, 1, 3, 4, 5, 6, 7, 8, 9] rfl hm128056
         refine nx ?_
         refine wp_seq ?_
         refine wp_region_lit ?_
         refine s_val (v := (.pointer (some ⟨g64188, 5, none⟩))) (won rfl) rfl rfl (x_field rfl fa_65x5 (ev (t := 6) (v := (.pointer (some ⟨g64188, 0, none⟩))) rfl z127000x6)) ?_
         refine s_val (v := (.int .i64 s112079)) (won rfl) rfl rfl (x_load rfl ty1x3 (ev (t := 109) rfl rfl) (seg_cell (o' := 0) (j := 5) hm128057 (k := 1) rfl rfl rfl)) ?_
         refine s_val (v := (.int .i64 (IntKind.wrap .i64 (s112079 + 1)))) (won rfl) rfl rfl (x_add rfl (ev (t := 110) rfl rfl) rfl) ?_
         refine s_val (v := (.pointer (some ⟨g64188, 5, none⟩))) (won rfl) rfl rfl (x_field rfl fa_65x5 (ev (t := 6) (v := (.pointer (some ⟨g64188, 0, none⟩))) rfl z127000x6)) ?_
         refine s_exs (won rfl) rfl (e_store (vs := [(.int .i64 (IntKind.wrap .i64 (s112079 + 1)))]) (o' := 0) (j := 5) rfl sz_3 (ev (t := 112) rfl rfl) (ev (t := 111) rfl rfl) rfl rfl hm128057 (k := 1) rfl rfl rfl) ?_
         intro w128058 hm128059
         replace hm128059 : Mem w0 w128058 (cat [p128051.2, sg g64188 65 (0, 0) [] [(.int .i64 r64175.Size), (.bool r64175.Up), p128051.1, p127703.1, (.int .i64 s112078), (.int .i64 (IntKind.wrap .i64 (s112079 + 1))), (.int .i64 r64175.Every), (.int .i64 s112080)] [], p127703.2, sg g64202 71 (0, 0) [] [(.int .i64 0), p125703.1] [], p125703.2, sg g64160 74 (0, 0) [] [(.int .i64 a1.Kind), (.int .i64 a1.N)] [], sg g64166 65 (0, 0) [] [(.int .i64 0), (.bool false), (.slice none 0 0), (.slice none 0 0), (.int .i64 0), (.int .i64 0), (.int .i64 0), (.int .i64 0)] [], sg g64171 71 (0, 0) [] [(.int .i64 0), (.slice none 0 0)] [], hF]) := hm128059
         refine wpList_nil ?_
         refine nx ?_
         refine wp_seq ?_
         refine wp_region_lit ?_
         refine s_val (v := (.pointer (some ⟨g64188, 5, none⟩))) (won rfl) rfl rfl (x_field rfl fa_65x5 (ev (t := 6) (v := (.pointer (some ⟨g64188, 0, none⟩))) rfl z127000x6)) ?_
         refine s_val (v := (.int .i64 (IntKind.wrap .i64 (s112079 + 1)))) (won rfl) rfl rfl (x_load rfl ty1x3 (ev (t := 113) rfl rfl) (seg_cell (o' := 0) (j := 5) hm128059 (k := 1) rfl rfl rfl)) ?_
         refine s_val (v := (.pointer (some ⟨g64188, 6, none⟩))) (won rfl) rfl rfl (x_field rfl fa_65x6 (ev (t := 6) (v := (.pointer (some ⟨g64188, 0, none⟩))) rfl z127000x6)) ?_
         refine s_val (v := (.int .i64 r64175.Every)) (won rfl) rfl rfl (x_load rfl ty1x3 (ev (t := 115) rfl rfl) (seg_cell (o' := 0) (j := 6) hm128059 (k := 1) rfl rfl rfl)) ?_
         refine s_val (v := (.bool (decide ((IntKind.wrap .i64 (s112079 + 1)) = r64175.Every)))) (won rfl) rfl rfl (x_eql rfl (ev (t := 114) rfl rfl) (ev (t := 116) rfl rfl)) ?_
         refine wpList_nil ?_
         refine nx ?_
         rcases Bool.eq_false_or_eq_true ((decide ((IntKind.wrap .i64 (s112079 + 1)) = r64175.Every))) with hb128060 | hb128060
         ·
          replace he := bifT he hb128060
          refine c_true rfl (p := (decide ((IntKind.wrap .i64 (s112079 + 1)) = r64175.Every))) rfl rfl hb128060 ?_
          refine wp_seq ?_
          refine wp_region_lit ?_
          refine s_val (v := (.pointer (some ⟨g64188, 5, none⟩))) (won rfl) rfl rfl (x_field rfl fa_65x5 (ev (t := 6) (v := (.pointer (some ⟨g64188, 0, none⟩))) rfl z127000x6)) ?_
          refine s_exs (won rfl) rfl (e_store (vs := [(.int .i64 0)]) (o' := 0) (j := 5) rfl sz_3 (ev (t := 118) rfl rfl) rfl rfl rfl hm128059 (k := 1) rfl rfl rfl) ?_
          intro w128061 hm128062
          replace hm128062 : Mem w0 w128061 (cat [p128051.2, sg g64188 65 (0, 0) [] [(.int .i64 r64175.Size), (.bool r64175.Up), p128051.1, p127703.1, (.int .i64 s112078), (.int .i64 0), (.int .i64 r64175.Every), (.int .i64 s112080)] [], p127703.2, sg g64202 71 (0, 0) [] [(.int .i64 0), p125703.1] [], p125703.2, sg g64160 74 (0, 0) [] [(.int .i64 a1.Kind), (.int .i64 a1.N)] [], sg g64166 65 (0, 0) [] [(.int .i64 0), (.bool false), (.slice none 0 0), (.slice none 0 0), (.int .i64 0), (.int .i64 0), (.int .i64 0), (.int .i64 0)] [], sg g64171 71 (0, 0) [] [(.int .i64 0), (.slice none 0 0)] [], hF]) := hm128062
          refine wpList_nil ?_
          refine nx ?_
          refine wp_region_lit ?_
          refine s_val (v := (.pointer (some ⟨g64188, 7, none⟩))) (won rfl) rfl rfl (x_field rfl fa_65x7 (ev (t := 6) (v := (.pointer (some ⟨g64188, 0, none⟩))) rfl z127000x6)) ?_
          refine s_val (v := (.int .i64 s112080)) (won rfl) rfl rfl (x_load rfl ty1x3 (ev (t := 119) rfl rfl) (seg_cell (o' := 0) (j := 7) hm128062 (k := 1) rfl rfl rfl)) ?_
          refine s_val (v := (.int .i64 (IntKind.wrap .i64 (s112080 + 1)))) (won rfl) rfl rfl (x_add rfl (ev (t := 120) rfl rfl) rfl) ?_
          refine s_val (v := (.int .i64 (iMin (IntKind.wrap .i64 (s112080 + 1)) 1000000000))) (won rfl) rfl rfl (x_min rfl (ev (t := 121) rfl rfl) rfl) ?_
          refine s_val (v := (.pointer (some ⟨g64188, 7, none⟩))) (won rfl) rfl rfl (x_field rfl fa_65x7 (ev (t := 6) (v := (.pointer (some ⟨g64188, 0, none⟩))) rfl z127000x6)) ?_
          refine s_exs (won rfl) rfl (e_store (vs := [(.int .i64 (iMin (IntKind.wrap .i64 (s112080 + 1)) 1000000000))]) (o' := 0) (j := 7) rfl sz_3 (ev (t := 123) rfl rfl) (ev (t := 122) rfl rfl) rfl rfl hm128062 (k := 1) rfl rfl rfl) ?_
          intro w128063 hm128064
          replace hm128064 : Mem w0 w128063 (cat [p128051.2, sg g64188 65 (0, 0) [] [(.int .i64 r64175.Size), (.bool r64175.Up), p128051.1, p127703.1, (.int .i64 s112078), (.int .i64 0), (.int .i64 r64175.Every), (.int .i64 (iMin (IntKind.wrap .i64 (s112080 + 1)) 1000000000))] [], p127703.2, sg g64202 71 (0, 0) [] [(.int .i64 0), p125703.1] [], p125703.2, sg g64160 74 (0, 0) [] [(.int .i64 a1.Kind), (.int .i64 a1.N)] [], sg g64166 65 (0, 0) [] [(.int .i64 0), (.bool false), (.slice none 0 0), (.slice none 0 0), (.int .i64 0), (.int .i64 0), (.int .i64 0), (.int .i64 0)] [], sg g64171 71 (0, 0) [] [(.int .i64 0), (.slice none 0 0)] [], hF]) := hm128064
          refine wpList_nil ?_
          refine nb ?_
          refine nx ?_
          obtain rfl := Option.some.inj he
          exact ⟨p128051.1, p128051.2, p127703.1, p127703.2, p125703.1, p125703.2, _, rfl, z127000x3, z127000x4, z127000x5, z127000x6, z127000x7, z127000x8, H128052, H127704, H125704, Mem.pick [5, 6, 7, 1, 3, 0, 2, 4, 8] rfl hm128064⟩
         ·
          replace he := bifF he hb128060
          refine c_false rfl (p := (decide ((IntKind.wrap .i64 (s112079 + 1)) = r64175.Every))) rfl rfl hb128060 ?_
          refine wp_skip ?_
          refine nb ?_
          refine nx ?_
          obtain rfl := Option.some.inj he
          exact ⟨p128051.1, p128051.2, p127703.1, p127703.2, p125703.1, p125703.2, _, rfl, z127000x3, z127000x4, z127000x5, z127000x6, z127000x7, z127000x8, H128052, H127704, H125704, Mem.pick [5, 6, 7, 1, 3, 0, 2, 4, 8] rfl hm128059⟩
       ·
        rintro a w ⟨v124070, h124071, v124075, h124076, v124084, h124085, f, rfl, q124065, q124066, q124067, q124081, q124087, q124088, H124072, H124077, H124086, hm128066⟩
        replace he := hk124090
        refine wp_region_lit ?_
        refine s_val (v := (.int .i64 s112087)) (won rfl) rfl rfl (x_move rfl (ev (t := 8) (v := (.int .i64 s112087)) rfl q124088)) ?_
        refine s_val (v := (.int .i64 (IntKind.wrap .i64 (s112087 + 1)))) (won rfl) rfl rfl (x_add rfl (ev (t := 69) rfl rfl) rfl) ?_
        refine s_val (v := (.int .i64 (IntKind.wrap .i64 (s112087 + 1)))) (won rfl) rfl rfl (x_assign rfl (ev (t := 70) rfl rfl)) ?_
        refine wpList_nil ?_
        refine nx ?_
        exact ⟨s124089.1, s124089.2.1, s124089.2.2.1, s124089.2.2.2.1, s124089.2.2.2.2.1, s124089.2.2.2.2.2, (IntKind.wrap .i64 (s112087 + 1)), v124070, h124071, v124075, h124076, v124084, h124085, _, he, rfl, q124065, q124066, q124067, q124081, q124087, rfl, H124072, H124077, H124086, Mem.pick [0, 1, 2, 3, 4, 5, 6, 7, 8] rfl hm128066⟩
      ·
       replace he := bifF he hb120072
       refine c_false rfl (p := (decide (s112087 < a1.N))) rfl rfl hb120072 ?_
       refine wp_exit ?_
       refine xs ?_
       refine xs ?_
       refine xb ?_
       refine nb ?_
       refine nx ?_
       obtain rfl := Option.some.inj he
       exact ⟨v112071, h112072, v112075, h112076, v112083, h112084, _, rfl, q112068, q112069, q112081, q112086, H112073, H112077, H112085, Mem.pick [1, 2, 3, 4, 5, 6, 7, 8] rfl hm120070⟩
   ·
    replace he := bifF he hb96211
    refine c_false rfl (p := (decide (a1.Kind = 2))) rfl rfl hb96211 ?_
    refine wp_seq ?_
    refine wp_region_lit ?_
    refine s_val (v := (.bool (decide (a1.Kind = 3)))) (won rfl) rfl rfl (x_eql rfl (ev (t := 15) rfl rfl) rfl) ?_
    refine s_val (v := (.bool (decide (a1.Kind = 3)))) (won rfl) rfl rfl (x_assign rfl (ev (t := 125) rfl rfl)) ?_
    refine wpList_nil ?_
    refine nx ?_
    rcases Bool.eq_false_or_eq_true ((decide (a1.Kind = 3))) with hb128067 | hb128067
    ·
     replace he := bifT he hb128067
     refine c_true rfl (p := (decide (a1.Kind = 3))) rfl rfl hb128067 ?_
     refine wp_seq ?_
     refine wp_seq ?_
     refine wp_region_lit ?_
     refine s_val (v := (.pointer (some ⟨g64160, 1, none⟩))) (won rfl) rfl rfl (x_field rfl fa_74x1 (ev (t := 3) rfl rfl)) ?_
     refine s_val (v := (.int .i64 a1.N)) (won rfl) rfl rfl (x_load rfl ty1x3 (ev (t := 126) rfl rfl) (seg_cell (o' := 0) (j := 1) hm64207 (k := 7) rfl rfl rfl)) ?_
     refine s_val (v := (.bool (decide (a1.N < 1)))) (won rfl) rfl rfl (x_lss rfl (ev (t := 127) rfl rfl) rfl) ?_
     refine wpList_nil ?_
     refine nx ?_
     rcases Bool.eq_false_or_eq_true ((decide (a1.N < 1))) with hb128072 | hb128072
     ·
      replace he := bifT he hb128072
      refine c_true rfl (p := (decide (a1.N < 1))) rfl rfl hb128072 ?_
      refine wp_seq ?_
      refine wp_region_lit ?_
      refine s_val (v := (.pointer (some ⟨g64202, 0, none⟩))) (won rfl) rfl rfl (x_field rfl fa_71x0 (ev (t := 7) rfl rfl)) ?_
      refine s_exs (won rfl) rfl (e_store (vs := [(.int .i64 4)]) (o' := 0) (j := 0) rfl sz_3 (ev (t := 129) rfl rfl) rfl rfl rfl hm64207 (k := 0) rfl rfl rfl) ?_
      intro w128073 hm128074
      replace hm128074 : Mem w0 w128073 (cat [sg g64202 71 (0, 0) [] [(.int .i64 4), (.slice (some ⟨g64197, 0, none⟩) 0 0)] [], (sg g64197 3 (0, 0) [] (encs (FK.int .i64) ([] : List Int)) []), sg g64188 65 (0, 0) [] [(.int .i64 r64175.Size), (.bool r64175.Up), v64177, v64181, (.int .i64 r64175.Lost), (.int .i64 r64175.Pending), (.int .i64 r64175.Every), (.int .i64 r64175.Signals)] [], h64179, h64183, sg g64171 71 (0, 0) [] [(.int .i64 0), (.slice none 0 0)] [], sg g64166 65 (0, 0) [] [(.int .i64 0), (.bool false), (.slice none 0 0), (.slice none 0 0), (.int .i64 0), (.int .i64 0), (.int .i64 0), (.int .i64 0)] [], sg g64160 74 (0, 0) [] [(.int .i64 a1.Kind), (.int .i64 a1.N)] [], hF]) := hm128074
      refine wpList_nil ?_
      have hm128075 : Mem w0 w128073 (cat [sg g64202 71 (0, 0) [] [(.int .i64 4), (.slice (some ⟨g64197, 0, none⟩) 0 0)] [], (sg g64197 3 (0, 0) [] (encs (FK.int .i64) ([] : List Int)) []), sg g64188 65 (0, 0) [] [(.int .i64 r64175.Size), (.bool r64175.Up), v64177, v64181, (.int .i64 r64175.Lost), (.int .i64 r64175.Pending), (.int .i64 r64175.Every), (.int .i64 r64175.Signals)] [], h64179, h64183, sg g64171 71 (0, 0) [] [(.int .i64 0), (.slice none 0 0)] [], sg g64166 65 (0, 0) [] [(.int .i64 0), (.bool false), (.slice none 0 0), (.slice none 0 0), (.int .i64 0), (.int .i64 0), (.int .i64 0), (.int .i64 0)] [], hF]) := Mem.pick [0, 1, 2, 3, 4, 5, 6, 8] rfl hm128074
      refine nx ?_
      refine wp_exit ?_
      refine xs ?_
      refine xb ?_
      refine nx ?_
      obtain rfl := Option.some.inj he
      exact ⟨v64177, h64179, v64181, h64183, (.slice (some ⟨g64197, 0, none⟩) 0 0), (sg g64197 3 (0, 0) [] (encs (FK.int .i64) ([] : List Int)) []), _, rfl, rfl, rfl, rfl, rfl, H64178, H64182, H64198, Mem.pick [6, 5, 2, 0, 3, 4, 1, 7] rfl hm128075⟩
     ·
      replace he := bifF he hb128072
      refine c_false rfl (p := (decide (a1.N < 1))) rfl rfl hb128072 ?_
      refine wp_skip ?_
      refine nx ?_
      refine wp_seq ?_
      refine wp_region_lit ?_
      refine s_val (v := (.pointer (some ⟨g64160, 1, none⟩))) (won rfl) rfl rfl (x_field rfl fa_74x1 (ev (t := 3) rfl rfl)) ?_
      refine s_val (v := (.int .i64 a1.N)) (won rfl) rfl rfl (x_load rfl ty1x3 (ev (t := 130) rfl rfl) (seg_cell (o' := 0) (j := 1) hm64207 (k := 7) rfl rfl rfl)) ?_
      refine s_val (v := (.pointer (some ⟨g64188, 3, none⟩))) (won rfl) rfl rfl (x_field rfl fa_65x3 (ev (t := 6) rfl rfl)) ?_
      refine s_val (v := v64181) (won rfl) rfl rfl (x_load rfl ty1x26 (ev (t := 132) rfl rfl) (seg_cell (o' := 0) (j := 3) hm64207 (k := 2) rfl rfl rfl)) ?_
      refine s_val (v := (.int .i64 (r64175.Done.length : Int))) (won rfl) rfl rfl (x_len rfl slt_26 (ev (t := 133) rfl rfl) (H64182).sl) ?_
      refine s_val (v := (.int .i64 (iMin a1.N (r64175.Done.length : Int)))) (won rfl) rfl rfl (x_min rfl (ev (t := 131) rfl rfl) (ev (t := 134) rfl rfl)) ?_
      refine s_val (v := (.int .i64 (iMin a1.N (r64175.Done.length : Int)))) (won rfl) rfl rfl (x_assign rfl (ev (t := 135) rfl rfl)) ?_
      refine wpList_nil ?_
      have hm128076 : Mem w0 w64206 (cat [sg g64202 71 (0, 0) [] [(.int .i64 0), (.slice (some ⟨g64197, 0, none⟩) 0 0)] [], (sg g64197 3 (0, 0) [] (encs (FK.int .i64) ([] : List Int)) []), sg g64188 65 (0, 0) [] [(.int .i64 r64175.Size), (.bool r64175.Up), v64177, v64181, (.int .i64 r64175.Lost), (.int .i64 r64175.Pending), (.int .i64 r64175.Every), (.int .i64 r64175.Signals)] [], h64179, h64183, sg g64171 71 (0, 0) [] [(.int .i64 0), (.slice none 0 0)] [], sg g64166 65 (0, 0) [] [(.int .i64 0), (.bool false), (.slice none 0 0), (.slice none 0 0), (.int .i64 0), (.int .i64 0), (.int .i64 0), (.int .i64 0)] [], hF]) := Mem.pick [0, 1, 2, 3, 4, 5, 6, 8] rfl hm64207
      refine nx ?_
      refine wp_seq ?_
      obtain ⟨hg128078, he⟩ := gdE he
      obtain ⟨hg128080, he⟩ := gdE he
      refine wp_fit [(0, 1), (1, 1), (2, 1), (3, 1), (4, 1), (5, 1), (6, 2), (7, 1), (8, 2)] (fun w' => Mem w0 w' (cat [sg g64188 65 (0, 0) [] [(.int .i64 r64175.Size), (.bool r64175.Up), v64177, v64181, (.int .i64 r64175.Lost), (.int .i64 r64175.Pending), (.int .i64 r64175.Every), (.int .i64 r64175.Signals)] [], h64179, h64183, sg g64171 71 (0, 0) [] [(.int .i64 0), (.slice none 0 0)] [], sg g64166 65 (0, 0) [] [(.int .i64 0), (.bool false), (.slice none 0 0), (.slice none 0 0), (.int .i64 0), (.int .i64 0), (.int .i64 0), (.int .i64 0)] [], hF])) mixed (by kernel_rfl) (Mem.drew (Mem.pick [2, 3, 4, 5, 6, 7] rfl hm128076)) ?_
      have hm128077 := Mem.drew hm128076
      refine z_r (v := (.pointer (some ⟨g64202, 1, none⟩))) rfl (won rfl) rfl rfl ((x_field rfl fa_71x1 (ev (t := 7) rfl rfl))) ?_
      refine z_r (v := (.slice (some ⟨g64197, 0, none⟩) 0 0)) rfl (won rfl) rfl rfl ((x_load rfl ty1x26 (ev (t := 136) rfl rfl) (seg_cell (o' := 0) (j := 1) hm128077 (k := 0) rfl rfl rfl))) ?_
      refine z_r (v := (.pointer (some ⟨g64188, 3, none⟩))) rfl (won rfl) rfl rfl ((x_field rfl fa_65x3 (ev (t := 6) rfl rfl))) ?_
      refine z_r (v := v64181) rfl (won rfl) rfl rfl ((x_load rfl ty1x26 (ev (t := 138) rfl rfl) (seg_cell (o' := 0) (j := 3) hm128077 (k := 2) rfl rfl rfl))) ?_
      refine z_r (v := (.int .i64 (iMin a1.N (r64175.Done.length : Int)))) rfl (won rfl) rfl rfl ((x_move rfl (ev (t := 9) rfl rfl))) ?_
      refine z_r (v := (cutV v64181 0 (Int.toNat (iMin a1.N (r64175.Done.length : Int))) 1)) rfl (won rfl) rfl rfl ((y_slice_h rfl slt_26 (ev (t := 139) rfl rfl) (ev (t := 140) rfl rfl) (H64182).sl hg128078.1 hg128078.2)) ?_
      refine z_exv rfl (won rfl) rfl rfl (e_append (bytes := 8) rfl slt_26 rfl (ev (t := 137) rfl rfl) (ev (t := 141) rfl rfl) H64198 (k := 1) rfl (cutV_rd (a := 0) (b := (Int.toNat (iMin a1.N (r64175.Done.length : Int)))) (H64182.rd w0) (Nat.zero_le _) (by have := hg128078; omega)) (Sub.at_ (k := 4) rfl) hm128077 hg128080 (len63 hg128080 rfl)) ?_
      rintro p128082 w128084 ⟨H128083, hm128085⟩
      replace hm128085 : Mem w0 w128084 (cat [sg g64202 71 (0, 0) [] [(.int .i64 0), (.slice (some ⟨g64197, 0, none⟩) 0 0)] [], p128082.2, sg g64188 65 (0, 0) [] [(.int .i64 r64175.Size), (.bool r64175.Up), v64177, v64181, (.int .i64 r64175.Lost), (.int .i64 r64175.Pending), (.int .i64 r64175.Every), (.int .i64 r64175.Signals)] [], h64179, h64183, sg g64171 71 (0, 0) [] [(.int .i64 0), (.slice none 0 0)] [], sg g64166 65 (0, 0) [] [(.int .i64 0), (.bool false), (.slice none 0 0), (.slice none 0 0), (.int .i64 0), (.int .i64 0), (.int .i64 0), (.int .i64 0)] [], hF]) := hm128085
      refine ⟨Mem.pick [2, 3, 4, 5, 6, 7] rfl hm128085, ?_⟩
      refine z_r (v := (.pointer (some ⟨g64202, 1, none⟩))) rfl (won rfl) rfl rfl ((x_field rfl fa_71x1 (ev (t := 7) rfl rfl))) ?_
      refine z_exs rfl (won rfl) rfl (e_store (vs := [p128082.1]) (o' := 0) (j := 1) rfl sz_26 (ev (t := 143) rfl rfl) (ev (t := 142) rfl rfl) (IsSl.cells (H128083).sl) (one_cons (IsSl.one (H128083).sl) one_nil) hm128085 (k := 0) rfl rfl rfl) ?_
      intro w128086 hm128087
      replace hm128087 : Mem w0 w128086 (cat [sg g64202 71 (0, 0) [] [(.int .i64 0), p128082.1] [], p128082.2, sg g64188 65 (0, 0) [] [(.int .i64 r64175.Size), (.bool r64175.Up), v64177, v64181, (.int .i64 r64175.Lost), (.int .i64 r64175.Pending), (.int .i64 r64175.Every), (.int .i64 r64175.Signals)] [], h64179, h64183, sg g64171 71 (0, 0) [] [(.int .i64 0), (.slice none 0 0)] [], sg g64166 65 (0, 0) [] [(.int .i64 0), (.bool false), (.slice none 0 0), (.slice none 0 0), (.int .i64 0), (.int .i64 0), (.int .i64 0), (.int .i64 0)] [], hF]) := hm128087
      refine ⟨Mem.pick [2, 3, 4, 5, 6, 7] rfl hm128087, ?_⟩
      refine z_nil ?_
      refine nx ?_
      refine wp_seq ?_
      obtain ⟨hg128093, he⟩ := gdE he
      obtain ⟨hg128095, he⟩ := gdE he
      refine wp_region_lit ?_
      refine s_exv (won rfl) rfl rfl (e_litp (cells := []) (ps := []) rfl slt_26 (pmap_lit pmap_nil) (fun w1 => run_bslice0 slt_26) hm128087) ?_
      rintro g128090 w128088 hm128089
      have H128091 : OwF 3 (FK.int .i64) (.slice (some ⟨g128090, 0, none⟩) 0 0) ([] : List Int) (sg g128090 3 (0, 0) [] (encs (FK.int .i64) ([] : List Int)) []) := OwF.lit g128090 ([] : List Int) 0 rfl (by decide)
      replace hm128089 : Mem w0 w128088 (cat [(sg g128090 3 (0, 0) [] (encs (FK.int .i64) ([] : List Int)) []), sg g64202 71 (0, 0) [] [(.int .i64 0), p128082.1] [], p128082.2, sg g64188 65 (0, 0) [] [(.int .i64 r64175.Size), (.bool r64175.Up), v64177, v64181, (.int .i64 r64175.Lost), (.int .i64 r64175.Pending), (.int .i64 r64175.Every), (.int .i64 r64175.Signals)] [], h64179, h64183, sg g64171 71 (0, 0) [] [(.int .i64 0), (.slice none 0 0)] [], sg g64166 65 (0, 0) [] [(.int .i64 0), (.bool false), (.slice none 0 0), (.slice none 0 0), (.int .i64 0), (.int .i64 0), (.int .i64 0), (.int .i64 0)] [], hF]) := hm128089
      refine s_val (v := (.pointer (some ⟨g64188, 3, none⟩))) (won rfl) rfl rfl (x_field rfl fa_65x3 (ev (t := 6) rfl rfl)) ?_
      refine s_val (v := v64181) (won rfl) rfl rfl (x_load rfl ty1x26 (ev (t := 145) rfl rfl) (seg_cell (o' := 0) (j := 3) hm128089 (k := 3) rfl rfl rfl)) ?_
      refine s_val (v := (.int .i64 (iMin a1.N (r64175.Done.length : Int)))) (won rfl) rfl rfl (x_move rfl (ev (t := 9) rfl rfl)) ?_
      refine s_val (v := (cutV v64181 (Int.toNat (iMin a1.N (r64175.Done.length : Int))) r64175.Done.length 1)) (won rfl) rfl rfl (y_slice_l rfl slt_26 (ev (t := 146) rfl rfl) (ev (t := 147) rfl rfl) (H64182).sl hg128093.1 hg128093.2) ?_
      refine s_exv (won rfl) rfl rfl (e_append (bytes := 8) rfl slt_26 rfl (ev (t := 144) rfl rfl) (ev (t := 148) rfl rfl) H128091 (k := 0) rfl (cutV_rd (a := (Int.toNat (iMin a1.N (r64175.Done.length : Int)))) (b := r64175.Done.length) (H64182.rd w0) (by have := hg128093; omega) (Nat.le_refl _)) (Sub.at_ (k := 5) rfl) hm128089 hg128095 (len63 hg128095 rfl)) ?_
      rintro p128097 w128099 ⟨H128098, hm128100⟩
      replace hm128100 : Mem w0 w128099 (cat [p128097.2, sg g64202 71 (0, 0) [] [(.int .i64 0), p128082.1] [], p128082.2, sg g64188 65 (0, 0) [] [(.int .i64 r64175.Size), (.bool r64175.Up), v64177, v64181, (.int .i64 r64175.Lost), (.int .i64 r64175.Pending), (.int .i64 r64175.Every), (.int .i64 r64175.Signals)] [], h64179, h64183, sg g64171 71 (0, 0) [] [(.int .i64 0), (.slice none 0 0)] [], sg g64166 65 (0, 0) [] [(.int .i64 0), (.bool false), (.slice none 0 0), (.slice none 0 0), (.int .i64 0), (.int .i64 0), (.int .i64 0), (.int .i64 0)] [], hF]) := hm128100
      refine s_val (v := (.pointer (some ⟨g64188, 3, none⟩))) (won rfl) rfl rfl (x_field rfl fa_65x3 (ev (t := 6) rfl rfl)) ?_
      refine s_exs (won rfl) rfl (e_store (vs := [p128097.1]) (o' := 0) (j := 3) rfl sz_26 (ev (t := 150) rfl rfl) (ev (t := 149) rfl rfl) (IsSl.cells (H128098).sl) (one_cons (IsSl.one (H128098).sl) one_nil) hm128100 (k := 3) rfl rfl rfl) ?_
      intro w128101 hm128102
      replace hm128102 : Mem w0 w128101 (cat [p128097.2, sg g64202 71 (0, 0) [] [(.int .i64 0), p128082.1] [], p128082.2, sg g64188 65 (0, 0) [] [(.int .i64 r64175.Size), (.bool r64175.Up), v64177, p128097.1, (.int .i64 r64175.Lost), (.int .i64 r64175.Pending), (.int .i64 r64175.Every), (.int .i64 r64175.Signals)] [], h64179, h64183, sg g64171 71 (0, 0) [] [(.int .i64 0), (.slice none 0 0)] [], sg g64166 65 (0, 0) [] [(.int .i64 0), (.bool false), (.slice none 0 0), (.slice none 0 0), (.int .i64 0), (.int .i64 0), (.int .i64 0), (.int .i64 0)] [], hF]) := hm128102
      refine wpList_nil ?_
      have hm128103 : Mem w0 w128101 (cat [p128097.2, sg g64202 71 (0, 0) [] [(.int .i64 0), p128082.1] [], p128082.2, sg g64188 65 (0, 0) [] [(.int .i64 r64175.Size), (.bool r64175.Up), v64177, p128097.1, (.int .i64 r64175.Lost), (.int .i64 r64175.Pending), (.int .i64 r64175.Every), (.int .i64 r64175.Signals)] [], h64179, sg g64171 71 (0, 0) [] [(.int .i64 0), (.slice none 0 0)] [], sg g64166 65 (0, 0) [] [(.int .i64 0), (.bool false), (.slice none 0 0), (.slice none 0 0), (.int .i64 0), (.int .i64 0), (.int .i64 0), (.int .i64 0)] [], hF]) := Mem.pick [0, 1, 2, 3, 4, 6, 7, 8] rfl hm128102
      refine nx ?_
      refine wp_region_lit ?_
      refine s_val (v := (.pointer (some ⟨g64188, 5, none⟩))) (won rfl) rfl rfl (x_field rfl fa_65x5 (ev (t := 6) rfl rfl)) ?_
      refine s_val (v := (.int .i64 r64175.Pending)) (won rfl) rfl rfl (x_load rfl ty1x3 (ev (t := 151) rfl rfl) (seg_cell (o' := 0) (j := 5) hm128103 (k := 3) rfl rfl rfl)) ?_
      refine s_val (v := (.pointer (some ⟨g64188, 3, none⟩))) (won rfl) rfl rfl (x_field rfl fa_65x3 (ev (t := 6) rfl rfl)) ?_
      refine s_val (v := p128097.1) (won rfl) rfl rfl (x_load rfl ty1x26 (ev (t := 153) rfl rfl) (seg_cell (o' := 0) (j := 3) hm128103 (k := 3) rfl rfl rfl)) ?_
      refine s_val (v := (.int .i64 ((([] : List Int) ++ (slc r64175.Done (Int.toNat (iMin a1.N (r64175.Done.length : Int))) r64175.Done.length)).length : Int))) (won rfl) rfl rfl (x_len rfl slt_26 (ev (t := 154) rfl rfl) (H128098).sl) ?_
      refine s_val (v := (.int .i64 (iMin r64175.Pending ((([] : List Int) ++ (slc r64175.Done (Int.toNat (iMin a1.N (r64175.Done.length : Int))) r64175.Done.length)).length : Int)))) (won rfl) rfl rfl (x_min rfl (ev (t := 152) rfl rfl) (ev (t := 155) rfl rfl)) ?_
      refine s_val (v := (.pointer (some ⟨g64188, 5, none⟩))) (won rfl) rfl rfl (x_field rfl fa_65x5 (ev (t := 6) rfl rfl)) ?_
      refine s_exs (won rfl) rfl (e_store (vs := [(.int .i64 (iMin r64175.Pending ((([] : List Int) ++ (slc r64175.Done (Int.toNat (iMin a1.N (r64175.Done.length : Int))) r64175.Done.length)).length : Int)))]) (o' := 0) (j := 5) rfl sz_3 (ev (t := 157) rfl rfl) (ev (t := 156) rfl rfl) rfl rfl hm128103 (k := 3) rfl rfl rfl) ?_
      intro w128104 hm128105
      replace hm128105 : Mem w0 w128104 (cat [p128097.2, sg g64202 71 (0, 0) [] [(.int .i64 0), p128082.1] [], p128082.2, sg g64188 65 (0, 0) [] [(.int .i64 r64175.Size), (.bool r64175.Up), v64177, p128097.1, (.int .i64 r64175.Lost), (.int .i64 (iMin r64175.Pending ((([] : List Int) ++ (slc r64175.Done (Int.toNat (iMin a1.N (r64175.Done.length : Int))) r64175.Done.length)).length : Int))), (.int .i64 r64175.Every), (.int .i64 r64175.Signals)] [], h64179, sg g64171 71 (0, 0) [] [(.int .i64 0), (.slice none 0 0)] [], sg g64166 65 (0, 0) [] [(.int .i64 0), (.bool false), (.slice none 0 0), (.slice none 0 0), (.int .i64 0), (.int .i64 0), (.int .i64 0), (.int .i64 0)] [], hF]) := hm128105
      refine wpList_nil ?_
      refine nb ?_
      refine nx ?_
      obtain rfl := Option.some.inj he
      exact ⟨v64177, h64179, p128097.1, p128097.2, p128082.1, p128082.2, _, rfl, rfl, rfl, rfl, rfl, H64178, H128098, H128083, Mem.pick [6, 5, 3, 1, 4, 0, 2, 7] rfl hm128105⟩
    ·
     replace he := bifF he hb128067
     refine c_false rfl (p := (decide (a1.Kind = 3))) rfl rfl hb128067 ?_
     refine wp_seq ?_
     refine wp_region_lit ?_
     refine s_val (v := (.bool (decide (a1.Kind = 4)))) (won rfl) rfl rfl (x_eql rfl (ev (t := 15) rfl rfl) rfl) ?_
     refine s_val (v := (.bool (decide (a1.Kind = 4)))) (won rfl) rfl rfl (x_assign rfl (ev (t := 159) rfl rfl)) ?_
     refine wpList_nil ?_
     refine nx ?_
     rcases Bool.eq_false_or_eq_true ((decide (a1.Kind = 4))) with hb128106 | hb128106
     ·
      replace he := bifT he hb128106
      refine c_true rfl (p := (decide (a1.Kind = 4))) rfl rfl hb128106 ?_
      refine wp_seq ?_
      obtain ⟨hg128108, he⟩ := gdE he
      obtain ⟨hg128114, he⟩ := gdE he
      refine wp_fit [(0, 1), (1, 1), (2, 1), (3, 1), (5, 0), (6, 0), (4, 2), (7, 2), (8, 1), (9, 2)] (fun w' => Mem w0 w' (cat [sg g64188 65 (0, 0) [] [(.int .i64 r64175.Size), (.bool r64175.Up), v64177, v64181, (.int .i64 r64175.Lost), (.int .i64 r64175.Pending), (.int .i64 r64175.Every), (.int .i64 r64175.Signals)] [], h64179, h64183, sg g64171 71 (0, 0) [] [(.int .i64 0), (.slice none 0 0)] [], sg g64166 65 (0, 0) [] [(.int .i64 0), (.bool false), (.slice none 0 0), (.slice none 0 0), (.int .i64 0), (.int .i64 0), (.int .i64 0), (.int .i64 0)] [], sg g64160 74 (0, 0) [] [(.int .i64 a1.Kind), (.int .i64 a1.N)] [], hF])) mixed (by kernel_rfl) (Mem.drew (Mem.pick [2, 3, 4, 5, 6, 7, 8] rfl hm64207)) ?_
      have hm128107 := Mem.drew hm64207
      refine z_r (v := (.pointer (some ⟨g64202, 1, none⟩))) rfl (won rfl) rfl rfl ((x_field rfl fa_71x1 (ev (t := 7) rfl rfl))) ?_
      refine z_r (v := (.slice (some ⟨g64197, 0, none⟩) 0 0)) rfl (won rfl) rfl rfl ((x_load rfl ty1x26 (ev (t := 160) rfl rfl) (seg_cell (o' := 0) (j := 1) hm128107 (k := 0) rfl rfl rfl))) ?_
      refine z_r (v := (.pointer (some ⟨g64188, 3, none⟩))) rfl (won rfl) rfl rfl ((x_field rfl fa_65x3 (ev (t := 6) rfl rfl))) ?_
      refine z_r (v := v64181) rfl (won rfl) rfl rfl ((x_load rfl ty1x26 (ev (t := 162) rfl rfl) (seg_cell (o' := 0) (j := 3) hm128107 (k := 2) rfl rfl rfl))) ?_
      refine z_q (v := (.pointer (some ⟨g64188, 2, none⟩))) rfl (won rfl) rfl rfl (fun wq hq => (x_field rfl fa_65x2 (ev (t := 6) rfl rfl))) ?_
      refine z_q (v := v64177) rfl (won rfl) rfl rfl (fun wq hq => (x_load rfl ty1x26 (ev (t := 165) rfl rfl) (seg_cell (o' := 0) (j := 2) hq (k := 0) rfl rfl rfl))) ?_
      refine z_exv rfl (won rfl) rfl rfl (e_append (bytes := 8) rfl slt_26 rfl (ev (t := 161) rfl rfl) (ev (t := 163) rfl rfl) H64198 (k := 1) rfl (H64182.rd w0) (Sub.at_ (k := 4) rfl) hm128107 hg128108 (len63 hg128108 rfl)) ?_
      rintro p128110 w128112 ⟨H128111, hm128113⟩
      replace hm128113 : Mem w0 w128112 (cat [sg g64202 71 (0, 0) [] [(.int .i64 0), (.slice (some ⟨g64197, 0, none⟩) 0 0)] [], p128110.2, sg g64188 65 (0, 0) [] [(.int .i64 r64175.Size), (.bool r64175.Up), v64177, v64181, (.int .i64 r64175.Lost), (.int .i64 r64175.Pending), (.int .i64 r64175.Every), (.int .i64 r64175.Signals)] [], h64179, h64183, sg g64171 71 (0, 0) [] [(.int .i64 0), (.slice none 0 0)] [], sg g64166 65 (0, 0) [] [(.int .i64 0), (.bool false), (.slice none 0 0), (.slice none 0 0), (.int .i64 0), (.int .i64 0), (.int .i64 0), (.int .i64 0)] [], sg g64160 74 (0, 0) [] [(.int .i64 a1.Kind), (.int .i64 a1.N)] [], hF]) := hm128113
      refine ⟨Mem.pick [2, 3, 4, 5, 6, 7, 8] rfl hm128113, ?_⟩
      refine z_exv rfl (won rfl) rfl rfl (e_append (bytes := 8) rfl slt_26 rfl (ev (t := 164) rfl rfl) (ev (t := 166) rfl rfl) H128111 (k := 1) rfl (H64178.rd w0) (Sub.at_ (k := 3) rfl) hm128113 hg128114 (len63 hg128114 rfl)) ?_
      rintro p128116 w128118 ⟨H128117, hm128119⟩
      replace hm128119 : Mem w0 w128118 (cat [sg g64202 71 (0, 0) [] [(.int .i64 0), (.slice (some ⟨g64197, 0, none⟩) 0 0)] [], p128116.2, sg g64188 65 (0, 0) [] [(.int .i64 r64175.Size), (.bool r64175.Up), v64177, v64181, (.int .i64 r64175.Lost), (.int .i64 r64175.Pending), (.int .i64 r64175.Every), (.int .i64 r64175.Signals)] [], h64179, h64183, sg g64171 71 (0, 0) [] [(.int .i64 0), (.slice none 0 0)] [], sg g64166 65 (0, 0) [] [(.int .i64 0), (.bool false), (.slice none 0 0), (.slice none 0 0), (.int .i64 0), (.int .i64 0), (.int .i64 0), (.int .i64 0)] [], sg g64160 74 (0, 0) [] [(.int .i64 a1.Kind), (.int .i64 a1.N)] [], hF]) := hm128119
      refine ⟨Mem.pick [2, 3, 4, 5, 6, 7, 8] rfl hm128119, ?_⟩
      refine z_r (v := (.pointer (some ⟨g64202, 1, none⟩))) rfl (won rfl) rfl rfl ((x_field rfl fa_71x1 (ev (t := 7) rfl rfl))) ?_
      refine z_exs rfl (won rfl) rfl (e_store (vs := [p128116.1]) (o' := 0) (j := 1) rfl sz_26 (ev (t := 168) rfl rfl) (ev (t := 167) rfl rfl) (IsSl.cells (H128117).sl) (one_cons (IsSl.one (H128117).sl) one_nil) hm128119 (k := 0) rfl rfl rfl) ?_
      intro w128120 hm128121
      replace hm128121 : Mem w0 w128120 (cat [sg g64202 71 (0, 0) [] [(.int .i64 0), p128116.1] [], p128116.2, sg g64188 65 (0, 0) [] [(.int .i64 r64175.Size), (.bool r64175.Up), v64177, v64181, (.int .i64 r64175.Lost), (.int .i64 r64175.Pending), (.int .i64 r64175.Every), (.int .i64 r64175.Signals)] [], h64179, h64183, sg g64171 71 (0, 0) [] [(.int .i64 0), (.slice none 0 0)] [], sg g64166 65 (0, 0) [] [(.int .i64 0), (.bool false), (.slice none 0 0), (.slice none 0 0), (.int .i64 0), (.int .i64 0), (.int .i64 0), (.int .i64 0)] [], sg g64160 74 (0, 0) [] [(.int .i64 a1.Kind), (.int .i64 a1.N)] [], hF]) := hm128121
      refine ⟨Mem.pick [2, 3, 4, 5, 6, 7, 8] rfl hm128121, ?_⟩
      refine z_nil ?_
      have hm128122 : Mem w0 w128120 (cat [sg g64202 71 (0, 0) [] [(.int .i64 0), p128116.1] [], p128116.2, sg g64188 65 (0, 0) [] [(.int .i64 r64175.Size), (.bool r64175.Up), v64177, v64181, (.int .i64 r64175.Lost), (.int .i64 r64175.Pending), (.int .i64 r64175.Every), (.int .i64 r64175.Signals)] [], h64179, h64183, sg g64171 71 (0, 0) [] [(.int .i64 0), (.slice none 0 0)] [], sg g64166 65 (0, 0) [] [(.int .i64 0), (.bool false), (.slice none 0 0), (.slice none 0 0), (.int .i64 0), (.int .i64 0), (.int .i64 0), (.int .i64 0)] [], hF]) := Mem.pick [0, 1, 2, 3, 4, 5, 6, 8] rfl hm128121
      refine nx ?_
      refine wp_seq ?_
      refine wp_region_lit ?_
      refine s_exv (won rfl) rfl rfl (e_litp (cells := []) (ps := []) rfl slt_26 (pmap_lit pmap_nil) (fun w1 => run_bslice0 slt_26) hm128122) ?_
      rintro g128125 w128123 hm128124
      have H128126 : OwF 3 (FK.int .i64) (.slice (some ⟨g128125, 0, none⟩) 0 0) ([] : List Int) (sg g128125 3 (0, 0) [] (encs (FK.int .i64) ([] : List Int)) []) := OwF.lit g128125 ([] : List Int) 0 rfl (by decide)
      replace hm128124 : Mem w0 w128123 (cat [(sg g128125 3 (0, 0) [] (encs (FK.int .i64) ([] : List Int)) []), sg g64202 71 (0, 0) [] [(.int .i64 0), p128116.1] [], p128116.2, sg g64188 65 (0, 0) [] [(.int .i64 r64175.Size), (.bool r64175.Up), v64177, v64181, (.int .i64 r64175.Lost), (.int .i64 r64175.Pending), (.int .i64 r64175.Every), (.int .i64 r64175.Signals)] [], h64179, h64183, sg g64171 71 (0, 0) [] [(.int .i64 0), (.slice none 0 0)] [], sg g64166 65 (0, 0) [] [(.int .i64 0), (.bool false), (.slice none 0 0), (.slice none 0 0), (.int .i64 0), (.int .i64 0), (.int .i64 0), (.int .i64 0)] [], hF]) := hm128124
      refine s_val (v := (.pointer (some ⟨g64188, 3, none⟩))) (won rfl) rfl rfl (x_field rfl fa_65x3 (ev (t := 6) rfl rfl)) ?_
      refine s_exs (won rfl) rfl (e_store (vs := [(.slice (some ⟨g128125, 0, none⟩) 0 0)]) (o' := 0) (j := 3) rfl sz_26 (ev (t := 170) rfl rfl) (ev (t := 169) rfl rfl) (IsSl.cells (H128126).sl) (one_cons (IsSl.one (H128126).sl) one_nil) hm128124 (k := 3) rfl rfl rfl) ?_
      intro w128128 hm128129
      replace hm128129 : Mem w0 w128128 (cat [(sg g128125 3 (0, 0) [] (encs (FK.int .i64) ([] : List Int)) []), sg g64202 71 (0, 0) [] [(.int .i64 0), p128116.1] [], p128116.2, sg g64188 65 (0, 0) [] [(.int .i64 r64175.Size), (.bool r64175.Up), v64177, (.slice (some ⟨g128125, 0, none⟩) 0 0), (.int .i64 r64175.Lost), (.int .i64 r64175.Pending), (.int .i64 r64175.Every), (.int .i64 r64175.Signals)] [], h64179, h64183, sg g64171 71 (0, 0) [] [(.int .i64 0), (.slice none 0 0)] [], sg g64166 65 (0, 0) [] [(.int .i64 0), (.bool false), (.slice none 0 0), (.slice none 0 0), (.int .i64 0), (.int .i64 0), (.int .i64 0), (.int .i64 0)] [], hF]) := hm128129
      refine wpList_nil ?_
      have hm128130 : Mem w0 w128128 (cat [(sg g128125 3 (0, 0) [] (encs (FK.int .i64) ([] : List Int)) []), sg g64202 71 (0, 0) [] [(.int .i64 0), p128116.1] [], p128116.2, sg g64188 65 (0, 0) [] [(.int .i64 r64175.Size), (.bool r64175.Up), v64177, (.slice (some ⟨g128125, 0, none⟩) 0 0), (.int .i64 r64175.Lost), (.int .i64 r64175.Pending), (.int .i64 r64175.Every), (.int .i64 r64175.Signals)] [], h64179, sg g64171 71 (0, 0) [] [(.int .i64 0), (.slice none 0 0)] [], sg g64166 65 (0, 0) [] [(.int .i64 0), (.bool false), (.slice none 0 0), (.slice none 0 0), (.int .i64 0), (.int .i64 0), (.int .i64 0), (.int .i64 0)] [], hF]) := Mem.pick [0, 1, 2, 3, 4, 6, 7, 8] rfl hm128129
      refine nx ?_
      refine wp_seq ?_
      refine wp_region_lit ?_
      refine s_exv (won rfl) rfl rfl (e_litp (cells := []) (ps := []) rfl slt_26 (pmap_lit pmap_nil) (fun w1 => run_bslice0 slt_26) hm128130) ?_
      rintro g128133 w128131 hm128132
      have H128134 : OwF 3 (FK.int .i64) (.slice (some ⟨g128133, 0, none⟩) 0 0) ([] : List Int) (sg g128133 3 (0, 0) [] (encs (FK.int .i64) ([] : List Int)) []) := OwF.lit g128133 ([] : List Int) 0 rfl (by decide)
      replace hm128132 : Mem w0 w128131 (cat [(sg g128133 3 (0, 0) [] (encs (FK.int .i64) ([] : List Int)) []), (sg g128125 3 (0, 0) [] (encs (FK.int .i64) ([] : List Int)) []), sg g64202 71 (0, 0) [] [(.int .i64 0), p128116.1] [], p128116.2, sg g64188 65 (0, 0) [] [(.int .i64 r64175.Size), (.bool r64175.Up), v64177, (.slice (some ⟨g128125, 0, none⟩) 0 0), (.int .i64 r64175.Lost), (.int .i64 r64175.Pending), (.int .i64 r64175.Every), (.int .i64 r64175.Signals)] [], h64179, sg g64171 71 (0, 0) [] [(.int .i64 0), (.slice none 0 0)] [], sg g64166 65 (0, 0) [] [(.int .i64 0), (.bool false), (.slice none 0 0), (.slice none 0 0), (.int .i64 0), (.int .i64 0), (.int .i64 0), (.int .i64 0)] [], hF]) := hm128132
      refine s_val (v := (.pointer (some ⟨g64188, 2, none⟩))) (won rfl) rfl rfl (x_field rfl fa_65x2 (ev (t := 6) rfl rfl)) ?_
      refine s_exs (won rfl) rfl (e_store (vs := [(.slice (some ⟨g128133, 0, none⟩) 0 0)]) (o' := 0) (j := 2) rfl sz_26 (ev (t := 172) rfl rfl) (ev (t := 171) rfl rfl) (IsSl.cells (H128134).sl) (one_cons (IsSl.one (H128134).sl) one_nil) hm128132 (k := 4) rfl rfl rfl) ?_
      intro w128136 hm128137
      replace hm128137 : Mem w0 w128136 (cat [(sg g128133 3 (0, 0) [] (encs (FK.int .i64) ([] : List Int)) []), (sg g128125 3 (0, 0) [] (encs (FK.int .i64) ([] : List Int)) []), sg g64202 71 (0, 0) [] [(.int .i64 0), p128116.1] [], p128116.2, sg g64188 65 (0, 0) [] [(.int .i64 r64175.Size), (.bool r64175.Up), (.slice (some ⟨g128133, 0, none⟩) 0 0), (.slice (some ⟨g128125, 0, none⟩) 0 0), (.int .i64 r64175.Lost), (.int .i64 r64175.Pending), (.int .i64 r64175.Every), (.int .i64 r64175.Signals)] [], h64179, sg g64171 71 (0, 0) [] [(.int .i64 0), (.slice none 0 0)] [], sg g64166 65 (0, 0) [] [(.int .i64 0), (.bool false), (.slice none 0 0), (.slice none 0 0), (.int .i64 0), (.int .i64 0), (.int .i64 0), (.int .i64 0)] [], hF]) := hm128137
      refine wpList_nil ?_
      have hm128138 : Mem w0 w128136 (cat [(sg g128133 3 (0, 0) [] (encs (FK.int .i64) ([] : List Int)) []), (sg g128125 3 (0, 0) [] (encs (FK.int .i64) ([] : List Int)) []), sg g64202 71 (0, 0) [] [(.int .i64 0), p128116.1] [], p128116.2, sg g64188 65 (0, 0) [] [(.int .i64 r64175.Size), (.bool r64175.Up), (.slice (some ⟨g128133, 0, none⟩) 0 0), (.slice (some ⟨g128125, 0, none⟩) 0 0), (.int .i64 r64175.Lost), (.int .i64 r64175.Pending), (.int .i64 r64175.Every), (.int .i64 r64175.Signals)] [], sg g64171 71 (0, 0) [] [(.int .i64 0), (.slice none 0 0)] [], sg g64166 65 (0, 0) [] [(.int .i64 0), (.bool false), (.slice none 0 0), (.slice none 0 0), (.int .i64 0), (.int .i64 0), (.int .i64 0), (.int .i64 0)] [], hF]) := Mem.pick [0, 1, 2, 3, 4, 6, 7, 8] rfl hm128137
      refine nx ?_
      refine wp_region_lit ?_
      refine s_val (v := (.pointer (some ⟨g64188, 5, none⟩))) (won rfl) rfl rfl (x_field rfl fa_65x5 (ev (t := 6) rfl rfl)) ?_
      refine s_exs (won rfl) rfl (e_store (vs := [(.int .i64 0)]) (o' := 0) (j := 5) rfl sz_3 (ev (t := 173) rfl rfl) rfl rfl rfl hm128138 (k := 4) rfl rfl rfl) ?_
      intro w128139 hm128140
      replace hm128140 : Mem w0 w128139 (cat [(sg g128133 3 (0, 0) [] (encs (FK.int .i64) ([] : List Int)) []), (sg g128125 3 (0, 0) [] (encs (FK.int .i64) ([] : List Int)) []), sg g64202 71 (0, 0) [] [(.int .i64 0), p128116.1] [], p128116.2, sg g64188 65 (0, 0) [] [(.int .i64 r64175.Size), (.bool r64175.Up), (.slice (some ⟨g128133, 0, none⟩) 0 0), (.slice (some ⟨g128125, 0, none⟩) 0 0), (.int .i64 r64175.Lost), (.int .i64 0), (.int .i64 r64175.Every), (.int .i64 r64175.Signals)] [], sg g64171 71 (0, 0) [] [(.int .i64 0), (.slice none 0 0)] [], sg g64166 65 (0, 0) [] [(.int .i64 0), (.bool false), (.slice none 0 0), (.slice none 0 0), (.int .i64 0), (.int .i64 0), (.int .i64 0), (.int .i64 0)] [], hF]) := hm128140
      refine wpList_nil ?_
      refine nb ?_
      refine nx ?_
      obtain rfl := Option.some.inj he
      exact ⟨(.slice (some ⟨g128133, 0, none⟩) 0 0), (sg g128133 3 (0, 0) [] (encs (FK.int .i64) ([] : List Int)) []), (.slice (some ⟨g128125, 0, none⟩) 0 0), (sg g128125 3 (0, 0) [] (encs (FK.int .i64) ([] : List Int)) []), p128116.1, p128116.2, _, rfl, rfl, rfl, rfl, rfl, H128134, H128126, H128117, Mem.pick [6, 5, 4, 2, 0, 1, 3, 7] rfl hm128140⟩
     ·
      replace he := bifF he hb128106
      refine c_false rfl (p := (decide (a1.Kind = 4))) rfl rfl hb128106 ?_
      refine wp_seq ?_
      refine wp_region_lit ?_
      refine s_val (v := (.bool (decide (a1.Kind = 5)))) (won rfl) rfl rfl (x_eql rfl (ev (t := 15) rfl rfl) rfl) ?_
      refine s_val (v := (.bool (decide (a1.Kind = 5)))) (won rfl) rfl rfl (x_assign rfl (ev (t := 175) rfl rfl)) ?_
      refine wpList_nil ?_
      refine nx ?_
      rcases Bool.eq_false_or_eq_true ((decide (a1.Kind = 5))) with hb128141 | hb128141
      ·
       replace he := bifT he hb128141
       refine c_true rfl (p := (decide (a1.Kind = 5))) rfl rfl hb128141 ?_
       refine wp_region_lit ?_
       refine s_val (v := (.pointer (some ⟨g64160, 1, none⟩))) (won rfl) rfl rfl (x_field rfl fa_74x1 (ev (t := 3) rfl rfl)) ?_
       refine s_val (v := (.int .i64 a1.N)) (won rfl) rfl rfl (x_load rfl ty1x3 (ev (t := 176) rfl rfl) (seg_cell (o' := 0) (j := 1) hm64207 (k := 7) rfl rfl rfl)) ?_
       refine s_val (v := (.bool (decide (a1.N = 1)))) (won rfl) rfl rfl (x_eql rfl (ev (t := 177) rfl rfl) rfl) ?_
       refine s_val (v := (.pointer (some ⟨g64188, 1, none⟩))) (won rfl) rfl rfl (x_field rfl fa_65x1 (ev (t := 6) rfl rfl)) ?_
       refine s_exs (won rfl) rfl (e_store (vs := [(.bool (decide (a1.N = 1)))]) (o' := 0) (j := 1) rfl sz_4 (ev (t := 179) rfl rfl) (ev (t := 178) rfl rfl) rfl rfl hm64207 (k := 2) rfl rfl rfl) ?_
       intro w128142 hm128143
       replace hm128143 : Mem w0 w128142 (cat [sg g64202 71 (0, 0) [] [(.int .i64 0), (.slice (some ⟨g64197, 0, none⟩) 0 0)] [], (sg g64197 3 (0, 0) [] (encs (FK.int .i64) ([] : List Int)) []), sg g64188 65 (0, 0) [] [(.int .i64 r64175.Size), (.bool (decide (a1.N = 1))), v64177, v64181, (.int .i64 r64175.Lost), (.int .i64 r64175.Pending), (.int .i64 r64175.Every), (.int .i64 r64175.Signals)] [], h64179, h64183, sg g64171 71 (0, 0) [] [(.int .i64 0), (.slice none 0 0)] [], sg g64166 65 (0, 0) [] [(.int .i64 0), (.bool false), (.slice none 0 0), (.slice none 0 0), (.int .i64 0), (.int .i64 0), (.int .i64 0), (.int .i64 0)] [], sg g64160 74 (0, 0) [] [(.int .i64 a1.Kind), (.int .i64 a1.N)] [], hF]) := hm128143
       refine wpList_nil ?_
       have hm128144 : Mem w0 w128142 (cat [sg g64202 71 (0, 0) [] [(.int .i64 0), (.slice (some ⟨g64197, 0, none⟩) 0 0)] [], (sg g64197 3 (0, 0) [] (encs (FK.int .i64) ([] : List Int)) []), sg g64188 65 (0, 0) [] [(.int .i64 r64175.Size), (.bool (decide (a1.N = 1))), v64177, v64181, (.int .i64 r64175.Lost), (.int .i64 r64175.Pending), (.int .i64 r64175.Every), (.int .i64 r64175.Signals)] [], h64179, h64183, sg g64171 71 (0, 0) [] [(.int .i64 0), (.slice none 0 0)] [], sg g64166 65 (0, 0) [] [(.int .i64 0), (.bool false), (.slice none 0 0), (.slice none 0 0), (.int .i64 0), (.int .i64 0), (.int .i64 0), (.int .i64 0)] [], hF]) := Mem.pick [0, 1, 2, 3, 4, 5, 6, 8] rfl hm128143
       refine nb ?_
       refine nx ?_
       obtain rfl := Option.some.inj he
       exact ⟨v64177, h64179, v64181, h64183, (.slice (some ⟨g64197, 0, none⟩) 0 0), (sg g64197 3 (0, 0) [] (encs (FK.int .i64) ([] : List Int)) []), _, rfl, rfl, rfl, rfl, rfl, H64178, H64182, H64198, Mem.pick [6, 5, 2, 0, 3, 4, 1, 7] rfl hm128144⟩
      ·
       replace he := bifF he hb128141
       refine c_false rfl (p := (decide (a1.Kind = 5))) rfl rfl hb128141 ?_
       refine wp_region_lit ?_
       refine s_val (v := (.pointer (some ⟨g64202, 0, none⟩))) (won rfl) rfl rfl (x_field rfl fa_71x0 (ev (t := 7) rfl rfl)) ?_
       refine s_exs (won rfl) rfl (e_store (vs := [(.int .i64 3)]) (o' := 0) (j := 0) rfl sz_3 (ev (t := 16) rfl rfl) rfl rfl rfl hm64207 (k := 0) rfl rfl rfl) ?_
       intro w128145 hm128146
       replace hm128146 : Mem w0 w128145 (cat [sg g64202 71 (0, 0) [] [(.int .i64 3), (.slice (some ⟨g64197, 0, none⟩) 0 0)] [], (sg g64197 3 (0, 0) [] (encs (FK.int .i64) ([] : List Int)) []), sg g64188 65 (0, 0) [] [(.int .i64 r64175.Size), (.bool r64175.Up), v64177, v64181, (.int .i64 r64175.Lost), (.int .i64 r64175.Pending), (.int .i64 r64175.Every), (.int .i64 r64175.Signals)] [], h64179, h64183, sg g64171 71 (0, 0) [] [(.int .i64 0), (.slice none 0 0)] [], sg g64166 65 (0, 0) [] [(.int .i64 0), (.bool false), (.slice none 0 0), (.slice none 0 0), (.int .i64 0), (.int .i64 0), (.int .i64 0), (.int .i64 0)] [], sg g64160 74 (0, 0) [] [(.int .i64 a1.Kind), (.int .i64 a1.N)] [], hF]) := hm128146
       refine wpList_nil ?_
       have hm128147 : Mem w0 w128145 (cat [sg g64202 71 (0, 0) [] [(.int .i64 3), (.slice (some ⟨g64197, 0, none⟩) 0 0)] [], (sg g64197 3 (0, 0) [] (encs (FK.int .i64) ([] : List Int)) []), sg g64188 65 (0, 0) [] [(.int .i64 r64175.Size), (.bool r64175.Up), v64177, v64181, (.int .i64 r64175.Lost), (.int .i64 r64175.Pending), (.int .i64 r64175.Every), (.int .i64 r64175.Signals)] [], h64179, h64183, sg g64171 71 (0, 0) [] [(.int .i64 0), (.slice none 0 0)] [], sg g64166 65 (0, 0) [] [(.int .i64 0), (.bool false), (.slice none 0 0), (.slice none 0 0), (.int .i64 0), (.int .i64 0), (.int .i64 0), (.int .i64 0)] [], hF]) := Mem.pick [0, 1, 2, 3, 4, 5, 6, 8] rfl hm128146
       refine nb ?_
       refine nx ?_
       obtain rfl := Option.some.inj he
       exact ⟨v64177, h64179, v64181, h64183, (.slice (some ⟨g64197, 0, none⟩) 0 0), (sg g64197 3 (0, 0) [] (encs (FK.int .i64) ([] : List Int)) []), _, rfl, rfl, rfl, rfl, rfl, H64178, H64182, H64198, Mem.pick [6, 5, 2, 0, 3, 4, 1, 7] rfl hm128147⟩
 ·
  rintro a w ⟨v96153, h96154, v96158, h96159, v96168, h96169, f, rfl, q96148, q96149, q96164, q96171, H96155, H96160, H96170, hm128149⟩
  replace he := hk96173
  refine wp_seq ?_
  refine wp_fit [(0, 1), (1, 0), (2, 2), (3, 2)] (fun w' => Mem w0 w' (cat [sg g64188 65 (0, 0) [] [(.int .i64 r64175.Size), (.bool s96172.1), v96153, v96158, (.int .i64 s96172.2.2.2.1), (.int .i64 s96172.2.2.2.2.1), (.int .i64 r64175.Every), (.int .i64 s96172.2.2.2.2.2.1)] [], sg g64202 71 (0, 0) [] [(.int .i64 s96172.2.2.2.2.2.2.1), v96168] [], h96154, h96159, h96169, hF])) mixed (by kernel_rfl) (Mem.drew (Mem.pick [2, 3, 4, 5, 6, 7] rfl hm128149)) ?_
  have hm128150 := Mem.drew hm128149
  refine z_r (v := (.agg #[(.int .i64 r64175.Size), (.bool s96172.1), v96153, v96158, (.int .i64 s96172.2.2.2.1), (.int .i64 s96172.2.2.2.2.1), (.int .i64 r64175.Every), (.int .i64 s96172.2.2.2.2.2.1)])) rfl (won rfl) rfl rfl ((x_loadN (vs := [(.int .i64 r64175.Size), (.bool s96172.1), v96153, v96158, (.int .i64 s96172.2.2.2.1), (.int .i64 s96172.2.2.2.2.1), (.int .i64 r64175.Every), (.int .i64 s96172.2.2.2.2.2.1)]) rfl tyN_65 (ev (t := 6) (v := (.pointer (some ⟨g64188, 0, none⟩))) rfl q96164) (seg_cells (o' := 0) (j := 0) hm128150 (k := 2) rfl rfl rfl))) ?_
  refine z_q (v := (.agg #[(.int .i64 s96172.2.2.2.2.2.2.1), v96168])) rfl (won rfl) rfl rfl (fun wq hq => (x_loadN (vs := [(.int .i64 s96172.2.2.2.2.2.2.1), v96168]) rfl tyN_71 (ev (t := 7) (v := (.pointer (some ⟨g64202, 0, none⟩))) rfl q96171) (seg_cells (o' := 0) (j := 0) hq (k := 1) rfl rfl rfl))) ?_
  refine z_exs rfl (won rfl) rfl (e_store (vs := [(.int .i64 r64175.Size), (.bool s96172.1), v96153, v96158, (.int .i64 s96172.2.2.2.1), (.int .i64 s96172.2.2.2.2.1), (.int .i64 r64175.Every), (.int .i64 s96172.2.2.2.2.2.1)]) (o' := 0) (j := 0) rfl sz_65 (ev (t := 4) (v := (.pointer (some ⟨g64166, 0, none⟩))) rfl q96148) (ev (t := 180) rfl rfl) rfl (one_cons rfl (one_cons rfl (one_cons (IsSl.one (H96155).sl) (one_cons (IsSl.one (H96160).sl) (one_cons rfl (one_cons rfl (one_cons rfl (one_cons rfl one_nil)))))))) hm128150 (k := 0) rfl rfl rfl) ?_
  intro w128151 hm128152
  replace hm128152 : Mem w0 w128151 (cat [sg g64166 65 (0, 0) [] [(.int .i64 r64175.Size), (.bool s96172.1), v96153, v96158, (.int .i64 s96172.2.2.2.1), (.int .i64 s96172.2.2.2.2.1), (.int .i64 r64175.Every), (.int .i64 s96172.2.2.2.2.2.1)] [], sg g64171 71 (0, 0) [] [(.int .i64 0), (.slice none 0 0)] [], sg g64188 65 (0, 0) [] [(.int .i64 r64175.Size), (.bool s96172.1), v96153, v96158, (.int .i64 s96172.2.2.2.1), (.int .i64 s96172.2.2.2.2.1), (.int .i64 r64175.Every), (.int .i64 s96172.2.2.2.2.2.1)] [], sg g64202 71 (0, 0) [] [(.int .i64 s96172.2.2.2.2.2.2.1), v96168] [], h96154, h96159, h96169, hF]) := hm128152
  refine ⟨Mem.pick [2, 3, 4, 5, 6, 7] rfl hm128152, ?_⟩
  refine z_exs rfl (won rfl) rfl (e_store (vs := [(.int .i64 s96172.2.2.2.2.2.2.1), v96168]) (o' := 0) (j := 0) rfl sz_71 (ev (t := 5) (v := (.pointer (some ⟨g64171, 0, none⟩))) rfl q96149) (ev (t := 181) rfl rfl) rfl (one_cons rfl (one_cons (IsSl.one (H96170).sl) one_nil)) hm128152 (k := 1) rfl rfl rfl) ?_
  intro w128153 hm128154
  replace hm128154 : Mem w0 w128153 (cat [sg g64166 65 (0, 0) [] [(.int .i64 r64175.Size), (.bool s96172.1), v96153, v96158, (.int .i64 s96172.2.2.2.1), (.int .i64 s96172.2.2.2.2.1), (.int .i64 r64175.Every), (.int .i64 s96172.2.2.2.2.2.1)] [], sg g64171 71 (0, 0) [] [(.int .i64 s96172.2.2.2.2.2.2.1), v96168] [], sg g64188 65 (0, 0) [] [(.int .i64 r64175.Size), (.bool s96172.1), v96153, v96158, (.int .i64 s96172.2.2.2.1), (.int .i64 s96172.2.2.2.2.1), (.int .i64 r64175.Every), (.int .i64 s96172.2.2.2.2.2.1)] [], sg g64202 71 (0, 0) [] [(.int .i64 s96172.2.2.2.2.2.2.1), v96168] [], h96154, h96159, h96169, hF]) := hm128154
  refine ⟨Mem.pick [2, 3, 4, 5, 6, 7] rfl hm128154, ?_⟩
  refine z_nil ?_
  have hm128155 : Mem w0 w128153 (cat [sg g64166 65 (0, 0) [] [(.int .i64 r64175.Size), (.bool s96172.1), v96153, v96158, (.int .i64 s96172.2.2.2.1), (.int .i64 s96172.2.2.2.2.1), (.int .i64 r64175.Every), (.int .i64 s96172.2.2.2.2.2.1)] [], sg g64171 71 (0, 0) [] [(.int .i64 s96172.2.2.2.2.2.2.1), v96168] [], h96154, h96159, h96169, hF]) := Mem.pick [0, 1, 4, 5, 6, 7] rfl hm128154
  refine nx ?_
  refine wp_ret ?_
  obtain rfl := Option.some.inj he
  refine r_ret (v := (.tuple #[(.agg #[(.int .i64 r64175.Size), (.bool s96172.1), v96153, v96158, (.int .i64 s96172.2.2.2.1), (.int .i64 s96172.2.2.2.2.1), (.int .i64 r64175.Every), (.int .i64 s96172.2.2.2.2.2.1)]), (.agg #[(.int .i64 s96172.2.2.2.2.2.2.1), v96168])])) (rv_list rfl rfl (RVs.cell (cs := [(.int .i64 r64175.Size), (.bool s96172.1), v96153, v96158, (.int .i64 s96172.2.2.2.1), (.int .i64 s96172.2.2.2.2.1), (.int .i64 r64175.Every), (.int .i64 s96172.2.2.2.2.2.1)]) rfl q96148 tyN_65 (seg_cells (o' := 0) (j := 0) hm128155 (k := 0) rfl rfl rfl) (RVs.cell (cs := [(.int .i64 s96172.2.2.2.2.2.2.1), v96168]) rfl q96149 tyN_71 (seg_cells (o' := 0) (j := 0) hm128155 (k := 1) rfl rfl rfl) RVs.nil))) rfl ?_
  exact ⟨v96153, h96154, v96158, h96159, v96168, h96169, rfl, H96155, H96160, H96170, Mem.pick [2, 3, 4, 5] rfl hm128155⟩
end Go.Proofs.Ytpkdolmbhfmjcaa.FnExactRingRun
