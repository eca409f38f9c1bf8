/- What functions of the program compute, and their walks: printed. -/
import Derived.Test.YtpkdolmbhfmjcaaFnExactPoolStepT
set_option linter.unusedVariables false
set_option linter.unusedSimpArgs false
set_option linter.unusedSectionVars false
namespace Go.Proofs.Ytpkdolmbhfmjcaa.FnExactPoolStep
open Go.RowKit Go.Proofs.Gw
attribute [local irreducible] wpList DG wpQuiet wl
def laws_szIntS (a0 : (List Int)) (a1 : Int) : Option (Int) := (bif (decide ((IntKind.wrap .i64 (a1 - (a0.length : Int))) < 0)) then (some (-1)) else (some (IntKind.wrap .i64 (a1 - (a0.length : Int)))))
set_option maxHeartbeats 400000 in
set_option maxRecDepth 100000 in
theorem laws_szIntS_ok {w0 w : World} {hR hF : Hp} {v0x0 : Value} (a0 : (List Int)) (a1 : Int) {r : (Int)} (H0x0 : RdF w0 (FK.int .i64) v0x0 a0 hR) (hs : Sub hR hF) (hm : Mem w0 w (cat [hF])) (he : laws_szIntS a0 a1 = some r) :
    Calls Try.prog 66 #[v0x0, (.int .i64 a1)] w (fun e w' => e = .returned (.int .i64 r) ∧ Mem w0 w' (cat [hF])) := by
 refine calls_fr (n := 12) Try.func66 rfl rfl rfl ?_
 unfold laws_szIntS at he
 refine wp_seq ?_
 refine wp_region_lit ?_
 refine s_val (v := (.int .i64 0)) (won rfl) rfl rfl (x_assign rfl rfl) ?_
 refine wpList_nil ?_
 refine nx ?_
 refine wp_seq ?_
 refine wp_region_lit ?_
 refine s_val (v := (.int .i64 a1)) (won rfl) rfl rfl (x_move rfl (ev (t := 1) rfl rfl)) ?_
 refine s_val (v := v0x0) (won rfl) rfl rfl (x_move rfl (ev (t := 0) rfl rfl)) ?_
 refine s_val (v := (.int .i64 (a0.length : Int))) (won rfl) rfl rfl (x_len rfl slt_26 (ev (t := 6) rfl rfl) (H0x0).sl) ?_
 refine s_val (v := (.int .i64 (IntKind.wrap .i64 (a1 - (a0.length : Int))))) (won rfl) rfl rfl (x_sub rfl (ev (t := 5) rfl rfl) (ev (t := 7) rfl rfl)) ?_
 refine s_val (v := (.int .i64 (IntKind.wrap .i64 (a1 - (a0.length : Int))))) (won rfl) rfl rfl (x_assign rfl (ev (t := 8) rfl rfl)) ?_
 refine wpList_nil ?_
 refine nx ?_
 refine wp_seq ?_
 refine wp_seq ?_
 refine wp_region_lit ?_
 refine s_val (v := (.int .i64 (IntKind.wrap .i64 (a1 - (a0.length : Int))))) (won rfl) rfl rfl (x_move rfl (ev (t := 1) rfl rfl)) ?_
 refine s_val (v := (.bool (decide ((IntKind.wrap .i64 (a1 - (a0.length : Int))) < 0)))) (won rfl) rfl rfl (x_lss rfl (ev (t := 9) rfl rfl) rfl) ?_
 refine wpList_nil ?_
 refine nx ?_
 rcases Bool.eq_false_or_eq_true ((decide ((IntKind.wrap .i64 (a1 - (a0.length : Int))) < 0))) with hb4 | hb4
 ·
  replace he := bifT he hb4
  refine c_true rfl (p := (decide ((IntKind.wrap .i64 (a1 - (a0.length : Int))) < 0))) rfl rfl hb4 ?_
  refine wp_seq ?_
  refine wp_region_lit ?_
  refine s_val (v := (.int .i64 (-1))) (won rfl) rfl rfl (x_assign rfl rfl) ?_
  refine wpList_nil ?_
  refine nx ?_
  refine wp_ret ?_
  refine xr ?_
  obtain rfl := Option.some.inj he
  refine r_ret (v := (.int .i64 (-1))) (rv_one rfl (RVs.tmp (v := (.int .i64 (-1))) rfl rfl RVs.nil)) rfl ?_
  exact ⟨rfl, Mem.pick [0] rfl hm⟩
 ·
  replace he := bifF he hb4
  refine c_false rfl (p := (decide ((IntKind.wrap .i64 (a1 - (a0.length : Int))) < 0))) rfl rfl hb4 ?_
  refine wp_skip ?_
  refine nx ?_
  refine wp_seq ?_
  refine wp_region_lit ?_
  refine s_val (v := (.int .i64 (IntKind.wrap .i64 (a1 - (a0.length : Int))))) (won rfl) rfl rfl (x_move rfl (ev (t := 1) rfl rfl)) ?_
  refine s_val (v := (.int .i64 (IntKind.wrap .i64 (a1 - (a0.length : Int))))) (won rfl) rfl rfl (x_assign rfl (ev (t := 11) rfl rfl)) ?_
  refine wpList_nil ?_
  refine nx ?_
  refine wp_ret ?_
  obtain rfl := Option.some.inj he
  refine r_ret (v := (.int .i64 (IntKind.wrap .i64 (a1 - (a0.length : Int))))) (rv_one rfl (RVs.tmp (v := (.int .i64 (IntKind.wrap .i64 (a1 - (a0.length : Int))))) rfl rfl RVs.nil)) rfl ?_
  exact ⟨rfl, Mem.pick [0] rfl hm⟩
def laws_szPool (a0 : impl_Pool) (a1 : Int) : Option (Int) := (laws_szIntS a0.Free a1).bind fun r22 => (bif (decide (r22 < 0)) then (some (-1)) else (laws_szIntS a0.Owner r22).bind fun r29 => (bif (decide (r29 < 0)) then (some (-1)) else (some r29)))
set_option maxHeartbeats 400000 in
set_option maxRecDepth 100000 in
theorem laws_szPool_ok {w0 w : World} {hR hF : Hp} {v0x0 : Value} {v0x1 : Value} (a0 : impl_Pool) (a1 : Int) {r : (Int)} (H0x0 : RdF w0 (FK.int .i64) v0x0 a0.Free hR) (H0x1 : RdF w0 (FK.int .i64) v0x1 a0.Owner hR) (hs : Sub hR hF) (hm : Mem w0 w (cat [hF])) (he : laws_szPool a0 a1 = some r) :
    Calls Try.prog 18 #[(.agg #[v0x0, v0x1]), (.int .i64 a1)] w (fun e w' => e = .returned (.int .i64 r) ∧ Mem w0 w' (cat [hF])) := by
 refine calls_fr (n := 18) Try.func18 rfl rfl rfl ?_
 unfold laws_szPool at he
 refine wp_seq ?_
 refine wp_region_lit ?_
 refine s_exv (won rfl) rfl rfl (e_box (vs := [v0x0, v0x1]) rfl (ev (t := 0) rfl rfl) rfl hm) ?_
 rintro g18 w19 hm20
 refine s_val (v := (.int .i64 0)) (won rfl) rfl rfl (x_assign rfl rfl) ?_
 refine wpList_nil ?_
 refine nx ?_
 refine wp_seq ?_
 obtain ⟨r22, hr22, he⟩ := bindE he
 refine wp_region_lit ?_
 refine s_val (v := (.pointer (some ⟨g18, 0, none⟩))) (won rfl) rfl rfl (x_field rfl fa_45x0 (ev (t := 2) rfl rfl)) ?_
 refine s_val (v := v0x0) (won rfl) rfl rfl (x_load rfl ty1x26 (ev (t := 5) rfl rfl) (seg_cell (o' := 0) (j := 0) hm20 (k := 0) rfl rfl rfl)) ?_
 refine s_val (v := (.int .i64 a1)) (won rfl) rfl rfl (x_move rfl (ev (t := 1) rfl rfl)) ?_
 refine s_call (won rfl) rfl rfl (x_call rfl rfl cl_66 (map_lit (map_cons (ev (t := 6) rfl rfl) (map_cons (ev (t := 7) rfl rfl) map_nil)))) (laws_szIntS_ok (hR := (cat [hR])) (hF := cat [sg g18 45 (0, 0) [] [v0x0, v0x1] [], hF]) a0.Free a1 (H0x0.mono (Sub.at_ (k := 0) rfl)) (subc (Sub.trans hs (Sub.at_ (k := 1) rfl)) subn) (Mem.one hm20) hr22) ?_
 rintro e w23 ⟨rfl, hm24⟩
 refine ⟨_, rfl, ?_⟩
 replace hm24 : Mem w0 w23 (cat [sg g18 45 (0, 0) [] [v0x0, v0x1] [], hF]) := Mem.un hm24
 refine s_val (v := (.int .i64 r22)) (won rfl) rfl rfl (x_assign rfl (ev (t := 8) rfl rfl)) ?_
 refine wpList_nil ?_
 refine nx ?_
 refine wp_seq ?_
 refine wp_seq ?_
 refine wp_region_lit ?_
 refine s_val (v := (.int .i64 r22)) (won rfl) rfl rfl (x_move rfl (ev (t := 1) rfl rfl)) ?_
 refine s_val (v := (.bool (decide (r22 < 0)))) (won rfl) rfl rfl (x_lss rfl (ev (t := 9) rfl rfl) rfl) ?_
 refine wpList_nil ?_
 refine nx ?_
 rcases Bool.eq_false_or_eq_true ((decide (r22 < 0))) with hb27 | hb27
 ·
  replace he := bifT he hb27
  refine c_true rfl (p := (decide (r22 < 0))) rfl rfl hb27 ?_
  refine wp_seq ?_
  refine wp_region_lit ?_
  refine s_val (v := (.int .i64 (-1))) (won rfl) rfl rfl (x_assign rfl rfl) ?_
  refine wpList_nil ?_
  have hm28 : Mem w0 w23 (cat [hF]) := Mem.pick [1] rfl hm24
  refine nx ?_
  refine wp_ret ?_
  refine xr ?_
  obtain rfl := Option.some.inj he
  refine r_ret (v := (.int .i64 (-1))) (rv_one rfl (RVs.tmp (v := (.int .i64 (-1))) rfl rfl RVs.nil)) rfl ?_
  exact ⟨rfl, Mem.pick [0] rfl hm28⟩
 ·
  replace he := bifF he hb27
  refine c_false rfl (p := (decide (r22 < 0))) rfl rfl hb27 ?_
  refine wp_skip ?_
  refine nx ?_
  refine wp_seq ?_
  obtain ⟨r29, hr29, he⟩ := bindE he
  refine wp_region_lit ?_
  refine s_val (v := (.pointer (some ⟨g18, 1, none⟩))) (won rfl) rfl rfl (x_field rfl fa_45x1 (ev (t := 2) rfl rfl)) ?_
  refine s_val (v := v0x1) (won rfl) rfl rfl (x_load rfl ty1x26 (ev (t := 11) rfl rfl) (seg_cell (o' := 0) (j := 1) hm24 (k := 0) rfl rfl rfl)) ?_
  refine s_val (v := (.int .i64 r22)) (won rfl) rfl rfl (x_move rfl (ev (t := 1) rfl rfl)) ?_
  refine s_call (won rfl) rfl rfl (x_call rfl rfl cl_66 (map_lit (map_cons (ev (t := 12) rfl rfl) (map_cons (ev (t := 13) rfl rfl) map_nil)))) (laws_szIntS_ok (hR := (cat [hR])) (hF := cat [sg g18 45 (0, 0) [] [v0x0, v0x1] [], hF]) a0.Owner r22 (H0x1.mono (Sub.at_ (k := 0) rfl)) (subc (Sub.trans hs (Sub.at_ (k := 1) rfl)) subn) (Mem.one hm24) hr29) ?_
  rintro e w30 ⟨rfl, hm31⟩
  refine ⟨_, rfl, ?_⟩
  replace hm31 : Mem w0 w30 (cat [sg g18 45 (0, 0) [] [v0x0, v0x1] [], hF]) := Mem.un hm31
  refine s_val (v := (.int .i64 r29)) (won rfl) rfl rfl (x_assign rfl (ev (t := 14) rfl rfl)) ?_
  refine wpList_nil ?_
  have hm32 : Mem w0 w30 (cat [hF]) := Mem.pick [1] rfl hm31
  refine nx ?_
  refine wp_seq ?_
  refine wp_seq ?_
  refine wp_region_lit ?_
  refine s_val (v := (.int .i64 r29)) (won rfl) rfl rfl (x_move rfl (ev (t := 1) rfl rfl)) ?_
  refine s_val (v := (.bool (decide (r29 < 0)))) (won rfl) rfl rfl (x_lss rfl (ev (t := 15) rfl rfl) rfl) ?_
  refine wpList_nil ?_
  refine nx ?_
  rcases Bool.eq_false_or_eq_true ((decide (r29 < 0))) with hb34 | hb34
  ·
   replace he := bifT he hb34
   refine c_true rfl (p := (decide (r29 < 0))) rfl rfl hb34 ?_
   refine wp_seq ?_
   refine wp_region_lit ?_
   refine s_val (v := (.int .i64 (-1))) (won rfl) rfl rfl (x_assign rfl rfl) ?_
   refine wpList_nil ?_
   refine nx ?_
   refine wp_ret ?_
   refine xr ?_
   obtain rfl := Option.some.inj he
   refine r_ret (v := (.int .i64 (-1))) (rv_one rfl (RVs.tmp (v := (.int .i64 (-1))) rfl rfl RVs.nil)) rfl ?_
   exact ⟨rfl, Mem.pick [0] rfl hm32⟩
  ·
   replace he := bifF he hb34
   refine c_false rfl (p := (decide (r29 < 0))) rfl rfl hb34 ?_
   refine wp_skip ?_
   refine nx ?_
   refine wp_seq ?_
   refine wp_region_lit ?_
   refine s_val (v := (.int .i64 r29)) (won rfl) rfl rfl (x_move rfl (ev (t := 1) rfl rfl)) ?_
   refine s_val (v := (.int .i64 r29)) (won rfl) rfl rfl (x_assign rfl (ev (t := 17) rfl rfl)) ?_
   refine wpList_nil ?_
   refine nx ?_
   refine wp_ret ?_
   obtain rfl := Option.some.inj he
   refine r_ret (v := (.int .i64 r29)) (rv_one rfl (RVs.tmp (v := (.int .i64 r29)) rfl rfl RVs.nil)) rfl ?_
   exact ⟨rfl, Mem.pick [0] rfl hm32⟩
def laws_toIntS_l1 (F : Nat) (a0 : (List Int)) : Nat → (List Int) → Int → Option ((List Int))
  | 0, _, _ => none
  | k + 1, s297, s301 => (bif (decide (s301 < (a0.length : Int))) then gd ((0 : Int) ≤ s301 ∧ s301 < (a0.length : Int)) (gd ((0 : Int) ≤ s301 ∧ s301 < (s297.length : Int)) (laws_toIntS_l1 F a0 k (List.set s297 (Int.toNat s301) (ix a0 s301)) (IntKind.wrap .i64 (s301 + 1)))) else (some s297))
def laws_toIntS (F : Nat) (a0 : (List Int)) : Option ((List Int)) := gd ((0 : Int) ≤ (a0.length : Int) ∧ (Int.toNat (a0.length : Int)) * 8 ≤ 140737488355328) ((laws_toIntS_l1 F a0 F (List.replicate (Int.toNat (a0.length : Int)) 0) 0 : Option ((List Int))).bind fun (s256 : ((List Int))) => (some s256))
set_option maxHeartbeats 400000 in
set_option maxRecDepth 100000 in
theorem laws_toIntS_ok (F : Nat) {w0 w : World} {hR hF : Hp} {v0x0 : Value} (a0 : (List Int)) {r : ((List Int))} (H0x0 : RdF w0 (FK.int .i64) v0x0 a0 hR) (hs : Sub hR hF) (hm : Mem w0 w (cat [hF])) (he : laws_toIntS F a0 = some r) :
    Calls Try.prog 68 #[v0x0] w (fun e w' => ∃ (v'0 : Value) (h'0 : Hp), e = .returned v'0 ∧ OwF 3 (FK.int .i64) v'0 r h'0 ∧ Mem w0 w' (cat [h'0, hF])) := by
 refine calls_fr (n := 22) Try.func68 rfl rfl rfl ?_
 unfold laws_toIntS at he
 refine wp_seq ?_
 refine wp_region_lit ?_
 refine s_val (v := (.slice none 0 0)) (won rfl) rfl rfl (x_assign rfl rfl) ?_
 refine wpList_nil ?_
 refine nx ?_
 refine wp_seq ?_
 obtain ⟨hg170, he⟩ := gdE he
 refine wp_region_lit ?_
 refine s_val (v := v0x0) (won rfl) rfl rfl (x_move rfl (ev (t := 0) rfl rfl)) ?_
 refine s_val (v := (.int .i64 (a0.length : Int))) (won rfl) rfl rfl (x_len rfl slt_26 (ev (t := 5) rfl rfl) (H0x0).sl) ?_
 refine s_exv (won rfl) rfl rfl (e_make (d := (FK.int .i64)) (a := 0) rfl slt_26 rfl (ev (t := 6) rfl rfl) (ev (t := 6) rfl rfl) hg170.1 hg170.2 (by have := hg170; omega) hm) ?_
 rintro p172 w174 ⟨H173, hm175⟩
 replace hm175 : Mem w0 w174 (cat [p172.2, hF]) := hm175
 refine s_val (v := p172.1) (won rfl) rfl rfl (x_assign rfl (ev (t := 7) rfl rfl)) ?_
 refine wpList_nil ?_
 refine nx ?_
 obtain ⟨s256, hT258, hk257⟩ := bindE he
 replace he := hT258
 refine wp_seqJ (fun a w => ∃ (h253 : Hp) (f : Nat → Value), a = fr 22 f ∧ f 3 = p172.1 ∧ OwF 3 (FK.int .i64) p172.1 s256 h253 ∧ Mem w0 w (cat [h253, hF])) ?_ ?_
 ·
  refine wp_seq ?_
  refine wp_region_lit ?_
  refine s_val (v := (.int .i64 0)) (won rfl) rfl rfl (x_assign rfl rfl) ?_
  refine wpList_nil ?_
  refine nx ?_
  refine wp_block ?_
  refine wp_fuel (I := fun k => fun a w => ∃ (s297 : (List Int)) (s301 : Int) (h298 : Hp) (f : Nat → Value), laws_toIntS_l1 F a0 k s297 s301 = some s256 ∧ a = fr 22 f ∧ f 0 = v0x0 ∧ f 3 = p172.1 ∧ f 4 = (.int .i64 s301) ∧ OwF 3 (FK.int .i64) p172.1 s297 h298 ∧ Mem w0 w (cat [h298, hF])) F _ _ ⟨(List.replicate (Int.toNat (a0.length : Int)) 0), 0, p172.2, _, he, rfl, rfl, rfl, rfl, H173, Mem.pick [0, 1] rfl hm175⟩ ?_ ?_
  ·
   rintro a w ⟨s297, s301, h298, f, he, rfl, q296, q300, q302, H299, hm318⟩
   rw [laws_toIntS_l1] at he; exact none_no he
  ·
   rintro k a w ⟨s297, s301, h298, f, he, rfl, q296, q300, q302, H299, hm320⟩
   rw [laws_toIntS_l1] at he
   refine wp_seq ?_
   refine wp_seq ?_
   refine wp_region_lit ?_
   refine s_val (v := (.int .i64 s301)) (won rfl) rfl rfl (x_move rfl (ev (t := 4) (v := (.int .i64 s301)) rfl q302)) ?_
   refine s_val (v := v0x0) (won rfl) rfl rfl (x_move rfl (ev (t := 0) (v := v0x0) rfl q296)) ?_
   refine s_val (v := (.int .i64 (a0.length : Int))) (won rfl) rfl rfl (x_len rfl slt_26 (ev (t := 9) rfl rfl) (H0x0).sl) ?_
   refine s_val (v := (.bool (decide (s301 < (a0.length : Int))))) (won rfl) rfl rfl (x_lss rfl (ev (t := 8) rfl rfl) (ev (t := 10) rfl rfl)) ?_
   refine wpList_nil ?_
   refine nx ?_
   rcases Bool.eq_false_or_eq_true ((decide (s301 < (a0.length : Int)))) with hb322 | hb322
   ·
    replace he := bifT he hb322
    refine c_true rfl (p := (decide (s301 < (a0.length : Int)))) rfl rfl hb322 ?_
    refine wp_skip ?_
    refine nx ?_
    refine wp_seq ?_
    refine wp_block ?_
    obtain ⟨hg329, he⟩ := gdE he
    obtain ⟨hg330, he⟩ := gdE he
    refine wp_region_lit ?_
    refine s_val (v := p172.1) (won rfl) rfl rfl (x_move rfl (ev (t := 3) (v := p172.1) rfl q300)) ?_
    refine s_val (v := (.int .i64 s301)) (won rfl) rfl rfl (x_move rfl (ev (t := 4) (v := (.int .i64 s301)) rfl q302)) ?_
    refine s_val (v := v0x0) (won rfl) rfl rfl (x_move rfl (ev (t := 0) (v := v0x0) rfl q296)) ?_
    refine s_val (v := (.int .i64 s301)) (won rfl) rfl rfl (x_move rfl (ev (t := 4) (v := (.int .i64 s301)) rfl q302)) ?_
    refine s_val (v := (.pointer (some ((slA v0x0).add (Int.toNat s301 * 1))))) (won rfl) rfl rfl (x_index (d := (FK.int .i64)) rfl slt_26 (ev (t := 16) rfl rfl) (ev (t := 17) rfl rfl) H0x0 hg329.1 hg329.2) ?_
    refine s_val (v := (.int .i64 (ix a0 s301))) (won rfl) rfl rfl (x_load rfl ty1x3 (ev (t := 18) rfl rfl) (RdF.cell0 H0x0 hm320 (Sub.trans hs (Sub.at_ (k := 1) rfl)) hg329.1 hg329.2 rfl)) ?_
    refine s_val (v := (.pointer (some ((slA p172.1).add (Int.toNat s301 * 1))))) (won rfl) rfl rfl (x_index (d := (FK.int .i64)) rfl slt_26 (ev (t := 14) rfl rfl) (ev (t := 15) rfl rfl) (H299.rd w0) hg330.1 hg330.2) ?_
    refine s_exw (won rfl) rfl (e_storeF (d := (FK.int .i64)) (s := (ix a0 s301)) (vs := [(.int .i64 (ix a0 s301))]) (j := 0) rfl sz_3 (ev (t := 20) rfl rfl) (add_0 _).symm (ev (t := 19) rfl rfl) rfl rfl H299 hg330.1 hg330.2 rfl rfl hm320 (k := 0) rfl) ?_
    rintro h331 w333 ⟨H332, hm334⟩
    replace hm334 : Mem w0 w333 (cat [h331, hF]) := hm334
    refine wpList_nil ?_
    refine nb ?_
    refine nx ?_
    refine wp_region_lit ?_
    refine s_val (v := (.int .i64 s301)) (won rfl) rfl rfl (x_move rfl (ev (t := 4) (v := (.int .i64 s301)) rfl q302)) ?_
    refine s_val (v := (.int .i64 (IntKind.wrap .i64 (s301 + 1)))) (won rfl) rfl rfl (x_add rfl (ev (t := 12) rfl rfl) rfl) ?_
    refine s_val (v := (.int .i64 (IntKind.wrap .i64 (s301 + 1)))) (won rfl) rfl rfl (x_assign rfl (ev (t := 13) rfl rfl)) ?_
    refine wpList_nil ?_
    refine nx ?_
    exact ⟨(List.set s297 (Int.toNat s301) (ix a0 s301)), (IntKind.wrap .i64 (s301 + 1)), h331, _, he, rfl, q296, q300, rfl, H332, Mem.pick [0, 1] rfl hm334⟩
   ·
    replace he := bifF he hb322
    refine c_false rfl (p := (decide (s301 < (a0.length : Int)))) rfl rfl hb322 ?_
    refine wp_exit ?_
    refine xs ?_
    refine xs ?_
    refine xb ?_
    refine nx ?_
    obtain rfl := Option.some.inj he
    exact ⟨h298, _, rfl, q300, H299, Mem.pick [0, 1] rfl hm320⟩
 ·
  rintro a w ⟨h253, f, rfl, q255, H254, hm336⟩
  replace he := hk257
  refine wp_seq ?_
  refine wp_region_lit ?_
  refine s_val (v := p172.1) (won rfl) rfl rfl (x_move rfl (ev (t := 3) (v := p172.1) rfl q255)) ?_
  refine s_val (v := p172.1) (won rfl) rfl rfl (x_assign rfl (ev (t := 21) rfl rfl)) ?_
  refine wpList_nil ?_
  refine nx ?_
  refine wp_ret ?_
  obtain rfl := Option.some.inj he
  refine r_ret (v := p172.1) (rv_one rfl (RVs.tmp (v := p172.1) rfl rfl RVs.nil)) rfl ?_
  exact ⟨p172.1, h253, rfl, H254, Mem.pick [0, 1] rfl hm336⟩
def laws_toPool (F : Nat) (a0 : impl_Pool) : Option (impl_Pool) := (laws_toIntS F a0.Free).bind fun r55 => (laws_toIntS F a0.Owner).bind fun r64 => (some (impl_Pool.mk r55 r64))
set_option maxHeartbeats 400000 in
set_option maxRecDepth 100000 in
theorem laws_toPool_ok (F : Nat) {w0 w : World} {hR hF : Hp} {v0x0 : Value} {v0x1 : Value} (a0 : impl_Pool) {r : (impl_Pool)} (H0x0 : RdF w0 (FK.int .i64) v0x0 a0.Free hR) (H0x1 : RdF w0 (FK.int .i64) v0x1 a0.Owner hR) (hs : Sub hR hF) (hm : Mem w0 w (cat [hF])) (he : laws_toPool F a0 = some r) :
    Calls Try.prog 20 #[(.agg #[v0x0, v0x1])] w (fun e w' => ∃ (v'0 : Value) (h'0 : Hp) (v'1 : Value) (h'1 : Hp), e = .returned (.agg #[v'0, v'1]) ∧ OwF 3 (FK.int .i64) v'0 r.Free h'0 ∧ OwF 3 (FK.int .i64) v'1 r.Owner h'1 ∧ Mem w0 w' (cat [h'0, h'1, hF])) := by
 refine calls_fr (n := 13) Try.func20 rfl rfl rfl ?_
 unfold laws_toPool at he
 refine wp_seq ?_
 refine wp_region_lit ?_
 refine s_exv (won rfl) rfl rfl (e_box (vs := [v0x0, v0x1]) rfl (ev (t := 0) rfl rfl) rfl hm) ?_
 rintro g39 w40 hm41
 refine s_exv (won rfl) rfl rfl (e_alloc (vs := [(.slice none 0 0), (.slice none 0 0)]) rfl zt_28 rfl hm41) ?_
 rintro g45 w46 hm47
 refine wpList_nil ?_
 refine nx ?_
 refine wp_seq ?_
 refine wp_region_lit ?_
 refine s_exv (won rfl) rfl rfl (e_alloc (vs := [(.slice none 0 0), (.slice none 0 0)]) rfl zt_28 rfl hm47) ?_
 rintro g51 w52 hm53
 refine wpList_nil ?_
 refine nx ?_
 refine wp_seq ?_
 obtain ⟨r55, hr55, he⟩ := bindE he
 refine wp_region_lit ?_
 refine s_val (v := (.pointer (some ⟨g39, 0, none⟩))) (won rfl) rfl rfl (x_field rfl fa_45x0 (ev (t := 1) rfl rfl)) ?_
 refine s_val (v := v0x0) (won rfl) rfl rfl (x_load rfl ty1x26 (ev (t := 4) rfl rfl) (seg_cell (o' := 0) (j := 0) hm53 (k := 2) rfl rfl rfl)) ?_
 refine s_call (won rfl) rfl rfl (x_call rfl rfl cl_68 (map_lit (map_cons (ev (t := 5) rfl rfl) map_nil))) (laws_toIntS_ok F (hR := (cat [hR])) (hF := cat [sg g51 28 (0, 0) [] [(.slice none 0 0), (.slice none 0 0)] [], sg g45 28 (0, 0) [] [(.slice none 0 0), (.slice none 0 0)] [], sg g39 45 (0, 0) [] [v0x0, v0x1] [], hF]) a0.Free (H0x0.mono (Sub.at_ (k := 0) rfl)) (subc (Sub.trans hs (Sub.at_ (k := 3) rfl)) subn) (Mem.one hm53) hr55) ?_
 rintro e w60 ⟨v57, h59, rfl, H58, hm61⟩
 refine ⟨_, rfl, ?_⟩
 replace hm61 : Mem w0 w60 (cat [h59, sg g51 28 (0, 0) [] [(.slice none 0 0), (.slice none 0 0)] [], sg g45 28 (0, 0) [] [(.slice none 0 0), (.slice none 0 0)] [], sg g39 45 (0, 0) [] [v0x0, v0x1] [], hF]) := Mem.ung [h59] [sg g51 28 (0, 0) [] [(.slice none 0 0), (.slice none 0 0)] [], sg g45 28 (0, 0) [] [(.slice none 0 0), (.slice none 0 0)] [], sg g39 45 (0, 0) [] [v0x0, v0x1] [], hF] hm61
 refine s_val (v := (.pointer (some ⟨g51, 0, none⟩))) (won rfl) rfl rfl (x_field rfl fa_28x0 (ev (t := 3) rfl rfl)) ?_
 refine s_exs (won rfl) rfl (e_store (vs := [v57]) (o' := 0) (j := 0) rfl sz_26 (ev (t := 7) rfl rfl) (ev (t := 6) rfl rfl) (IsSl.cells (H58).sl) (one_cons (IsSl.one (H58).sl) one_nil) hm61 (k := 1) rfl rfl rfl) ?_
 intro w62 hm63
 replace hm63 : Mem w0 w62 (cat [h59, sg g51 28 (0, 0) [] [v57, (.slice none 0 0)] [], sg g45 28 (0, 0) [] [(.slice none 0 0), (.slice none 0 0)] [], sg g39 45 (0, 0) [] [v0x0, v0x1] [], hF]) := hm63
 refine wpList_nil ?_
 refine nx ?_
 refine wp_seq ?_
 obtain ⟨r64, hr64, he⟩ := bindE he
 refine wp_region_lit ?_
 refine s_val (v := (.pointer (some ⟨g39, 1, none⟩))) (won rfl) rfl rfl (x_field rfl fa_45x1 (ev (t := 1) rfl rfl)) ?_
 refine s_val (v := v0x1) (won rfl) rfl rfl (x_load rfl ty1x26 (ev (t := 8) rfl rfl) (seg_cell (o' := 0) (j := 1) hm63 (k := 3) rfl rfl rfl)) ?_
 refine s_call (won rfl) rfl rfl (x_call rfl rfl cl_68 (map_lit (map_cons (ev (t := 9) rfl rfl) map_nil))) (laws_toIntS_ok F (hR := (cat [hR])) (hF := cat [h59, sg g51 28 (0, 0) [] [v57, (.slice none 0 0)] [], sg g45 28 (0, 0) [] [(.slice none 0 0), (.slice none 0 0)] [], sg g39 45 (0, 0) [] [v0x0, v0x1] [], hF]) a0.Owner (H0x1.mono (Sub.at_ (k := 0) rfl)) (subc (Sub.trans hs (Sub.at_ (k := 4) rfl)) subn) (Mem.one hm63) hr64) ?_
 rintro e w69 ⟨v66, h68, rfl, H67, hm70⟩
 refine ⟨_, rfl, ?_⟩
 replace hm70 : Mem w0 w69 (cat [h68, h59, sg g51 28 (0, 0) [] [v57, (.slice none 0 0)] [], sg g45 28 (0, 0) [] [(.slice none 0 0), (.slice none 0 0)] [], sg g39 45 (0, 0) [] [v0x0, v0x1] [], hF]) := Mem.ung [h68] [h59, sg g51 28 (0, 0) [] [v57, (.slice none 0 0)] [], sg g45 28 (0, 0) [] [(.slice none 0 0), (.slice none 0 0)] [], sg g39 45 (0, 0) [] [v0x0, v0x1] [], hF] hm70
 refine s_val (v := (.pointer (some ⟨g51, 1, none⟩))) (won rfl) rfl rfl (x_field rfl fa_28x1 (ev (t := 3) rfl rfl)) ?_
 refine s_exs (won rfl) rfl (e_store (vs := [v66]) (o' := 0) (j := 1) rfl sz_26 (ev (t := 11) rfl rfl) (ev (t := 10) rfl rfl) (IsSl.cells (H67).sl) (one_cons (IsSl.one (H67).sl) one_nil) hm70 (k := 2) rfl rfl rfl) ?_
 intro w71 hm72
 replace hm72 : Mem w0 w71 (cat [h68, h59, sg g51 28 (0, 0) [] [v57, v66] [], sg g45 28 (0, 0) [] [(.slice none 0 0), (.slice none 0 0)] [], sg g39 45 (0, 0) [] [v0x0, v0x1] [], hF]) := hm72
 refine wpList_nil ?_
 have hm73 : Mem w0 w71 (cat [h68, h59, sg g51 28 (0, 0) [] [v57, v66] [], sg g45 28 (0, 0) [] [(.slice none 0 0), (.slice none 0 0)] [], hF]) := Mem.pick [0, 1, 2, 3, 5] rfl hm72
 refine nx ?_
 refine wp_seq ?_
 refine wp_region_lit ?_
 refine s_val (v := (.agg #[v57, v66])) (won rfl) rfl rfl (x_loadN (vs := [v57, v66]) rfl tyN_28 (ev (t := 3) rfl rfl) (seg_cells (o' := 0) (j := 0) hm73 (k := 2) rfl rfl rfl)) ?_
 refine s_exs (won rfl) rfl (e_store (vs := [v57, v66]) (o' := 0) (j := 0) rfl sz_28 (ev (t := 2) rfl rfl) (ev (t := 12) rfl rfl) rfl (one_cons (IsSl.one (H58).sl) (one_cons (IsSl.one (H67).sl) one_nil)) hm73 (k := 3) rfl rfl rfl) ?_
 intro w74 hm75
 replace hm75 : Mem w0 w74 (cat [h68, h59, sg g51 28 (0, 0) [] [v57, v66] [], sg g45 28 (0, 0) [] [v57, v66] [], hF]) := hm75
 refine wpList_nil ?_
 have hm76 : Mem w0 w74 (cat [h68, h59, sg g45 28 (0, 0) [] [v57, v66] [], hF]) := Mem.pick [0, 1, 3, 4] rfl hm75
 refine nx ?_
 refine wp_ret ?_
 obtain rfl := Option.some.inj he
 refine r_ret (v := (.agg #[v57, v66])) (rv_one rfl (RVs.cell (cs := [v57, v66]) rfl rfl tyN_28 (seg_cells (o' := 0) (j := 0) hm76 (k := 2) rfl rfl rfl) RVs.nil)) rfl ?_
 exact ⟨v57, h59, v66, h68, rfl, H58, H67, Mem.pick [1, 0, 3] rfl hm76⟩
def laws_toPoolAct (a0 : impl_PoolAct) : Option (impl_PoolAct) := (some a0)
set_option maxHeartbeats 400000 in
set_option maxRecDepth 100000 in
theorem laws_toPoolAct_ok {w0 w : World} {hR hF : Hp} (a0 : impl_PoolAct) {r : (impl_PoolAct)} (hm : Mem w0 w (cat [hF])) (he : laws_toPoolAct a0 = some r) :
    Calls Try.prog 21 #[(.agg #[(.int .i64 a0.Kind), (.int .i64 a0.Owner), (.int .i64 a0.To), (.int .i64 a0.Buffer)])] w (fun e w' => e = .returned (.agg #[(.int .i64 r.Kind), (.int .i64 r.Owner), (.int .i64 r.To), (.int .i64 r.Buffer)]) ∧ Mem w0 w' (cat [hF])) := by
 refine calls_fr (n := 17) Try.func21 rfl rfl rfl ?_
 unfold laws_toPoolAct at he
 refine wp_seq ?_
 refine wp_region_lit ?_
 refine s_exv (won rfl) rfl rfl (e_box (vs := [(.int .i64 a0.Kind), (.int .i64 a0.Owner), (.int .i64 a0.To), (.int .i64 a0.Buffer)]) rfl (ev (t := 0) rfl rfl) rfl hm) ?_
 rintro g25 w26 hm27
 refine s_exv (won rfl) rfl rfl (e_alloc (vs := [(.int .i64 0), (.int .i64 0), (.int .i64 0), (.int .i64 0)]) rfl zt_39 rfl hm27) ?_
 rintro g29 w30 hm31
 refine wpList_nil ?_
 refine nx ?_
 refine wp_seq ?_
 refine wp_region_lit ?_
 refine s_exv (won rfl) rfl rfl (e_alloc (vs := [(.int .i64 0), (.int .i64 0), (.int .i64 0), (.int .i64 0)]) rfl zt_39 rfl hm31) ?_
 rintro g33 w34 hm35
 refine wpList_nil ?_
 refine nx ?_
 refine wp_seq ?_
 refine wp_region_lit ?_
 refine s_val (v := (.pointer (some ⟨g25, 0, none⟩))) (won rfl) rfl rfl (x_field rfl fa_46x0 (ev (t := 1) rfl rfl)) ?_
 refine s_val (v := (.int .i64 a0.Kind)) (won rfl) rfl rfl (x_load rfl ty1x3 (ev (t := 4) rfl rfl) (seg_cell (o' := 0) (j := 0) hm35 (k := 2) rfl rfl rfl)) ?_
 refine s_val (v := (.pointer (some ⟨g33, 0, none⟩))) (won rfl) rfl rfl (x_field rfl fa_39x0 (ev (t := 3) rfl rfl)) ?_
 refine s_exs (won rfl) rfl (e_store (vs := [(.int .i64 a0.Kind)]) (o' := 0) (j := 0) rfl sz_3 (ev (t := 6) rfl rfl) (ev (t := 5) rfl rfl) rfl rfl hm35 (k := 0) rfl rfl rfl) ?_
 intro w37 hm38
 replace hm38 : Mem w0 w37 (cat [sg g33 39 (0, 0) [] [(.int .i64 a0.Kind), (.int .i64 0), (.int .i64 0), (.int .i64 0)] [], sg g29 39 (0, 0) [] [(.int .i64 0), (.int .i64 0), (.int .i64 0), (.int .i64 0)] [], sg g25 46 (0, 0) [] [(.int .i64 a0.Kind), (.int .i64 a0.Owner), (.int .i64 a0.To), (.int .i64 a0.Buffer)] [], hF]) := hm38
 refine wpList_nil ?_
 refine nx ?_
 refine wp_seq ?_
 refine wp_region_lit ?_
 refine s_val (v := (.pointer (some ⟨g25, 1, none⟩))) (won rfl) rfl rfl (x_field rfl fa_46x1 (ev (t := 1) rfl rfl)) ?_
 refine s_val (v := (.int .i64 a0.Owner)) (won rfl) rfl rfl (x_load rfl ty1x3 (ev (t := 7) rfl rfl) (seg_cell (o' := 0) (j := 1) hm38 (k := 2) rfl rfl rfl)) ?_
 refine s_val (v := (.pointer (some ⟨g33, 1, none⟩))) (won rfl) rfl rfl (x_field rfl fa_39x1 (ev (t := 3) rfl rfl)) ?_
 refine s_exs (won rfl) rfl (e_store (vs := [(.int .i64 a0.Owner)]) (o' := 0) (j := 1) rfl sz_3 (ev (t := 9) rfl rfl) (ev (t := 8) rfl rfl) rfl rfl hm38 (k := 0) rfl rfl rfl) ?_
 intro w39 hm40
 replace hm40 : Mem w0 w39 (cat [sg g33 39 (0, 0) [] [(.int .i64 a0.Kind), (.int .i64 a0.Owner), (.int .i64 0), (.int .i64 0)] [], sg g29 39 (0, 0) [] [(.int .i64 0), (.int .i64 0), (.int .i64 0), (.int .i64 0)] [], sg g25 46 (0, 0) [] [(.int .i64 a0.Kind), (.int .i64 a0.Owner), (.int .i64 a0.To), (.int .i64 a0.Buffer)] [], hF]) := hm40
 refine wpList_nil ?_
 refine nx ?_
 refine wp_seq ?_
 refine wp_region_lit ?_
 refine s_val (v := (.pointer (some ⟨g25, 2, none⟩))) (won rfl) rfl rfl (x_field rfl fa_46x2 (ev (t := 1) rfl rfl)) ?_
 refine s_val (v := (.int .i64 a0.To)) (won rfl) rfl rfl (x_load rfl ty1x3 (ev (t := 10) rfl rfl) (seg_cell (o' := 0) (j := 2) hm40 (k := 2) rfl rfl rfl)) ?_
 refine s_val (v := (.pointer (some ⟨g33, 2, none⟩))) (won rfl) rfl rfl (x_field rfl fa_39x2 (ev (t := 3) rfl rfl)) ?_
 refine s_exs (won rfl) rfl (e_store (vs := [(.int .i64 a0.To)]) (o' := 0) (j := 2) rfl sz_3 (ev (t := 12) rfl rfl) (ev (t := 11) rfl rfl) rfl rfl hm40 (k := 0) rfl rfl rfl) ?_
 intro w41 hm42
 replace hm42 : Mem w0 w41 (cat [sg g33 39 (0, 0) [] [(.int .i64 a0.Kind), (.int .i64 a0.Owner), (.int .i64 a0.To), (.int .i64 0)] [], sg g29 39 (0, 0) [] [(.int .i64 0), (.int .i64 0), (.int .i64 0), (.int .i64 0)] [], sg g25 46 (0, 0) [] [(.int .i64 a0.Kind), (.int .i64 a0.Owner), (.int .i64 a0.To), (.int .i64 a0.Buffer)] [], hF]) := hm42
 refine wpList_nil ?_
 refine nx ?_
 refine wp_seq ?_
 refine wp_region_lit ?_
 refine s_val (v := (.pointer (some ⟨g25, 3, none⟩))) (won rfl) rfl rfl (x_field rfl fa_46x3 (ev (t := 1) rfl rfl)) ?_
 refine s_val (v := (.int .i64 a0.Buffer)) (won rfl) rfl rfl (x_load rfl ty1x3 (ev (t := 13) rfl rfl) (seg_cell (o' := 0) (j := 3) hm42 (k := 2) rfl rfl rfl)) ?_
 refine s_val (v := (.pointer (some ⟨g33, 3, none⟩))) (won rfl) rfl rfl (x_field rfl fa_39x3 (ev (t := 3) rfl rfl)) ?_
 refine s_exs (won rfl) rfl (e_store (vs := [(.int .i64 a0.Buffer)]) (o' := 0) (j := 3) rfl sz_3 (ev (t := 15) rfl rfl) (ev (t := 14) rfl rfl) rfl rfl hm42 (k := 0) rfl rfl rfl) ?_
 intro w43 hm44
 replace hm44 : Mem w0 w43 (cat [sg g33 39 (0, 0) [] [(.int .i64 a0.Kind), (.int .i64 a0.Owner), (.int .i64 a0.To), (.int .i64 a0.Buffer)] [], sg g29 39 (0, 0) [] [(.int .i64 0), (.int .i64 0), (.int .i64 0), (.int .i64 0)] [], sg g25 46 (0, 0) [] [(.int .i64 a0.Kind), (.int .i64 a0.Owner), (.int .i64 a0.To), (.int .i64 a0.Buffer)] [], hF]) := hm44
 refine wpList_nil ?_
 have hm45 : Mem w0 w43 (cat [sg g33 39 (0, 0) [] [(.int .i64 a0.Kind), (.int .i64 a0.Owner), (.int .i64 a0.To), (.int .i64 a0.Buffer)] [], sg g29 39 (0, 0) [] [(.int .i64 0), (.int .i64 0), (.int .i64 0), (.int .i64 0)] [], hF]) := Mem.pick [0, 1, 3] rfl hm44
 refine nx ?_
 refine wp_seq ?_
 refine wp_region_lit ?_
 refine s_val (v := (.agg #[(.int .i64 a0.Kind), (.int .i64 a0.Owner), (.int .i64 a0.To), (.int .i64 a0.Buffer)])) (won rfl) rfl rfl (x_loadN (vs := [(.int .i64 a0.Kind), (.int .i64 a0.Owner), (.int .i64 a0.To), (.int .i64 a0.Buffer)]) rfl tyN_39 (ev (t := 3) rfl rfl) (seg_cells (o' := 0) (j := 0) hm45 (k := 0) rfl rfl rfl)) ?_
 refine s_exs (won rfl) rfl (e_store (vs := [(.int .i64 a0.Kind), (.int .i64 a0.Owner), (.int .i64 a0.To), (.int .i64 a0.Buffer)]) (o' := 0) (j := 0) rfl sz_39 (ev (t := 2) rfl rfl) (ev (t := 16) rfl rfl) rfl rfl hm45 (k := 1) rfl rfl rfl) ?_
 intro w46 hm47
 replace hm47 : Mem w0 w46 (cat [sg g33 39 (0, 0) [] [(.int .i64 a0.Kind), (.int .i64 a0.Owner), (.int .i64 a0.To), (.int .i64 a0.Buffer)] [], sg g29 39 (0, 0) [] [(.int .i64 a0.Kind), (.int .i64 a0.Owner), (.int .i64 a0.To), (.int .i64 a0.Buffer)] [], hF]) := hm47
 refine wpList_nil ?_
 have hm48 : Mem w0 w46 (cat [sg g29 39 (0, 0) [] [(.int .i64 a0.Kind), (.int .i64 a0.Owner), (.int .i64 a0.To), (.int .i64 a0.Buffer)] [], hF]) := Mem.pick [1, 2] rfl hm47
 refine nx ?_
 refine wp_ret ?_
 obtain rfl := Option.some.inj he
 refine r_ret (v := (.agg #[(.int .i64 a0.Kind), (.int .i64 a0.Owner), (.int .i64 a0.To), (.int .i64 a0.Buffer)])) (rv_one rfl (RVs.cell (cs := [(.int .i64 a0.Kind), (.int .i64 a0.Owner), (.int .i64 a0.To), (.int .i64 a0.Buffer)]) rfl rfl tyN_39 (seg_cells (o' := 0) (j := 0) hm48 (k := 0) rfl rfl rfl) RVs.nil)) rfl ?_
 exact ⟨rfl, Mem.pick [1] rfl hm48⟩
def spec_l01In (a0 : Int) (a1 : Int) (a2 : Int) : Option (Bool) := (some ((decide (a1 ≤ a0)) && (decide (a0 ≤ a2))))
set_option maxHeartbeats 400000 in
set_option maxRecDepth 100000 in
theorem spec_l01In_ok {w0 w : World} {hR hF : Hp} (a0 : Int) (a1 : Int) (a2 : Int) {r : (Bool)} (hm : Mem w0 w (cat [hF])) (he : spec_l01In a0 a1 a2 = some r) :
    Calls Try.prog 87 #[(.int .i64 a0), (.int .i64 a1), (.int .i64 a2)] w (fun e w' => e = .returned (.bool r) ∧ Mem w0 w' (cat [hF])) := by
 refine calls_fr (n := 15) Try.func87 rfl rfl rfl ?_
 unfold spec_l01In at he
 refine wp_seq ?_
 refine wp_region_lit ?_
 refine s_val (v := (.bool false)) (won rfl) rfl rfl (x_assign rfl rfl) ?_
 refine wpList_nil ?_
 refine nx ?_
 refine wp_seq ?_
 refine wp_region_lit ?_
 refine s_val (v := (.int .i64 a0)) (won rfl) rfl rfl (x_move rfl (ev (t := 0) rfl rfl)) ?_
 refine s_val (v := (.int .i64 a1)) (won rfl) rfl rfl (x_move rfl (ev (t := 1) rfl rfl)) ?_
 refine s_val (v := (.bool (decide (a1 ≤ a0)))) (won rfl) rfl rfl (x_geq rfl (ev (t := 7) rfl rfl) (ev (t := 8) rfl rfl)) ?_
 refine s_val (v := (.bool (decide (a1 ≤ a0)))) (won rfl) rfl rfl (x_move rfl (ev (t := 9) rfl rfl)) ?_
 refine s_cval (p := (decide (a1 ≤ a0))) (v := (.int .i64 a0)) (won_t (j := 3) (t := 10) (q := (decide (a1 ≤ a0))) rfl rfl rfl rfl rfl) rfl rfl (fun hp => (x_move rfl (ev (t := 0) rfl rfl))) ?_
 refine s_cval (p := (decide (a1 ≤ a0))) (v := (.int .i64 a2)) (won_t (j := 3) (t := 10) (q := (decide (a1 ≤ a0))) rfl rfl rfl rfl rfl) rfl rfl (fun hp => (x_move rfl (ev (t := 2) rfl rfl))) ?_
 refine s_cval (p := (decide (a1 ≤ a0))) (v := (.bool (decide (a0 ≤ a2)))) (won_t (j := 3) (t := 10) (q := (decide (a1 ≤ a0))) rfl rfl rfl rfl rfl) rfl rfl (fun hp => (x_leq rfl (ev (t := 11) rfl (Eq.trans (b := cv (decide (a1 ≤ a0)) (.int .i64 a0)) rfl (on_c hp))) (ev (t := 12) rfl (Eq.trans (b := cv (decide (a1 ≤ a0)) (.int .i64 a2)) rfl (on_c hp))))) ?_
 refine s_val (v := (.bool ((decide (a1 ≤ a0)) && (decide (a0 ≤ a2))))) (won rfl) rfl rfl (x_pick_and rfl (ev (t := 10) rfl rfl) (fun hq => ev rfl (Eq.trans (b := cv (decide (a1 ≤ a0)) (.bool (decide (a0 ≤ a2)))) rfl (on_c hq))) rfl) ?_
 refine s_val (v := (.bool ((decide (a1 ≤ a0)) && (decide (a0 ≤ a2))))) (won rfl) rfl rfl (x_assign rfl (ev (t := 14) rfl rfl)) ?_
 refine wpList_nil ?_
 refine nx ?_
 refine wp_ret ?_
 obtain rfl := Option.some.inj he
 refine r_ret (v := (.bool ((decide (a1 ≤ a0)) && (decide (a0 ≤ a2))))) (rv_one rfl (RVs.tmp (v := (.bool ((decide (a1 ≤ a0)) && (decide (a0 ≤ a2))))) rfl rfl RVs.nil)) rfl ?_
 exact ⟨rfl, Mem.pick [0] rfl hm⟩
def spec_PoolOK_l1 (F : Nat) (a0 : impl_Pool) : Nat → (List Bool) → Int → Option (Fl (Bool) ((List Bool)))
  | 0, _, _ => none
  | k + 1, s911, s915 => (bif (decide (s915 < (a0.Free.length : Int))) then gd ((0 : Int) ≤ s915 ∧ s915 < (a0.Free.length : Int)) ((spec_l01In (ix a0.Free s915) 0 (IntKind.wrap .i64 ((a0.Owner.length : Int) - 1))).bind fun r1000 => gd ((!(!r1000)) = true → (0 : Int) ≤ s915 ∧ s915 < (a0.Free.length : Int)) (gd ((!(!r1000)) = true → (0 : Int) ≤ (ix a0.Free s915) ∧ (ix a0.Free s915) < (s911.length : Int)) ((bif ((!r1000) || (ix s911 (ix a0.Free s915))) then (some (Fl.out false)) else gd ((0 : Int) ≤ s915 ∧ s915 < (a0.Free.length : Int)) (gd ((0 : Int) ≤ (ix a0.Free s915) ∧ (ix a0.Free s915) < (s911.length : Int)) (spec_PoolOK_l1 F a0 k (List.set s911 (Int.toNat (ix a0.Free s915)) true) (IntKind.wrap .i64 (s915 + 1)))))))) else (some (Fl.go s911)))
def spec_PoolOK_l2 (F : Nat) (a0 : impl_Pool) (s805 : ((List Bool))) : Nat → Int → Option (Fl (Bool) (Unit))
  | 0, _ => none
  | k + 1, s1107 => (bif (decide (s1107 < (a0.Owner.length : Int))) then gd ((0 : Int) ≤ s1107 ∧ s1107 < (a0.Owner.length : Int)) ((spec_l01In (ix a0.Owner s1107) (-1) 5).bind fun r1142 => gd ((!(!r1142)) = true → (0 : Int) ≤ s1107 ∧ s1107 < (s805.length : Int)) (gd ((!(!r1142)) = true → (0 : Int) ≤ s1107 ∧ s1107 < (a0.Owner.length : Int)) ((bif ((!r1142) || (!((ix s805 s1107) == (decide ((ix a0.Owner s1107) < 0))))) then (some (Fl.out false)) else spec_PoolOK_l2 F a0 s805 k (IntKind.wrap .i64 (s1107 + 1)))))) else (some (Fl.go ())))
def spec_PoolOK (F : Nat) (a0 : impl_Pool) : Option (Bool) := (spec_l01In (a0.Owner.length : Int) 1 32).bind fun r585 => (bif ((!r585) || (decide ((a0.Owner.length : Int) < (a0.Free.length : Int)))) then (some false) else gd ((0 : Int) ≤ (a0.Owner.length : Int) ∧ (Int.toNat (a0.Owner.length : Int)) * 1 ≤ 140737488355328) ((spec_PoolOK_l1 F a0 F (List.replicate (Int.toNat (a0.Owner.length : Int)) false) 0 : Option (Fl (Bool) ((List Bool)))).bind fun l806 => l806.on fun (s805 : ((List Bool))) => (spec_PoolOK_l2 F a0 s805 F 0 : Option (Fl (Bool) (Unit))).bind fun l1081 => l1081.on fun (s1080 : (Unit)) => (some true)))
set_option maxHeartbeats 400000 in
set_option maxRecDepth 100000 in
theorem spec_PoolOK_ok (F : Nat) {w0 w : World} {hR hF : Hp} {v0x0 : Value} {v0x1 : Value} (a0 : impl_Pool) {r : (Bool)} (H0x0 : RdF w0 (FK.int .i64) v0x0 a0.Free hR) (H0x1 : RdF w0 (FK.int .i64) v0x1 a0.Owner hR) (hs : Sub hR hF) (hm : Mem w0 w (cat [hF])) (he : spec_PoolOK F a0 = some r) :
    Calls Try.prog 67 #[(.agg #[v0x0, v0x1])] w (fun e w' => e = .returned (.bool r) ∧ Mem w0 w' (cat [hF])) := by
 refine calls_fr (n := 86) Try.func67 rfl rfl rfl ?_
 unfold spec_PoolOK at he
 refine wp_seq ?_
 refine wp_region_lit ?_
 refine s_exv (won rfl) rfl rfl (e_box (vs := [v0x0, v0x1]) rfl (ev (t := 0) rfl rfl) rfl hm) ?_
 rintro g576 w577 hm578
 refine s_val (v := (.bool false)) (won rfl) rfl rfl (x_assign rfl rfl) ?_
 refine wpList_nil ?_
 refine nx ?_
 refine wp_seq ?_
 refine wp_seq ?_
 obtain ⟨r585, hr585, he⟩ := bindE he
 refine wp_region_lit ?_
 refine s_val (v := (.pointer (some ⟨g576, 1, none⟩))) (won rfl) rfl rfl (x_field rfl fa_28x1 (ev (t := 1) rfl rfl)) ?_
 refine s_val (v := v0x1) (won rfl) rfl rfl (x_load rfl ty1x26 (ev (t := 6) rfl rfl) (seg_cell (o' := 0) (j := 1) hm578 (k := 0) rfl rfl rfl)) ?_
 refine s_val (v := (.int .i64 (a0.Owner.length : Int))) (won rfl) rfl rfl (x_len rfl slt_26 (ev (t := 7) rfl rfl) (H0x1).sl) ?_
 refine s_call (won rfl) rfl rfl (x_call rfl rfl cl_87 (map_lit (map_cons (ev (t := 8) rfl rfl) (map_cons rfl (map_cons rfl map_nil))))) (spec_l01In_ok (hR := (cat [])) (hF := cat [sg g576 28 (0, 0) [] [v0x0, v0x1] [], hF]) (a0.Owner.length : Int) 1 32  (Mem.one hm578) hr585) ?_
 rintro e w586 ⟨rfl, hm587⟩
 refine ⟨_, rfl, ?_⟩
 replace hm587 : Mem w0 w586 (cat [sg g576 28 (0, 0) [] [v0x0, v0x1] [], hF]) := Mem.un hm587
 refine s_val (v := (.bool (!r585))) (won rfl) rfl rfl (x_not rfl (ev (t := 9) rfl rfl)) ?_
 refine s_val (v := (.bool (!r585))) (won rfl) rfl rfl (x_move rfl (ev (t := 10) rfl rfl)) ?_
 refine s_cval (p := (!(!r585))) (v := (.pointer (some ⟨g576, 0, none⟩))) (won_f (j := 5) (t := 11) (q := (!r585)) rfl rfl rfl rfl rfl) rfl rfl (fun hp => (x_field rfl fa_28x0 (ev (t := 1) rfl rfl))) ?_
 refine s_cval (p := (!(!r585))) (v := v0x0) (won_f (j := 5) (t := 11) (q := (!r585)) rfl rfl rfl rfl rfl) rfl rfl (fun hp => (x_load rfl ty1x26 (ev (t := 12) rfl (Eq.trans (b := cv (!(!r585)) (.pointer (some ⟨g576, 0, none⟩))) rfl (on_c hp))) (seg_cell (o' := 0) (j := 0) hm587 (k := 0) rfl rfl rfl))) ?_
 refine s_cval (p := (!(!r585))) (v := (.int .i64 (a0.Free.length : Int))) (won_f (j := 5) (t := 11) (q := (!r585)) rfl rfl rfl rfl rfl) rfl rfl (fun hp => (x_len rfl slt_26 (ev (t := 13) rfl (Eq.trans (b := cv (!(!r585)) v0x0) rfl (on_c hp))) (H0x0).sl)) ?_
 refine s_cval (p := (!(!r585))) (v := (.pointer (some ⟨g576, 1, none⟩))) (won_f (j := 5) (t := 11) (q := (!r585)) rfl rfl rfl rfl rfl) rfl rfl (fun hp => (x_field rfl fa_28x1 (ev (t := 1) rfl rfl))) ?_
 refine s_cval (p := (!(!r585))) (v := v0x1) (won_f (j := 5) (t := 11) (q := (!r585)) rfl rfl rfl rfl rfl) rfl rfl (fun hp => (x_load rfl ty1x26 (ev (t := 15) rfl (Eq.trans (b := cv (!(!r585)) (.pointer (some ⟨g576, 1, none⟩))) rfl (on_c hp))) (seg_cell (o' := 0) (j := 1) hm587 (k := 0) rfl rfl rfl))) ?_
 refine s_cval (p := (!(!r585))) (v := (.int .i64 (a0.Owner.length : Int))) (won_f (j := 5) (t := 11) (q := (!r585)) rfl rfl rfl rfl rfl) rfl rfl (fun hp => (x_len rfl slt_26 (ev (t := 16) rfl (Eq.trans (b := cv (!(!r585)) v0x1) rfl (on_c hp))) (H0x1).sl)) ?_
 refine s_cval (p := (!(!r585))) (v := (.bool (decide ((a0.Owner.length : Int) < (a0.Free.length : Int))))) (won_f (j := 5) (t := 11) (q := (!r585)) rfl rfl rfl rfl rfl) rfl rfl (fun hp => (x_gtr rfl (ev (t := 14) rfl (Eq.trans (b := cv (!(!r585)) (.int .i64 (a0.Free.length : Int))) rfl (on_c hp))) (ev (t := 17) rfl (Eq.trans (b := cv (!(!r585)) (.int .i64 (a0.Owner.length : Int))) rfl (on_c hp))))) ?_
 refine s_val (v := (.bool ((!r585) || (decide ((a0.Owner.length : Int) < (a0.Free.length : Int)))))) (won rfl) rfl rfl (x_pick_or rfl (ev (t := 11) rfl rfl) rfl (fun hq => ev rfl (Eq.trans (b := cv (!(!r585)) (.bool (decide ((a0.Owner.length : Int) < (a0.Free.length : Int))))) rfl (on_c (not_i hq))))) ?_
 refine wpList_nil ?_
 refine nx ?_
 rcases Bool.eq_false_or_eq_true (((!r585) || (decide ((a0.Owner.length : Int) < (a0.Free.length : Int))))) with hb588 | hb588
 ·
  replace he := bifT he hb588
  refine c_true rfl (p := ((!r585) || (decide ((a0.Owner.length : Int) < (a0.Free.length : Int))))) rfl rfl hb588 ?_
  refine wp_seq ?_
  refine wp_region_lit ?_
  refine s_val (v := (.bool false)) (won rfl) rfl rfl (x_assign rfl rfl) ?_
  refine wpList_nil ?_
  have hm589 : Mem w0 w586 (cat [hF]) := Mem.pick [1] rfl hm587
  refine nx ?_
  refine wp_ret ?_
  refine xr ?_
  obtain rfl := Option.some.inj he
  refine r_ret (v := (.bool false)) (rv_one rfl (RVs.tmp (v := (.bool false)) rfl rfl RVs.nil)) rfl ?_
  exact ⟨rfl, Mem.pick [0] rfl hm589⟩
 ·
  replace he := bifF he hb588
  refine c_false rfl (p := ((!r585) || (decide ((a0.Owner.length : Int) < (a0.Free.length : Int))))) rfl rfl hb588 ?_
  refine wp_skip ?_
  refine nx ?_
  refine wp_seq ?_
  obtain ⟨hg590, he⟩ := gdE he
  refine wp_region_lit ?_
  refine s_val (v := (.pointer (some ⟨g576, 1, none⟩))) (won rfl) rfl rfl (x_field rfl fa_28x1 (ev (t := 1) rfl rfl)) ?_
  refine s_val (v := v0x1) (won rfl) rfl rfl (x_load rfl ty1x26 (ev (t := 20) rfl rfl) (seg_cell (o' := 0) (j := 1) hm587 (k := 0) rfl rfl rfl)) ?_
  refine s_val (v := (.int .i64 (a0.Owner.length : Int))) (won rfl) rfl rfl (x_len rfl slt_26 (ev (t := 21) rfl rfl) (H0x1).sl) ?_
  refine s_exv (won rfl) rfl rfl (e_make (d := FK.bool) (a := false) rfl slt_124 rfl (ev (t := 22) rfl rfl) (ev (t := 22) rfl rfl) hg590.1 hg590.2 (by have := hg590; omega) hm587) ?_
  rintro p592 w594 ⟨H593, hm595⟩
  replace hm595 : Mem w0 w594 (cat [p592.2, sg g576 28 (0, 0) [] [v0x0, v0x1] [], hF]) := hm595
  refine s_val (v := p592.1) (won rfl) rfl rfl (x_assign rfl (ev (t := 23) rfl rfl)) ?_
  refine wpList_nil ?_
  refine nx ?_
  obtain ⟨l806, hT808, hk807⟩ := bindE he
  replace he := hT808
  refine wp_seqJ (fun a w => ∃ (s805 : ((List Bool))) (h802 : Hp) (f : Nat → Value), l806 = Fl.go s805 ∧ a = fr 86 f ∧ f 1 = (.pointer (some ⟨g576, 0, none⟩)) ∧ f 3 = p592.1 ∧ OwF 4 FK.bool p592.1 s805 h802 ∧ Mem w0 w (cat [sg g576 28 (0, 0) [] [v0x0, v0x1] [], h802, hF])) ?_ ?_
  ·
   refine wp_seq ?_
   refine wp_region_lit ?_
   refine s_val (v := (.int .i64 0)) (won rfl) rfl rfl (x_assign rfl rfl) ?_
   refine wpList_nil ?_
   refine nx ?_
   refine wp_block ?_
   refine wp_fuel (I := fun k => fun a w => ∃ (s911 : (List Bool)) (s915 : Int) (h912 : Hp) (f : Nat → Value), spec_PoolOK_l1 F a0 k s911 s915 = some l806 ∧ a = fr 86 f ∧ f 1 = (.pointer (some ⟨g576, 0, none⟩)) ∧ f 3 = p592.1 ∧ f 4 = (.int .i64 s915) ∧ OwF 4 FK.bool p592.1 s911 h912 ∧ Mem w0 w (cat [sg g576 28 (0, 0) [] [v0x0, v0x1] [], h912, hF])) F _ _ ⟨(List.replicate (Int.toNat (a0.Owner.length : Int)) false), 0, p592.2, _, he, rfl, rfl, rfl, rfl, H593, Mem.pick [1, 0, 2] rfl hm595⟩ ?_ ?_
   ·
    rintro a w ⟨s911, s915, h912, f, he, rfl, q910, q914, q916, H913, hm964⟩
    rw [spec_PoolOK_l1] at he; exact none_no he
   ·
    rintro k a w ⟨s911, s915, h912, f, he, rfl, q910, q914, q916, H913, hm966⟩
    rw [spec_PoolOK_l1] at he
    refine wp_seq ?_
    refine wp_seq ?_
    refine wp_region_lit ?_
    refine s_val (v := (.int .i64 s915)) (won rfl) rfl rfl (x_move rfl (ev (t := 4) (v := (.int .i64 s915)) rfl q916)) ?_
    refine s_val (v := (.pointer (some ⟨g576, 0, none⟩))) (won rfl) rfl rfl (x_field rfl fa_28x0 (ev (t := 1) (v := (.pointer (some ⟨g576, 0, none⟩))) rfl q910)) ?_
    refine s_val (v := v0x0) (won rfl) rfl rfl (x_load rfl ty1x26 (ev (t := 25) rfl rfl) (seg_cell (o' := 0) (j := 0) hm966 (k := 0) rfl rfl rfl)) ?_
    refine s_val (v := (.int .i64 (a0.Free.length : Int))) (won rfl) rfl rfl (x_len rfl slt_26 (ev (t := 26) rfl rfl) (H0x0).sl) ?_
    refine s_val (v := (.bool (decide (s915 < (a0.Free.length : Int))))) (won rfl) rfl rfl (x_lss rfl (ev (t := 24) rfl rfl) (ev (t := 27) rfl rfl)) ?_
    refine wpList_nil ?_
    refine nx ?_
    rcases Bool.eq_false_or_eq_true ((decide (s915 < (a0.Free.length : Int)))) with hb968 | hb968
    ·
     replace he := bifT he hb968
     refine c_true rfl (p := (decide (s915 < (a0.Free.length : Int)))) rfl rfl hb968 ?_
     refine wp_skip ?_
     refine nx ?_
     refine wp_seq ?_
     refine wp_block ?_
     refine wp_seq ?_
     refine wp_seq ?_
     obtain ⟨hg999, he⟩ := gdE he
     obtain ⟨r1000, hr1000, he⟩ := bindE he
     obtain ⟨hg1001, he⟩ := gdE he
     obtain ⟨hg1002, he⟩ := gdE he
     refine wp_qregion (cat [sg g576 28 (0, 0) [] [v0x0, v0x1] [], h912, hF]) mixed (by kernel_rfl) hm966 ?_
     refine q_val (v := (.pointer (some ⟨g576, 0, none⟩))) (won rfl) rfl rfl (fun wq hq => (x_field rfl fa_28x0 (ev (t := 1) (v := (.pointer (some ⟨g576, 0, none⟩))) rfl q910))) ?_
     refine q_val (v := v0x0) (won rfl) rfl rfl (fun wq hq => (x_load rfl ty1x26 (ev (t := 31) rfl rfl) (seg_cell (o' := 0) (j := 0) hq (k := 0) rfl rfl rfl))) ?_
     refine q_val (v := (.int .i64 s915)) (won rfl) rfl rfl (fun wq hq => (x_move rfl (ev (t := 4) (v := (.int .i64 s915)) rfl q916))) ?_
     refine q_val (v := (.pointer (some ((slA v0x0).add (Int.toNat s915 * 1))))) (won rfl) rfl rfl (fun wq hq => (x_index (d := (FK.int .i64)) rfl slt_26 (ev (t := 32) rfl rfl) (ev (t := 33) rfl rfl) H0x0 hg999.1 hg999.2)) ?_
     refine q_val (v := (.int .i64 (ix a0.Free s915))) (won rfl) rfl rfl (fun wq hq => (x_load rfl ty1x3 (ev (t := 34) rfl rfl) (RdF.cell0 H0x0 hq (Sub.trans hs (Sub.at_ (k := 2) rfl)) hg999.1 hg999.2 rfl))) ?_
     refine q_val (v := (.pointer (some ⟨g576, 1, none⟩))) (won rfl) rfl rfl (fun wq hq => (x_field rfl fa_28x1 (ev (t := 1) (v := (.pointer (some ⟨g576, 0, none⟩))) rfl q910))) ?_
     refine q_val (v := v0x1) (won rfl) rfl rfl (fun wq hq => (x_load rfl ty1x26 (ev (t := 36) rfl rfl) (seg_cell (o' := 0) (j := 1) hq (k := 0) rfl rfl rfl))) ?_
     refine q_val (v := (.int .i64 (a0.Owner.length : Int))) (won rfl) rfl rfl (fun wq hq => (x_len rfl slt_26 (ev (t := 37) rfl rfl) (H0x1).sl)) ?_
     refine q_val (v := (.int .i64 (IntKind.wrap .i64 ((a0.Owner.length : Int) - 1)))) (won rfl) rfl rfl (fun wq hq => (x_sub rfl (ev (t := 38) rfl rfl) rfl)) ?_
     refine q_call (v := (.bool r1000)) (won rfl) rfl rfl (fun wq hq => (x_call rfl rfl cl_87 (map_lit (map_cons (ev (t := 35) rfl rfl) (map_cons rfl (map_cons (ev (t := 39) rfl rfl) map_nil)))))) (fun wq hq => ((spec_l01In_ok (hR := (cat [])) (hF := cat [sg g576 28 (0, 0) [] [v0x0, v0x1] [], h912, hF]) (ix a0.Free s915) 0 (IntKind.wrap .i64 ((a0.Owner.length : Int) - 1))  (Mem.one hq) hr1000)).mono fun e w2 h => ⟨h.1, Mem.un h.2⟩) ?_
     refine q_val (v := (.bool (!r1000))) (won rfl) rfl rfl (fun wq hq => (x_not rfl (ev (t := 40) rfl rfl))) ?_
     refine q_val (v := (.bool (!r1000))) (won rfl) rfl rfl (fun wq hq => (x_move rfl (ev (t := 41) rfl rfl))) ?_
     refine q_cval (p := (!(!r1000))) (v := p592.1) (won_f (j := 11) (t := 42) (q := (!r1000)) rfl rfl rfl rfl rfl) rfl rfl (fun hp wq hq => (x_move rfl (ev (t := 3) (v := p592.1) rfl q914))) ?_
     refine q_cval (p := (!(!r1000))) (v := (.pointer (some ⟨g576, 0, none⟩))) (won_f (j := 11) (t := 42) (q := (!r1000)) rfl rfl rfl rfl rfl) rfl rfl (fun hp wq hq => (x_field rfl fa_28x0 (ev (t := 1) (v := (.pointer (some ⟨g576, 0, none⟩))) rfl q910))) ?_
     refine q_cval (p := (!(!r1000))) (v := v0x0) (won_f (j := 11) (t := 42) (q := (!r1000)) rfl rfl rfl rfl rfl) rfl rfl (fun hp wq hq => (x_load rfl ty1x26 (ev (t := 44) rfl (Eq.trans (b := cv (!(!r1000)) (.pointer (some ⟨g576, 0, none⟩))) rfl (on_c hp))) (seg_cell (o' := 0) (j := 0) hq (k := 0) rfl rfl rfl))) ?_
     refine q_cval (p := (!(!r1000))) (v := (.int .i64 s915)) (won_f (j := 11) (t := 42) (q := (!r1000)) rfl rfl rfl rfl rfl) rfl rfl (fun hp wq hq => (x_move rfl (ev (t := 4) (v := (.int .i64 s915)) rfl q916))) ?_
     refine q_cval (p := (!(!r1000))) (v := (.pointer (some ((slA v0x0).add (Int.toNat s915 * 1))))) (won_f (j := 11) (t := 42) (q := (!r1000)) rfl rfl rfl rfl rfl) rfl rfl (fun hp wq hq => (x_index (d := (FK.int .i64)) rfl slt_26 (ev (t := 45) rfl (Eq.trans (b := cv (!(!r1000)) v0x0) rfl (on_c hp))) (ev (t := 46) rfl (Eq.trans (b := cv (!(!r1000)) (.int .i64 s915)) rfl (on_c hp))) H0x0 (hg1001 hp).1 (hg1001 hp).2)) ?_
     refine q_cval (p := (!(!r1000))) (v := (.int .i64 (ix a0.Free s915))) (won_f (j := 11) (t := 42) (q := (!r1000)) rfl rfl rfl rfl rfl) rfl rfl (fun hp wq hq => (x_load rfl ty1x3 (ev (t := 47) rfl (Eq.trans (b := cv (!(!r1000)) (.pointer (some ((slA v0x0).add (Int.toNat s915 * 1))))) rfl (on_c hp))) (RdF.cell0 H0x0 hq (Sub.trans hs (Sub.at_ (k := 2) rfl)) (hg1001 hp).1 (hg1001 hp).2 rfl))) ?_
     refine q_cval (p := (!(!r1000))) (v := (.pointer (some ((slA p592.1).add (Int.toNat (ix a0.Free s915) * 1))))) (won_f (j := 11) (t := 42) (q := (!r1000)) rfl rfl rfl rfl rfl) rfl rfl (fun hp wq hq => (x_index (d := FK.bool) rfl slt_124 (ev (t := 43) rfl (Eq.trans (b := cv (!(!r1000)) p592.1) rfl (on_c hp))) (ev (t := 48) rfl (Eq.trans (b := cv (!(!r1000)) (.int .i64 (ix a0.Free s915))) rfl (on_c hp))) (H913.rd w0) (hg1002 hp).1 (hg1002 hp).2)) ?_
     refine q_cval (p := (!(!r1000))) (v := (.bool (ix s911 (ix a0.Free s915)))) (won_f (j := 11) (t := 42) (q := (!r1000)) rfl rfl rfl rfl rfl) rfl rfl (fun hp wq hq => (x_load rfl ty1x4 (ev (t := 49) rfl (Eq.trans (b := cv (!(!r1000)) (.pointer (some ((slA p592.1).add (Int.toNat (ix a0.Free s915) * 1))))) rfl (on_c hp))) (RdF.cell0 (H913.rd w0) hq (Sub.at_ (k := 1) rfl) (hg1002 hp).1 (hg1002 hp).2 rfl))) ?_
     refine q_val (v := (.bool ((!r1000) || (ix s911 (ix a0.Free s915))))) (won rfl) rfl rfl (fun wq hq => (x_pick_or rfl (ev (t := 42) rfl rfl) rfl (fun hq => ev rfl (Eq.trans (b := cv (!(!r1000)) (.bool (ix s911 (ix a0.Free s915)))) rfl (on_c (not_i hq)))))) ?_
     refine wpQuiet_nil ?_
     intro w1003 hm1004
     refine nx ?_
     rcases Bool.eq_false_or_eq_true (((!r1000) || (ix s911 (ix a0.Free s915)))) with hb1005 | hb1005
     ·
      replace he := bifT he hb1005
      refine c_true rfl (p := ((!r1000) || (ix s911 (ix a0.Free s915)))) rfl rfl hb1005 ?_
      refine wp_seq ?_
      refine wp_region_lit ?_
      refine s_val (v := (.bool false)) (won rfl) rfl rfl (x_assign rfl rfl) ?_
      refine wpList_nil ?_
      have hm1006 : Mem w0 w1003 (cat [hF]) := Mem.pick [2] rfl hm1004
      refine nx ?_
      refine wp_ret ?_
      refine xr ?_
      refine rb ?_
      refine xr ?_
      refine xr ?_
      refine rb ?_
      refine xr ?_
      obtain rfl := Option.some.inj he
      replace he := outE hk807
      obtain rfl := Option.some.inj he
      refine r_ret (v := (.bool false)) (rv_one rfl (RVs.tmp (v := (.bool false)) rfl rfl RVs.nil)) rfl ?_
      exact ⟨rfl, Mem.pick [0] rfl hm1006⟩
     ·
      replace he := bifF he hb1005
      refine c_false rfl (p := ((!r1000) || (ix s911 (ix a0.Free s915)))) rfl rfl hb1005 ?_
      refine wp_skip ?_
      refine nx ?_
      obtain ⟨hg1007, he⟩ := gdE he
      obtain ⟨hg1008, he⟩ := gdE he
      refine wp_region_lit ?_
      refine s_val (v := p592.1) (won rfl) rfl rfl (x_move rfl (ev (t := 3) (v := p592.1) rfl q914)) ?_
      refine s_val (v := (.pointer (some ⟨g576, 0, none⟩))) (won rfl) rfl rfl (x_field rfl fa_28x0 (ev (t := 1) (v := (.pointer (some ⟨g576, 0, none⟩))) rfl q910)) ?_
      refine s_val (v := v0x0) (won rfl) rfl rfl (x_load rfl ty1x26 (ev (t := 53) rfl rfl) (seg_cell (o' := 0) (j := 0) hm1004 (k := 0) rfl rfl rfl)) ?_
      refine s_val (v := (.int .i64 s915)) (won rfl) rfl rfl (x_move rfl (ev (t := 4) (v := (.int .i64 s915)) rfl q916)) ?_
      refine s_val (v := (.pointer (some ((slA v0x0).add (Int.toNat s915 * 1))))) (won rfl) rfl rfl (x_index (d := (FK.int .i64)) rfl slt_26 (ev (t := 54) rfl rfl) (ev (t := 55) rfl rfl) H0x0 hg1007.1 hg1007.2) ?_
      refine s_val (v := (.int .i64 (ix a0.Free s915))) (won rfl) rfl rfl (x_load rfl ty1x3 (ev (t := 56) rfl rfl) (RdF.cell0 H0x0 hm1004 (Sub.trans hs (Sub.at_ (k := 2) rfl)) hg1007.1 hg1007.2 rfl)) ?_
      refine s_val (v := (.pointer (some ((slA p592.1).add (Int.toNat (ix a0.Free s915) * 1))))) (won rfl) rfl rfl (x_index (d := FK.bool) rfl slt_124 (ev (t := 52) rfl rfl) (ev (t := 57) rfl rfl) (H913.rd w0) hg1008.1 hg1008.2) ?_
      refine s_exw (won rfl) rfl (e_storeF (d := FK.bool) (s := true) (vs := [(.bool true)]) (j := 0) rfl sz_4 (ev (t := 58) rfl rfl) (add_0 _).symm rfl rfl rfl H913 hg1008.1 hg1008.2 rfl rfl hm1004 (k := 1) rfl) ?_
      rintro h1009 w1011 ⟨H1010, hm1012⟩
      replace hm1012 : Mem w0 w1011 (cat [sg g576 28 (0, 0) [] [v0x0, v0x1] [], h1009, hF]) := hm1012
      refine wpList_nil ?_
      refine nb ?_
      refine nx ?_
      refine wp_region_lit ?_
      refine s_val (v := (.int .i64 s915)) (won rfl) rfl rfl (x_move rfl (ev (t := 4) (v := (.int .i64 s915)) rfl q916)) ?_
      refine s_val (v := (.int .i64 (IntKind.wrap .i64 (s915 + 1)))) (won rfl) rfl rfl (x_add rfl (ev (t := 29) rfl rfl) rfl) ?_
      refine s_val (v := (.int .i64 (IntKind.wrap .i64 (s915 + 1)))) (won rfl) rfl rfl (x_assign rfl (ev (t := 30) rfl rfl)) ?_
      refine wpList_nil ?_
      refine nx ?_
      exact ⟨(List.set s911 (Int.toNat (ix a0.Free s915)) true), (IntKind.wrap .i64 (s915 + 1)), h1009, _, he, rfl, q910, q914, rfl, H1010, Mem.pick [0, 1, 2] rfl hm1012⟩
    ·
     replace he := bifF he hb968
     refine c_false rfl (p := (decide (s915 < (a0.Free.length : Int)))) rfl rfl hb968 ?_
     refine wp_exit ?_
     refine xs ?_
     refine xs ?_
     refine xb ?_
     refine nx ?_
     obtain rfl := Option.some.inj he
     exact ⟨s911, h912, _, rfl, rfl, q910, q914, H913, Mem.pick [0, 1, 2] rfl hm966⟩
  ·
   rintro a w ⟨s805, h802, f, rfl, rfl, q800, q804, H803, hm1014⟩
   replace he := goE hk807
   obtain ⟨l1081, hT1083, hk1082⟩ := bindE he
   replace he := hT1083
   refine wp_seqJ (fun a w => ∃ (s1080 : (Unit)) (f : Nat → Value), l1081 = Fl.go s1080 ∧ a = fr 86 f ∧ Mem w0 w (cat [hF])) ?_ ?_
   ·
    refine wp_seq ?_
    refine wp_region_lit ?_
    refine s_val (v := (.int .i64 0)) (won rfl) rfl rfl (x_assign rfl rfl) ?_
    refine wpList_nil ?_
    refine nx ?_
    refine wp_block ?_
    refine wp_fuel (I := fun k => fun a w => ∃ (s1107 : Int) (f : Nat → Value), spec_PoolOK_l2 F a0 s805 k s1107 = some l1081 ∧ a = fr 86 f ∧ f 1 = (.pointer (some ⟨g576, 0, none⟩)) ∧ f 3 = p592.1 ∧ f 5 = (.int .i64 s1107) ∧ Mem w0 w (cat [sg g576 28 (0, 0) [] [v0x0, v0x1] [], h802, hF])) F _ _ ⟨0, _, he, rfl, q800, q804, rfl, Mem.pick [0, 1, 2] rfl hm1014⟩ ?_ ?_
    ·
     rintro a w ⟨s1107, f, he, rfl, q1105, q1106, q1108, hm1128⟩
     rw [spec_PoolOK_l2] at he; exact none_no he
    ·
     rintro k a w ⟨s1107, f, he, rfl, q1105, q1106, q1108, hm1130⟩
     rw [spec_PoolOK_l2] at he
     refine wp_seq ?_
     refine wp_seq ?_
     refine wp_region_lit ?_
     refine s_val (v := (.int .i64 s1107)) (won rfl) rfl rfl (x_move rfl (ev (t := 5) (v := (.int .i64 s1107)) rfl q1108)) ?_
     refine s_val (v := (.pointer (some ⟨g576, 1, none⟩))) (won rfl) rfl rfl (x_field rfl fa_28x1 (ev (t := 1) (v := (.pointer (some ⟨g576, 0, none⟩))) rfl q1105)) ?_
     refine s_val (v := v0x1) (won rfl) rfl rfl (x_load rfl ty1x26 (ev (t := 60) rfl rfl) (seg_cell (o' := 0) (j := 1) hm1130 (k := 0) rfl rfl rfl)) ?_
     refine s_val (v := (.int .i64 (a0.Owner.length : Int))) (won rfl) rfl rfl (x_len rfl slt_26 (ev (t := 61) rfl rfl) (H0x1).sl) ?_
     refine s_val (v := (.bool (decide (s1107 < (a0.Owner.length : Int))))) (won rfl) rfl rfl (x_lss rfl (ev (t := 59) rfl rfl) (ev (t := 62) rfl rfl)) ?_
     refine wpList_nil ?_
     refine nx ?_
     rcases Bool.eq_false_or_eq_true ((decide (s1107 < (a0.Owner.length : Int)))) with hb1132 | hb1132
     ·
      replace he := bifT he hb1132
      refine c_true rfl (p := (decide (s1107 < (a0.Owner.length : Int)))) rfl rfl hb1132 ?_
      refine wp_skip ?_
      refine nx ?_
      refine wp_seq ?_
      refine wp_block ?_
      refine wp_seq ?_
      obtain ⟨hg1141, he⟩ := gdE he
      obtain ⟨r1142, hr1142, he⟩ := bindE he
      obtain ⟨hg1143, he⟩ := gdE he
      obtain ⟨hg1144, he⟩ := gdE he
      refine wp_qregion (cat [sg g576 28 (0, 0) [] [v0x0, v0x1] [], h802, hF]) mixed (by kernel_rfl) hm1130 ?_
      refine q_val (v := (.pointer (some ⟨g576, 1, none⟩))) (won rfl) rfl rfl (fun wq hq => (x_field rfl fa_28x1 (ev (t := 1) (v := (.pointer (some ⟨g576, 0, none⟩))) rfl q1105))) ?_
      refine q_val (v := v0x1) (won rfl) rfl rfl (fun wq hq => (x_load rfl ty1x26 (ev (t := 66) rfl rfl) (seg_cell (o' := 0) (j := 1) hq (k := 0) rfl rfl rfl))) ?_
      refine q_val (v := (.int .i64 s1107)) (won rfl) rfl rfl (fun wq hq => (x_move rfl (ev (t := 5) (v := (.int .i64 s1107)) rfl q1108))) ?_
      refine q_val (v := (.pointer (some ((slA v0x1).add (Int.toNat s1107 * 1))))) (won rfl) rfl rfl (fun wq hq => (x_index (d := (FK.int .i64)) rfl slt_26 (ev (t := 67) rfl rfl) (ev (t := 68) rfl rfl) H0x1 hg1141.1 hg1141.2)) ?_
      refine q_val (v := (.int .i64 (ix a0.Owner s1107))) (won rfl) rfl rfl (fun wq hq => (x_load rfl ty1x3 (ev (t := 69) rfl rfl) (RdF.cell0 H0x1 hq (Sub.trans hs (Sub.at_ (k := 2) rfl)) hg1141.1 hg1141.2 rfl))) ?_
      refine q_call (v := (.bool r1142)) (won rfl) rfl rfl (fun wq hq => (x_call rfl rfl cl_87 (map_lit (map_cons (ev (t := 70) rfl rfl) (map_cons rfl (map_cons rfl map_nil)))))) (fun wq hq => ((spec_l01In_ok (hR := (cat [])) (hF := cat [sg g576 28 (0, 0) [] [v0x0, v0x1] [], h802, hF]) (ix a0.Owner s1107) (-1) 5  (Mem.one hq) hr1142)).mono fun e w2 h => ⟨h.1, Mem.un h.2⟩) ?_
      refine q_val (v := (.bool (!r1142))) (won rfl) rfl rfl (fun wq hq => (x_not rfl (ev (t := 71) rfl rfl))) ?_
      refine q_val (v := (.bool (!r1142))) (won rfl) rfl rfl (fun wq hq => (x_move rfl (ev (t := 72) rfl rfl))) ?_
      refine q_cval (p := (!(!r1142))) (v := p592.1) (won_f (j := 7) (t := 73) (q := (!r1142)) rfl rfl rfl rfl rfl) rfl rfl (fun hp wq hq => (x_move rfl (ev (t := 3) (v := p592.1) rfl q1106))) ?_
      refine q_cval (p := (!(!r1142))) (v := (.int .i64 s1107)) (won_f (j := 7) (t := 73) (q := (!r1142)) rfl rfl rfl rfl rfl) rfl rfl (fun hp wq hq => (x_move rfl (ev (t := 5) (v := (.int .i64 s1107)) rfl q1108))) ?_
      refine q_cval (p := (!(!r1142))) (v := (.pointer (some ((slA p592.1).add (Int.toNat s1107 * 1))))) (won_f (j := 7) (t := 73) (q := (!r1142)) rfl rfl rfl rfl rfl) rfl rfl (fun hp wq hq => (x_index (d := FK.bool) rfl slt_124 (ev (t := 74) rfl (Eq.trans (b := cv (!(!r1142)) p592.1) rfl (on_c hp))) (ev (t := 75) rfl (Eq.trans (b := cv (!(!r1142)) (.int .i64 s1107)) rfl (on_c hp))) (H803.rd w0) (hg1143 hp).1 (hg1143 hp).2)) ?_
      refine q_cval (p := (!(!r1142))) (v := (.bool (ix s805 s1107))) (won_f (j := 7) (t := 73) (q := (!r1142)) rfl rfl rfl rfl rfl) rfl rfl (fun hp wq hq => (x_load rfl ty1x4 (ev (t := 76) rfl (Eq.trans (b := cv (!(!r1142)) (.pointer (some ((slA p592.1).add (Int.toNat s1107 * 1))))) rfl (on_c hp))) (RdF.cell0 (H803.rd w0) hq (Sub.at_ (k := 1) rfl) (hg1143 hp).1 (hg1143 hp).2 rfl))) ?_
      refine q_cval (p := (!(!r1142))) (v := (.pointer (some ⟨g576, 1, none⟩))) (won_f (j := 7) (t := 73) (q := (!r1142)) rfl rfl rfl rfl rfl) rfl rfl (fun hp wq hq => (x_field rfl fa_28x1 (ev (t := 1) (v := (.pointer (some ⟨g576, 0, none⟩))) rfl q1105))) ?_
      refine q_cval (p := (!(!r1142))) (v := v0x1) (won_f (j := 7) (t := 73) (q := (!r1142)) rfl rfl rfl rfl rfl) rfl rfl (fun hp wq hq => (x_load rfl ty1x26 (ev (t := 78) rfl (Eq.trans (b := cv (!(!r1142)) (.pointer (some ⟨g576, 1, none⟩))) rfl (on_c hp))) (seg_cell (o' := 0) (j := 1) hq (k := 0) rfl rfl rfl))) ?_
      refine q_cval (p := (!(!r1142))) (v := (.int .i64 s1107)) (won_f (j := 7) (t := 73) (q := (!r1142)) rfl rfl rfl rfl rfl) rfl rfl (fun hp wq hq => (x_move rfl (ev (t := 5) (v := (.int .i64 s1107)) rfl q1108))) ?_
      refine q_cval (p := (!(!r1142))) (v := (.pointer (some ((slA v0x1).add (Int.toNat s1107 * 1))))) (won_f (j := 7) (t := 73) (q := (!r1142)) rfl rfl rfl rfl rfl) rfl rfl (fun hp wq hq => (x_index (d := (FK.int .i64)) rfl slt_26 (ev (t := 79) rfl (Eq.trans (b := cv (!(!r1142)) v0x1) rfl (on_c hp))) (ev (t := 80) rfl (Eq.trans (b := cv (!(!r1142)) (.int .i64 s1107)) rfl (on_c hp))) H0x1 (hg1144 hp).1 (hg1144 hp).2)) ?_
      refine q_cval (p := (!(!r1142))) (v := (.int .i64 (ix a0.Owner s1107))) (won_f (j := 7) (t := 73) (q := (!r1142)) rfl rfl rfl rfl rfl) rfl rfl (fun hp wq hq => (x_load rfl ty1x3 (ev (t := 81) rfl (Eq.trans (b := cv (!(!r1142)) (.pointer (some ((slA v0x1).add (Int.toNat s1107 * 1))))) rfl (on_c hp))) (RdF.cell0 H0x1 hq (Sub.trans hs (Sub.at_ (k := 2) rfl)) (hg1144 hp).1 (hg1144 hp).2 rfl))) ?_
      refine q_cval (p := (!(!r1142))) (v := (.bool (decide ((ix a0.Owner s1107) < 0)))) (won_f (j := 7) (t := 73) (q := (!r1142)) rfl rfl rfl rfl rfl) rfl rfl (fun hp wq hq => (x_lss rfl (ev (t := 82) rfl (Eq.trans (b := cv (!(!r1142)) (.int .i64 (ix a0.Owner s1107))) rfl (on_c hp))) rfl)) ?_
      refine q_cval (p := (!(!r1142))) (v := (.bool (!((ix s805 s1107) == (decide ((ix a0.Owner s1107) < 0)))))) (won_f (j := 7) (t := 73) (q := (!r1142)) rfl rfl rfl rfl rfl) rfl rfl (fun hp wq hq => (x_bneq rfl un_4 (ev (t := 77) rfl (Eq.trans (b := cv (!(!r1142)) (.bool (ix s805 s1107))) rfl (on_c hp))) (ev (t := 83) rfl (Eq.trans (b := cv (!(!r1142)) (.bool (decide ((ix a0.Owner s1107) < 0)))) rfl (on_c hp))))) ?_
      refine q_val (v := (.bool ((!r1142) || (!((ix s805 s1107) == (decide ((ix a0.Owner s1107) < 0))))))) (won rfl) rfl rfl (fun wq hq => (x_pick_or rfl (ev (t := 73) rfl rfl) rfl (fun hq => ev rfl (Eq.trans (b := cv (!(!r1142)) (.bool (!((ix s805 s1107) == (decide ((ix a0.Owner s1107) < 0)))))) rfl (on_c (not_i hq)))))) ?_
      refine wpQuiet_nil ?_
      intro w1145 hm1146
      refine nx ?_
      rcases Bool.eq_false_or_eq_true (((!r1142) || (!((ix s805 s1107) == (decide ((ix a0.Owner s1107) < 0)))))) with hb1147 | hb1147
      ·
       replace he := bifT he hb1147
       refine c_true rfl (p := ((!r1142) || (!((ix s805 s1107) == (decide ((ix a0.Owner s1107) < 0)))))) rfl rfl hb1147 ?_
       refine wp_seq ?_
       refine wp_region_lit ?_
       refine s_val (v := (.bool false)) (won rfl) rfl rfl (x_assign rfl rfl) ?_
       refine wpList_nil ?_
       have hm1148 : Mem w0 w1145 (cat [hF]) := Mem.pick [2] rfl hm1146
       refine nx ?_
       refine wp_ret ?_
       refine rb ?_
       refine xr ?_
       refine xr ?_
       refine rb ?_
       refine xr ?_
       obtain rfl := Option.some.inj he
       replace he := outE hk1082
       obtain rfl := Option.some.inj he
       refine r_ret (v := (.bool false)) (rv_one rfl (RVs.tmp (v := (.bool false)) rfl rfl RVs.nil)) rfl ?_
       exact ⟨rfl, Mem.pick [0] rfl hm1148⟩
      ·
       replace he := bifF he hb1147
       refine c_false rfl (p := ((!r1142) || (!((ix s805 s1107) == (decide ((ix a0.Owner s1107) < 0)))))) rfl rfl hb1147 ?_
       refine wp_skip ?_
       refine nb ?_
       refine nx ?_
       refine wp_region_lit ?_
       refine s_val (v := (.int .i64 s1107)) (won rfl) rfl rfl (x_move rfl (ev (t := 5) (v := (.int .i64 s1107)) rfl q1108)) ?_
       refine s_val (v := (.int .i64 (IntKind.wrap .i64 (s1107 + 1)))) (won rfl) rfl rfl (x_add rfl (ev (t := 64) rfl rfl) rfl) ?_
       refine s_val (v := (.int .i64 (IntKind.wrap .i64 (s1107 + 1)))) (won rfl) rfl rfl (x_assign rfl (ev (t := 65) rfl rfl)) ?_
       refine wpList_nil ?_
       refine nx ?_
       exact ⟨(IntKind.wrap .i64 (s1107 + 1)), _, he, rfl, q1105, q1106, rfl, Mem.pick [0, 1, 2] rfl hm1146⟩
     ·
      replace he := bifF he hb1132
      refine c_false rfl (p := (decide (s1107 < (a0.Owner.length : Int)))) rfl rfl hb1132 ?_
      refine wp_exit ?_
      refine xs ?_
      refine xs ?_
      refine xb ?_
      refine nx ?_
      obtain rfl := Option.some.inj he
      exact ⟨(), _, rfl, rfl, Mem.pick [2] rfl hm1130⟩
   ·
    rintro a w ⟨s1080, f, rfl, rfl, hm1150⟩
    replace he := goE hk1082
    refine wp_seq ?_
    refine wp_region_lit ?_
    refine s_val (v := (.bool true)) (won rfl) rfl rfl (x_assign rfl rfl) ?_
    refine wpList_nil ?_
    refine nx ?_
    refine wp_ret ?_
    obtain rfl := Option.some.inj he
    refine r_ret (v := (.bool true)) (rv_one rfl (RVs.tmp (v := (.bool true)) rfl rfl RVs.nil)) rfl ?_
    exact ⟨rfl, Mem.pick [0] rfl hm1150⟩
def spec_l12Own (a0 : impl_Pool) : Option (impl_Pool) := gd ((([] : List Int).length + a0.Free.length) * 8 ≤ 140737488355328) (gd ((([] : List Int).length + a0.Owner.length) * 8 ≤ 140737488355328) ((some (impl_Pool.mk (([] : List Int) ++ a0.Free) (([] : List Int) ++ a0.Owner)))))
set_option maxHeartbeats 400000 in
set_option maxRecDepth 100000 in
theorem spec_l12Own_ok {w0 w : World} {hR hF : Hp} {v0x0 : Value} {v0x1 : Value} (a0 : impl_Pool) {r : (impl_Pool)} (H0x0 : RdF w0 (FK.int .i64) v0x0 a0.Free hR) (H0x1 : RdF w0 (FK.int .i64) v0x1 a0.Owner hR) (hs : Sub hR hF) (hm : Mem w0 w (cat [hF])) (he : spec_l12Own a0 = some r) :
    Calls Try.prog 62 #[(.agg #[v0x0, v0x1])] w (fun e w' => ∃ (v'0 : Value) (h'0 : Hp) (v'1 : Value) (h'1 : Hp), e = .returned (.agg #[v'0, v'1]) ∧ OwF 3 (FK.int .i64) v'0 r.Free h'0 ∧ OwF 3 (FK.int .i64) v'1 r.Owner h'1 ∧ Mem w0 w' (cat [h'0, h'1, hF])) := by
 refine calls_fr (n := 12) Try.func62 rfl rfl rfl ?_
 unfold spec_l12Own at he
 refine wp_seq ?_
 refine wp_region_lit ?_
 refine s_exv (won rfl) rfl rfl (e_box (vs := [v0x0, v0x1]) rfl (ev (t := 0) rfl rfl) rfl hm) ?_
 rintro g2042 w2043 hm2044
 refine s_exv (won rfl) rfl rfl (e_alloc (vs := [(.slice none 0 0), (.slice none 0 0)]) rfl zt_28 rfl hm2044) ?_
 rintro g2048 w2049 hm2050
 refine wpList_nil ?_
 refine nx ?_
 refine wp_seq ?_
 obtain ⟨hg3301, he⟩ := gdE he
 obtain ⟨hg3701, he⟩ := gdE he
 refine wp_drawF (I := fun f b a w => ∃ (vs : Nat → Value) (g3003 : Nat) (p3303 : Value × Hp) (g3403 : Nat) (p3703 : Value × Hp), a = fr 12 (sel b [(0, 3), (1, 4), (2, 5), (3, 6), (4, 7), (5, 8), (6, 9), (7, 10), (8, 11)] vs f) ∧ (b 0 = true → vs 0 = (.slice (some ⟨g3003, 0, none⟩) 0 0)) ∧ (b 1 = true → vs 1 = (.pointer (some ⟨g2042, 0, none⟩))) ∧ (b 2 = true → vs 2 = v0x0) ∧ (b 3 = true → vs 3 = p3303.1) ∧ (b 4 = true → vs 4 = (.slice (some ⟨g3403, 0, none⟩) 0 0)) ∧ (b 5 = true → vs 5 = (.pointer (some ⟨g2042, 1, none⟩))) ∧ (b 6 = true → vs 6 = v0x1) ∧ (b 7 = true → vs 7 = p3703.1) ∧ (b 8 = true → vs 8 = (.agg #[p3303.1, p3703.1])) ∧ (b 0 = true → OwF 3 (FK.int .i64) (.slice (some ⟨g3003, 0, none⟩) 0 0) ([] : List Int) (sg g3003 3 (0, 0) [] (encs (FK.int .i64) ([] : List Int)) [])) ∧ (b 3 = true → OwF 3 (FK.int .i64) p3303.1 (([] : List Int) ++ a0.Free) p3303.2) ∧ (b 4 = true → OwF 3 (FK.int .i64) (.slice (some ⟨g3403, 0, none⟩) 0 0) ([] : List Int) (sg g3403 3 (0, 0) [] (encs (FK.int .i64) ([] : List Int)) [])) ∧ (b 7 = true → OwF 3 (FK.int .i64) p3703.1 (([] : List Int) ++ a0.Owner) p3703.2) ∧ Mem w0 w (cat [(bif b 9 then sg g2048 28 (0, 0) [] [p3303.1, p3703.1] [] else sg g2048 28 (0, 0) [] [(.slice none 0 0), (.slice none 0 0)] []), sg g2042 28 (0, 0) [] [v0x0, v0x1] [], hF, (bif b 3 then [] else (bif b 0 then (sg g3003 3 (0, 0) [] (encs (FK.int .i64) ([] : List Int)) []) else [])), (bif b 3 then p3303.2 else []), (bif b 7 then [] else (bif b 4 then (sg g3403 3 (0, 0) [] (encs (FK.int .i64) ([] : List Int)) []) else [])), (bif b 7 then p3703.2 else [])])) mixed (by kernel_rfl) ⟨fun _ => undef, 0, (undef, []), 0, (undef, []), (by rw [sel_false]), fun h => fno h, fun h => fno h, fun h => fno h, fun h => fno h, fun h => fno h, fun h => fno h, fun h => fno h, fun h => fno h, fun h => fno h, fun h => fno h, fun h => fno h, fun h => fno h, fun h => fno h, Mem.drew (Mem.pick [0, 1, 2, 1000, 1001, 1002, 1003] rfl hm2050)⟩ (steps_cons (i := 0) ?_ (steps_cons (i := 1) ?_ (steps_cons (i := 2) ?_ (steps_cons (i := 3) ?_ (steps_cons (i := 4) ?_ (steps_cons (i := 5) ?_ (steps_cons (i := 6) ?_ (steps_cons (i := 7) ?_ (steps_cons (i := 8) ?_ (steps_cons (i := 9) ?_ steps_nil)))))))))) ?_
 ·
  intro b a w hI hbi hn hc K hK
  obtain ⟨vs, g3003, p3303, g3403, p3703, ha, y0, y1, y2, y3, y4, y5, y6, y7, y8, H3004, H3304, H3404, H3704, hm⟩ := hI
  subst ha
  have b3 : b 3 = false := later (j := 3) hc rfl (i := 0) (da rfl) hbi
  have b7 : b 7 = false := later (j := 7) hc rfl (i := 3) (da rfl) b3
  have b8 : b 8 = false := later (j := 8) hc rfl (i := 3) (da rfl) b3
  have b9 : b 9 = false := later (j := 9) hc rfl (i := 0) (da rfl) hbi
  have hm4001 : Mem w0 w (cat [sg g2048 28 (0, 0) [] [(.slice none 0 0), (.slice none 0 0)] [], sg g2042 28 (0, 0) [] [v0x0, v0x1] [], hF, (bif b 4 then (sg g3403 3 (0, 0) [] (encs (FK.int .i64) ([] : List Int)) []) else [])]) := Mem.pick [0, 1, 2, 5] rfl (Mem.cg (B := [sg g2048 28 (0, 0) [] [(.slice none 0 0), (.slice none 0 0)] [], sg g2042 28 (0, 0) [] [v0x0, v0x1] [], hF, [], [], (bif b 4 then (sg g3403 3 (0, 0) [] (encs (FK.int .i64) ([] : List Int)) []) else []), []]) (cat_cons (off_ b9 rfl) (cat_cons rfl (cat_cons rfl (cat_cons (off_ b3 (off_ hbi rfl)) (cat_cons (off_ b3 rfl) (cat_cons (off_ b7 rfl) (cat_cons (off_ b7 rfl) rfl))))))) hm)
  refine e_exv (i := 0) hbi rfl rfl (won rfl) rfl rfl (e_litp (cells := []) (ps := []) rfl slt_26 (pmap_lit pmap_nil) (fun w1 => run_bslice0 slt_26) hm4001) ?_
  rintro g3003 w3001 hm3002
  have H3004 : OwF 3 (FK.int .i64) (.slice (some ⟨g3003, 0, none⟩) 0 0) ([] : List Int) (sg g3003 3 (0, 0) [] (encs (FK.int .i64) ([] : List Int)) []) := OwF.lit g3003 ([] : List Int) 0 rfl (by decide)
  replace hm3002 : Mem w0 w3001 (cat [(sg g3003 3 (0, 0) [] (encs (FK.int .i64) ([] : List Int)) []), sg g2048 28 (0, 0) [] [(.slice none 0 0), (.slice none 0 0)] [], sg g2042 28 (0, 0) [] [v0x0, v0x1] [], hF, (bif b 4 then (sg g3403 3 (0, 0) [] (encs (FK.int .i64) ([] : List Int)) []) else [])]) := hm3002
  exact hK _ _ ⟨_, g3003, p3303, g3403, p3703, rfl, fun _ => rfl, y1, y2, y3, y4, y5, y6, y7, y8, fun _ => H3004, H3304, H3404, H3704, Mem.gc (A := [sg g2048 28 (0, 0) [] [(.slice none 0 0), (.slice none 0 0)] [], sg g2042 28 (0, 0) [] [v0x0, v0x1] [], hF, (sg g3003 3 (0, 0) [] (encs (FK.int .i64) ([] : List Int)) []), [], (bif b 4 then (sg g3403 3 (0, 0) [] (encs (FK.int .i64) ([] : List Int)) []) else []), []]) (cat_cons (off_ b9 rfl) (cat_cons rfl (cat_cons rfl (cat_cons (off_ b3 (on_ rfl rfl)) (cat_cons (off_ b3 rfl) (cat_cons (off_ b7 rfl) (cat_cons (off_ b7 rfl) rfl))))))) (Mem.pick [1, 2, 3, 0, 1004, 4, 1006] rfl hm3002)⟩
 ·
  intro b a w hI hbi hn hc K hK
  obtain ⟨vs, g3003, p3303, g3403, p3703, ha, y0, y1, y2, y3, y4, y5, y6, y7, y8, H3004, H3304, H3404, H3704, hm⟩ := hI
  subst ha
  have b2 : b 2 = false := later (j := 2) hc rfl (i := 1) (da rfl) hbi
  have b3 : b 3 = false := later (j := 3) hc rfl (i := 2) (da rfl) b2
  have b7 : b 7 = false := later (j := 7) hc rfl (i := 3) (da rfl) b3
  have b8 : b 8 = false := later (j := 8) hc rfl (i := 3) (da rfl) b3
  have b9 : b 9 = false := later (j := 9) hc rfl (i := 1) (da rfl) hbi
  have hm4004 : Mem w0 w (cat [sg g2048 28 (0, 0) [] [(.slice none 0 0), (.slice none 0 0)] [], sg g2042 28 (0, 0) [] [v0x0, v0x1] [], hF, (bif b 0 then (sg g3003 3 (0, 0) [] (encs (FK.int .i64) ([] : List Int)) []) else []), (bif b 4 then (sg g3403 3 (0, 0) [] (encs (FK.int .i64) ([] : List Int)) []) else [])]) := Mem.pick [0, 1, 2, 3, 5] rfl (Mem.cg (B := [sg g2048 28 (0, 0) [] [(.slice none 0 0), (.slice none 0 0)] [], sg g2042 28 (0, 0) [] [v0x0, v0x1] [], hF, (bif b 0 then (sg g3003 3 (0, 0) [] (encs (FK.int .i64) ([] : List Int)) []) else []), [], (bif b 4 then (sg g3403 3 (0, 0) [] (encs (FK.int .i64) ([] : List Int)) []) else []), []]) (cat_cons (off_ b9 rfl) (cat_cons rfl (cat_cons rfl (cat_cons (off_ b3 rfl) (cat_cons (off_ b3 rfl) (cat_cons (off_ b7 rfl) (cat_cons (off_ b7 rfl) rfl))))))) hm)
  refine e_val (i := 1) hbi rfl rfl (v := (.pointer (some ⟨g2042, 0, none⟩))) (won rfl) rfl rfl (x_field rfl fa_28x0 (ev (t := 1) (v := (.pointer (some ⟨g2042, 0, none⟩))) rfl ((sel_no rfl).trans rfl))) ?_
  exact hK _ _ ⟨_, g3003, p3303, g3403, p3703, rfl, y0, fun _ => rfl, y2, y3, y4, y5, y6, y7, y8, H3004, H3304, H3404, H3704, Mem.gc (A := [sg g2048 28 (0, 0) [] [(.slice none 0 0), (.slice none 0 0)] [], sg g2042 28 (0, 0) [] [v0x0, v0x1] [], hF, (bif b 0 then (sg g3003 3 (0, 0) [] (encs (FK.int .i64) ([] : List Int)) []) else []), [], (bif b 4 then (sg g3403 3 (0, 0) [] (encs (FK.int .i64) ([] : List Int)) []) else []), []]) (cat_cons (off_ b9 rfl) (cat_cons rfl (cat_cons rfl (cat_cons (off_ b3 rfl) (cat_cons (off_ b3 rfl) (cat_cons (off_ b7 rfl) (cat_cons (off_ b7 rfl) rfl))))))) (Mem.pick [0, 1, 2, 3, 1004, 4, 1006] rfl hm4004)⟩
 ·
  intro b a w hI hbi hn hc K hK
  obtain ⟨vs, g3003, p3303, g3403, p3703, ha, y0, y1, y2, y3, y4, y5, y6, y7, y8, H3004, H3304, H3404, H3704, hm⟩ := hI
  subst ha
  have b1 : b 1 = true := hn 1 (da rfl)
  have b3 : b 3 = false := later (j := 3) hc rfl (i := 2) (da rfl) hbi
  have b7 : b 7 = false := later (j := 7) hc rfl (i := 3) (da rfl) b3
  have b8 : b 8 = false := later (j := 8) hc rfl (i := 3) (da rfl) b3
  have b9 : b 9 = false := later (j := 9) hc rfl (i := 2) (da rfl) hbi
  have hm4007 : Mem w0 w (cat [sg g2048 28 (0, 0) [] [(.slice none 0 0), (.slice none 0 0)] [], sg g2042 28 (0, 0) [] [v0x0, v0x1] [], hF, (bif b 0 then (sg g3003 3 (0, 0) [] (encs (FK.int .i64) ([] : List Int)) []) else []), (bif b 4 then (sg g3403 3 (0, 0) [] (encs (FK.int .i64) ([] : List Int)) []) else [])]) := Mem.pick [0, 1, 2, 3, 5] rfl (Mem.cg (B := [sg g2048 28 (0, 0) [] [(.slice none 0 0), (.slice none 0 0)] [], sg g2042 28 (0, 0) [] [v0x0, v0x1] [], hF, (bif b 0 then (sg g3003 3 (0, 0) [] (encs (FK.int .i64) ([] : List Int)) []) else []), [], (bif b 4 then (sg g3403 3 (0, 0) [] (encs (FK.int .i64) ([] : List Int)) []) else []), []]) (cat_cons (off_ b9 rfl) (cat_cons rfl (cat_cons rfl (cat_cons (off_ b3 rfl) (cat_cons (off_ b3 rfl) (cat_cons (off_ b7 rfl) (cat_cons (off_ b7 rfl) rfl))))))) hm)
  refine e_val (i := 2) hbi rfl rfl (v := v0x0) (won rfl) rfl rfl (x_load rfl ty1x26 (ev (t := 4) (v := (.pointer (some ⟨g2042, 0, none⟩))) rfl ((sel_on (p := (1, 4)) rfl b1).trans (y1 b1))) (seg_cell (o' := 0) (j := 0) hm4007 (k := 1) rfl rfl rfl)) ?_
  exact hK _ _ ⟨_, g3003, p3303, g3403, p3703, rfl, y0, y1, fun _ => rfl, y3, y4, y5, y6, y7, y8, H3004, H3304, H3404, H3704, Mem.gc (A := [sg g2048 28 (0, 0) [] [(.slice none 0 0), (.slice none 0 0)] [], sg g2042 28 (0, 0) [] [v0x0, v0x1] [], hF, (bif b 0 then (sg g3003 3 (0, 0) [] (encs (FK.int .i64) ([] : List Int)) []) else []), [], (bif b 4 then (sg g3403 3 (0, 0) [] (encs (FK.int .i64) ([] : List Int)) []) else []), []]) (cat_cons (off_ b9 rfl) (cat_cons rfl (cat_cons rfl (cat_cons (off_ b3 rfl) (cat_cons (off_ b3 rfl) (cat_cons (off_ b7 rfl) (cat_cons (off_ b7 rfl) rfl))))))) (Mem.pick [0, 1, 2, 3, 1004, 4, 1006] rfl hm4007)⟩
 ·
  intro b a w hI hbi hn hc K hK
  obtain ⟨vs, g3003, p3303, g3403, p3703, ha, y0, y1, y2, y3, y4, y5, y6, y7, y8, H3004, H3304, H3404, H3704, hm⟩ := hI
  subst ha
  have b0 : b 0 = true := hn 0 (da rfl)
  have b2 : b 2 = true := hn 2 (da rfl)
  have b1 : b 1 = true := hc 2 _ rfl b2 1 (da rfl)
  have b7 : b 7 = false := later (j := 7) hc rfl (i := 3) (da rfl) hbi
  have b8 : b 8 = false := later (j := 8) hc rfl (i := 3) (da rfl) hbi
  have b9 : b 9 = false := later (j := 9) hc rfl (i := 3) (da rfl) hbi
  have H3004 := H3004 b0
  have hm4010 : Mem w0 w (cat [sg g2048 28 (0, 0) [] [(.slice none 0 0), (.slice none 0 0)] [], sg g2042 28 (0, 0) [] [v0x0, v0x1] [], hF, (sg g3003 3 (0, 0) [] (encs (FK.int .i64) ([] : List Int)) []), (bif b 4 then (sg g3403 3 (0, 0) [] (encs (FK.int .i64) ([] : List Int)) []) else [])]) := Mem.pick [0, 1, 2, 3, 5] rfl (Mem.cg (B := [sg g2048 28 (0, 0) [] [(.slice none 0 0), (.slice none 0 0)] [], sg g2042 28 (0, 0) [] [v0x0, v0x1] [], hF, (sg g3003 3 (0, 0) [] (encs (FK.int .i64) ([] : List Int)) []), [], (bif b 4 then (sg g3403 3 (0, 0) [] (encs (FK.int .i64) ([] : List Int)) []) else []), []]) (cat_cons (off_ b9 rfl) (cat_cons rfl (cat_cons rfl (cat_cons (off_ hbi (on_ b0 rfl)) (cat_cons (off_ hbi rfl) (cat_cons (off_ b7 rfl) (cat_cons (off_ b7 rfl) rfl))))))) hm)
  refine e_exv (i := 3) hbi rfl rfl (won rfl) rfl rfl (e_append (bytes := 8) rfl slt_26 rfl (ev (t := 3) (v := (.slice (some ⟨g3003, 0, none⟩) 0 0)) rfl ((sel_on (p := (0, 3)) rfl b0).trans (y0 b0))) (ev (t := 5) (v := v0x0) rfl ((sel_on (p := (2, 5)) rfl b2).trans (y2 b2))) H3004 (k := 3) rfl H0x0 (Sub.trans hs (Sub.at_ (k := 2) rfl)) hm4010 hg3301 (len63 hg3301 rfl)) ?_
  rintro p3303 w3305 ⟨H3304, hm3306⟩
  replace hm3306 : Mem w0 w3305 (cat [sg g2048 28 (0, 0) [] [(.slice none 0 0), (.slice none 0 0)] [], sg g2042 28 (0, 0) [] [v0x0, v0x1] [], hF, p3303.2, (bif b 4 then (sg g3403 3 (0, 0) [] (encs (FK.int .i64) ([] : List Int)) []) else [])]) := hm3306
  exact hK _ _ ⟨_, g3003, p3303, g3403, p3703, rfl, y0, y1, y2, fun _ => rfl, y4, y5, y6, y7, fun hb => ab b8 hb, fun _ => H3004, fun _ => H3304, H3404, H3704, Mem.gc (A := [sg g2048 28 (0, 0) [] [(.slice none 0 0), (.slice none 0 0)] [], sg g2042 28 (0, 0) [] [v0x0, v0x1] [], hF, [], p3303.2, (bif b 4 then (sg g3403 3 (0, 0) [] (encs (FK.int .i64) ([] : List Int)) []) else []), []]) (cat_cons (off_ b9 rfl) (cat_cons rfl (cat_cons rfl (cat_cons (on_ rfl rfl) (cat_cons (on_ rfl rfl) (cat_cons (off_ b7 rfl) (cat_cons (off_ b7 rfl) rfl))))))) (Mem.pick [0, 1, 2, 1003, 3, 4, 1006] rfl hm3306)⟩
 ·
  intro b a w hI hbi hn hc K hK
  obtain ⟨vs, g3003, p3303, g3403, p3703, ha, y0, y1, y2, y3, y4, y5, y6, y7, y8, H3004, H3304, H3404, H3704, hm⟩ := hI
  subst ha
  have b7 : b 7 = false := later (j := 7) hc rfl (i := 4) (da rfl) hbi
  have b8 : b 8 = false := later (j := 8) hc rfl (i := 7) (da rfl) b7
  have b9 : b 9 = false := later (j := 9) hc rfl (i := 4) (da rfl) hbi
  have hm4013 : Mem w0 w (cat [sg g2048 28 (0, 0) [] [(.slice none 0 0), (.slice none 0 0)] [], sg g2042 28 (0, 0) [] [v0x0, v0x1] [], hF, (bif b 3 then [] else (bif b 0 then (sg g3003 3 (0, 0) [] (encs (FK.int .i64) ([] : List Int)) []) else [])), (bif b 3 then p3303.2 else [])]) := Mem.pick [0, 1, 2, 3, 4] rfl (Mem.cg (B := [sg g2048 28 (0, 0) [] [(.slice none 0 0), (.slice none 0 0)] [], sg g2042 28 (0, 0) [] [v0x0, v0x1] [], hF, (bif b 3 then [] else (bif b 0 then (sg g3003 3 (0, 0) [] (encs (FK.int .i64) ([] : List Int)) []) else [])), (bif b 3 then p3303.2 else []), [], []]) (cat_cons (off_ b9 rfl) (cat_cons rfl (cat_cons rfl (cat_cons rfl (cat_cons rfl (cat_cons (off_ b7 (off_ hbi rfl)) (cat_cons (off_ b7 rfl) rfl))))))) hm)
  refine e_exv (i := 4) hbi rfl rfl (won rfl) rfl rfl (e_litp (cells := []) (ps := []) rfl slt_26 (pmap_lit pmap_nil) (fun w1 => run_bslice0 slt_26) hm4013) ?_
  rintro g3403 w3401 hm3402
  have H3404 : OwF 3 (FK.int .i64) (.slice (some ⟨g3403, 0, none⟩) 0 0) ([] : List Int) (sg g3403 3 (0, 0) [] (encs (FK.int .i64) ([] : List Int)) []) := OwF.lit g3403 ([] : List Int) 0 rfl (by decide)
  replace hm3402 : Mem w0 w3401 (cat [(sg g3403 3 (0, 0) [] (encs (FK.int .i64) ([] : List Int)) []), sg g2048 28 (0, 0) [] [(.slice none 0 0), (.slice none 0 0)] [], sg g2042 28 (0, 0) [] [v0x0, v0x1] [], hF, (bif b 3 then [] else (bif b 0 then (sg g3003 3 (0, 0) [] (encs (FK.int .i64) ([] : List Int)) []) else [])), (bif b 3 then p3303.2 else [])]) := hm3402
  exact hK _ _ ⟨_, g3003, p3303, g3403, p3703, rfl, y0, y1, y2, y3, fun _ => rfl, y5, y6, y7, y8, H3004, H3304, fun _ => H3404, H3704, Mem.gc (A := [sg g2048 28 (0, 0) [] [(.slice none 0 0), (.slice none 0 0)] [], sg g2042 28 (0, 0) [] [v0x0, v0x1] [], hF, (bif b 3 then [] else (bif b 0 then (sg g3003 3 (0, 0) [] (encs (FK.int .i64) ([] : List Int)) []) else [])), (bif b 3 then p3303.2 else []), (sg g3403 3 (0, 0) [] (encs (FK.int .i64) ([] : List Int)) []), []]) (cat_cons (off_ b9 rfl) (cat_cons rfl (cat_cons rfl (cat_cons rfl (cat_cons rfl (cat_cons (off_ b7 (on_ rfl rfl)) (cat_cons (off_ b7 rfl) rfl))))))) (Mem.pick [1, 2, 3, 4, 5, 0, 1006] rfl hm3402)⟩
 ·
  intro b a w hI hbi hn hc K hK
  obtain ⟨vs, g3003, p3303, g3403, p3703, ha, y0, y1, y2, y3, y4, y5, y6, y7, y8, H3004, H3304, H3404, H3704, hm⟩ := hI
  subst ha
  have b6 : b 6 = false := later (j := 6) hc rfl (i := 5) (da rfl) hbi
  have b7 : b 7 = false := later (j := 7) hc rfl (i := 6) (da rfl) b6
  have b8 : b 8 = false := later (j := 8) hc rfl (i := 7) (da rfl) b7
  have b9 : b 9 = false := later (j := 9) hc rfl (i := 5) (da rfl) hbi
  have hm4016 : Mem w0 w (cat [sg g2048 28 (0, 0) [] [(.slice none 0 0), (.slice none 0 0)] [], sg g2042 28 (0, 0) [] [v0x0, v0x1] [], hF, (bif b 3 then [] else (bif b 0 then (sg g3003 3 (0, 0) [] (encs (FK.int .i64) ([] : List Int)) []) else [])), (bif b 3 then p3303.2 else []), (bif b 4 then (sg g3403 3 (0, 0) [] (encs (FK.int .i64) ([] : List Int)) []) else [])]) := Mem.pick [0, 1, 2, 3, 4, 5] rfl (Mem.cg (B := [sg g2048 28 (0, 0) [] [(.slice none 0 0), (.slice none 0 0)] [], sg g2042 28 (0, 0) [] [v0x0, v0x1] [], hF, (bif b 3 then [] else (bif b 0 then (sg g3003 3 (0, 0) [] (encs (FK.int .i64) ([] : List Int)) []) else [])), (bif b 3 then p3303.2 else []), (bif b 4 then (sg g3403 3 (0, 0) [] (encs (FK.int .i64) ([] : List Int)) []) else []), []]) (cat_cons (off_ b9 rfl) (cat_cons rfl (cat_cons rfl (cat_cons rfl (cat_cons rfl (cat_cons (off_ b7 rfl) (cat_cons (off_ b7 rfl) rfl))))))) hm)
  refine e_val (i := 5) hbi rfl rfl (v := (.pointer (some ⟨g2042, 1, none⟩))) (won rfl) rfl rfl (x_field rfl fa_28x1 (ev (t := 1) (v := (.pointer (some ⟨g2042, 0, none⟩))) rfl ((sel_no rfl).trans rfl))) ?_
  exact hK _ _ ⟨_, g3003, p3303, g3403, p3703, rfl, y0, y1, y2, y3, y4, fun _ => rfl, y6, y7, y8, H3004, H3304, H3404, H3704, Mem.gc (A := [sg g2048 28 (0, 0) [] [(.slice none 0 0), (.slice none 0 0)] [], sg g2042 28 (0, 0) [] [v0x0, v0x1] [], hF, (bif b 3 then [] else (bif b 0 then (sg g3003 3 (0, 0) [] (encs (FK.int .i64) ([] : List Int)) []) else [])), (bif b 3 then p3303.2 else []), (bif b 4 then (sg g3403 3 (0, 0) [] (encs (FK.int .i64) ([] : List Int)) []) else []), []]) (cat_cons (off_ b9 rfl) (cat_cons rfl (cat_cons rfl (cat_cons rfl (cat_cons rfl (cat_cons (off_ b7 rfl) (cat_cons (off_ b7 rfl) rfl))))))) (Mem.pick [0, 1, 2, 3, 4, 5, 1006] rfl hm4016)⟩
 ·
  intro b a w hI hbi hn hc K hK
  obtain ⟨vs, g3003, p3303, g3403, p3703, ha, y0, y1, y2, y3, y4, y5, y6, y7, y8, H3004, H3304, H3404, H3704, hm⟩ := hI
  subst ha
  have b5 : b 5 = true := hn 5 (da rfl)
  have b7 : b 7 = false := later (j := 7) hc rfl (i := 6) (da rfl) hbi
  have b8 : b 8 = false := later (j := 8) hc rfl (i := 7) (da rfl) b7
  have b9 : b 9 = false := later (j := 9) hc rfl (i := 6) (da rfl) hbi
  have hm4019 : Mem w0 w (cat [sg g2048 28 (0, 0) [] [(.slice none 0 0), (.slice none 0 0)] [], sg g2042 28 (0, 0) [] [v0x0, v0x1] [], hF, (bif b 3 then [] else (bif b 0 then (sg g3003 3 (0, 0) [] (encs (FK.int .i64) ([] : List Int)) []) else [])), (bif b 3 then p3303.2 else []), (bif b 4 then (sg g3403 3 (0, 0) [] (encs (FK.int .i64) ([] : List Int)) []) else [])]) := Mem.pick [0, 1, 2, 3, 4, 5] rfl (Mem.cg (B := [sg g2048 28 (0, 0) [] [(.slice none 0 0), (.slice none 0 0)] [], sg g2042 28 (0, 0) [] [v0x0, v0x1] [], hF, (bif b 3 then [] else (bif b 0 then (sg g3003 3 (0, 0) [] (encs (FK.int .i64) ([] : List Int)) []) else [])), (bif b 3 then p3303.2 else []), (bif b 4 then (sg g3403 3 (0, 0) [] (encs (FK.int .i64) ([] : List Int)) []) else []), []]) (cat_cons (off_ b9 rfl) (cat_cons rfl (cat_cons rfl (cat_cons rfl (cat_cons rfl (cat_cons (off_ b7 rfl) (cat_cons (off_ b7 rfl) rfl))))))) hm)
  refine e_val (i := 6) hbi rfl rfl (v := v0x1) (won rfl) rfl rfl (x_load rfl ty1x26 (ev (t := 8) (v := (.pointer (some ⟨g2042, 1, none⟩))) rfl ((sel_on (p := (5, 8)) rfl b5).trans (y5 b5))) (seg_cell (o' := 0) (j := 1) hm4019 (k := 1) rfl rfl rfl)) ?_
  exact hK _ _ ⟨_, g3003, p3303, g3403, p3703, rfl, y0, y1, y2, y3, y4, y5, fun _ => rfl, y7, y8, H3004, H3304, H3404, H3704, Mem.gc (A := [sg g2048 28 (0, 0) [] [(.slice none 0 0), (.slice none 0 0)] [], sg g2042 28 (0, 0) [] [v0x0, v0x1] [], hF, (bif b 3 then [] else (bif b 0 then (sg g3003 3 (0, 0) [] (encs (FK.int .i64) ([] : List Int)) []) else [])), (bif b 3 then p3303.2 else []), (bif b 4 then (sg g3403 3 (0, 0) [] (encs (FK.int .i64) ([] : List Int)) []) else []), []]) (cat_cons (off_ b9 rfl) (cat_cons rfl (cat_cons rfl (cat_cons rfl (cat_cons rfl (cat_cons (off_ b7 rfl) (cat_cons (off_ b7 rfl) rfl))))))) (Mem.pick [0, 1, 2, 3, 4, 5, 1006] rfl hm4019)⟩
 ·
  intro b a w hI hbi hn hc K hK
  obtain ⟨vs, g3003, p3303, g3403, p3703, ha, y0, y1, y2, y3, y4, y5, y6, y7, y8, H3004, H3304, H3404, H3704, hm⟩ := hI
  subst ha
  have b3 : b 3 = true := hn 3 (da rfl)
  have b4 : b 4 = true := hn 4 (da rfl)
  have b6 : b 6 = true := hn 6 (da rfl)
  have b0 : b 0 = true := hc 3 _ rfl b3 0 (da rfl)
  have b2 : b 2 = true := hc 3 _ rfl b3 2 (da rfl)
  have b5 : b 5 = true := hc 6 _ rfl b6 5 (da rfl)
  have b1 : b 1 = true := hc 2 _ rfl b2 1 (da rfl)
  have b8 : b 8 = false := later (j := 8) hc rfl (i := 7) (da rfl) hbi
  have b9 : b 9 = false := later (j := 9) hc rfl (i := 7) (da rfl) hbi
  have H3004 := H3004 b0
  have H3304 := H3304 b3
  have H3404 := H3404 b4
  have hm4022 : Mem w0 w (cat [sg g2048 28 (0, 0) [] [(.slice none 0 0), (.slice none 0 0)] [], sg g2042 28 (0, 0) [] [v0x0, v0x1] [], hF, p3303.2, (sg g3403 3 (0, 0) [] (encs (FK.int .i64) ([] : List Int)) [])]) := Mem.pick [0, 1, 2, 4, 5] rfl (Mem.cg (B := [sg g2048 28 (0, 0) [] [(.slice none 0 0), (.slice none 0 0)] [], sg g2042 28 (0, 0) [] [v0x0, v0x1] [], hF, [], p3303.2, (sg g3403 3 (0, 0) [] (encs (FK.int .i64) ([] : List Int)) []), []]) (cat_cons (off_ b9 rfl) (cat_cons rfl (cat_cons rfl (cat_cons (on_ b3 rfl) (cat_cons (on_ b3 rfl) (cat_cons (off_ hbi (on_ b4 rfl)) (cat_cons (off_ hbi rfl) rfl))))))) hm)
  refine e_exv (i := 7) hbi rfl rfl (won rfl) rfl rfl (e_append (bytes := 8) rfl slt_26 rfl (ev (t := 7) (v := (.slice (some ⟨g3403, 0, none⟩) 0 0)) rfl ((sel_on (p := (4, 7)) rfl b4).trans (y4 b4))) (ev (t := 9) (v := v0x1) rfl ((sel_on (p := (6, 9)) rfl b6).trans (y6 b6))) H3404 (k := 4) rfl H0x1 (Sub.trans hs (Sub.at_ (k := 2) rfl)) hm4022 hg3701 (len63 hg3701 rfl)) ?_
  rintro p3703 w3705 ⟨H3704, hm3706⟩
  replace hm3706 : Mem w0 w3705 (cat [sg g2048 28 (0, 0) [] [(.slice none 0 0), (.slice none 0 0)] [], sg g2042 28 (0, 0) [] [v0x0, v0x1] [], hF, p3303.2, p3703.2]) := hm3706
  exact hK _ _ ⟨_, g3003, p3303, g3403, p3703, rfl, y0, y1, y2, y3, y4, y5, y6, fun _ => rfl, fun hb => ab b8 hb, fun _ => H3004, fun _ => H3304, fun _ => H3404, fun _ => H3704, Mem.gc (A := [sg g2048 28 (0, 0) [] [(.slice none 0 0), (.slice none 0 0)] [], sg g2042 28 (0, 0) [] [v0x0, v0x1] [], hF, [], p3303.2, [], p3703.2]) (cat_cons (off_ b9 rfl) (cat_cons rfl (cat_cons rfl (cat_cons (on_ b3 rfl) (cat_cons (on_ b3 rfl) (cat_cons (on_ rfl rfl) (cat_cons (on_ rfl rfl) rfl))))))) (Mem.pick [0, 1, 2, 1003, 3, 1005, 4] rfl hm3706)⟩
 ·
  intro b a w hI hbi hn hc K hK
  obtain ⟨vs, g3003, p3303, g3403, p3703, ha, y0, y1, y2, y3, y4, y5, y6, y7, y8, H3004, H3304, H3404, H3704, hm⟩ := hI
  subst ha
  have b3 : b 3 = true := hn 3 (da rfl)
  have b7 : b 7 = true := hn 7 (da rfl)
  have b0 : b 0 = true := hc 3 _ rfl b3 0 (da rfl)
  have b2 : b 2 = true := hc 3 _ rfl b3 2 (da rfl)
  have b4 : b 4 = true := hc 7 _ rfl b7 4 (da rfl)
  have b6 : b 6 = true := hc 7 _ rfl b7 6 (da rfl)
  have b1 : b 1 = true := hc 2 _ rfl b2 1 (da rfl)
  have b5 : b 5 = true := hc 6 _ rfl b6 5 (da rfl)
  have b9 : b 9 = false := later (j := 9) hc rfl (i := 8) (da rfl) hbi
  have H3004 := H3004 b0
  have H3304 := H3304 b3
  have H3404 := H3404 b4
  have H3704 := H3704 b7
  have hm4025 : Mem w0 w (cat [sg g2048 28 (0, 0) [] [(.slice none 0 0), (.slice none 0 0)] [], sg g2042 28 (0, 0) [] [v0x0, v0x1] [], hF, p3303.2, p3703.2]) := Mem.pick [0, 1, 2, 4, 6] rfl (Mem.cg (B := [sg g2048 28 (0, 0) [] [(.slice none 0 0), (.slice none 0 0)] [], sg g2042 28 (0, 0) [] [v0x0, v0x1] [], hF, [], p3303.2, [], p3703.2]) (cat_cons (off_ b9 rfl) (cat_cons rfl (cat_cons rfl (cat_cons (on_ b3 rfl) (cat_cons (on_ b3 rfl) (cat_cons (on_ b7 rfl) (cat_cons (on_ b7 rfl) rfl))))))) hm)
  refine e_val (i := 8) hbi rfl rfl (v := (.agg #[p3303.1, p3703.1])) (won rfl) rfl rfl (x_build (cells := [p3303.1, p3703.1]) (zc := [.slice none 0 0, .slice none 0 0]) (sizes := [(0, 1), (1, 1)]) (ps := [(0, p3303.1), (1, p3703.1)]) rfl zt_28 rfl uf_28 ufz_28 (pmap_lit (pmap_cons (ev (t := 6) (v := p3303.1) rfl ((sel_on (p := (3, 6)) rfl b3).trans (y3 b3))) (pmap_cons (ev (t := 10) (v := p3703.1) rfl ((sel_on (p := (7, 10)) rfl b7).trans (y7 b7))) pmap_nil))) (fill_cons (cs := [p3303.1]) rfl (IsSl.cells (H3304).sl) rfl (fill_cons (cs := [p3703.1]) rfl (IsSl.cells (H3704).sl) rfl fill_nil))) ?_
  exact hK _ _ ⟨_, g3003, p3303, g3403, p3703, rfl, y0, y1, y2, y3, y4, y5, y6, y7, fun _ => rfl, fun _ => H3004, fun _ => H3304, fun _ => H3404, fun _ => H3704, Mem.gc (A := [sg g2048 28 (0, 0) [] [(.slice none 0 0), (.slice none 0 0)] [], sg g2042 28 (0, 0) [] [v0x0, v0x1] [], hF, [], p3303.2, [], p3703.2]) (cat_cons (off_ b9 rfl) (cat_cons rfl (cat_cons rfl (cat_cons (on_ b3 rfl) (cat_cons (on_ b3 rfl) (cat_cons (on_ b7 rfl) (cat_cons (on_ b7 rfl) rfl))))))) (Mem.pick [0, 1, 2, 1003, 3, 1005, 4] rfl hm4025)⟩
 ·
  intro b a w hI hbi hn hc K hK
  obtain ⟨vs, g3003, p3303, g3403, p3703, ha, y0, y1, y2, y3, y4, y5, y6, y7, y8, H3004, H3304, H3404, H3704, hm⟩ := hI
  subst ha
  have b0 : b 0 = true := hn 0 (da rfl)
  have b1 : b 1 = true := hn 1 (da rfl)
  have b2 : b 2 = true := hn 2 (da rfl)
  have b3 : b 3 = true := hn 3 (da rfl)
  have b4 : b 4 = true := hn 4 (da rfl)
  have b5 : b 5 = true := hn 5 (da rfl)
  have b6 : b 6 = true := hn 6 (da rfl)
  have b7 : b 7 = true := hn 7 (da rfl)
  have b8 : b 8 = true := hn 8 (da rfl)
  have H3004 := H3004 b0
  have H3304 := H3304 b3
  have H3404 := H3404 b4
  have H3704 := H3704 b7
  have hm4028 : Mem w0 w (cat [sg g2048 28 (0, 0) [] [(.slice none 0 0), (.slice none 0 0)] [], sg g2042 28 (0, 0) [] [v0x0, v0x1] [], hF, p3303.2, p3703.2]) := Mem.pick [0, 1, 2, 4, 6] rfl (Mem.cg (B := [sg g2048 28 (0, 0) [] [(.slice none 0 0), (.slice none 0 0)] [], sg g2042 28 (0, 0) [] [v0x0, v0x1] [], hF, [], p3303.2, [], p3703.2]) (cat_cons (off_ hbi rfl) (cat_cons rfl (cat_cons rfl (cat_cons (on_ b3 rfl) (cat_cons (on_ b3 rfl) (cat_cons (on_ b7 rfl) (cat_cons (on_ b7 rfl) rfl))))))) hm)
  refine e_exs (i := 9) hbi rfl (won rfl) rfl (e_store (vs := [p3303.1, p3703.1]) (o' := 0) (j := 0) rfl sz_28 (ev (t := 2) (v := (.pointer (some ⟨g2048, 0, none⟩))) rfl ((sel_no rfl).trans rfl)) (ev (t := 11) (v := (.agg #[p3303.1, p3703.1])) rfl ((sel_on (p := (8, 11)) rfl b8).trans (y8 b8))) rfl (one_cons (IsSl.one (H3304).sl) (one_cons (IsSl.one (H3704).sl) one_nil)) hm4028 (k := 0) rfl rfl rfl) ?_
  intro w3901 hm3902
  replace hm3902 : Mem w0 w3901 (cat [sg g2048 28 (0, 0) [] [p3303.1, p3703.1] [], sg g2042 28 (0, 0) [] [v0x0, v0x1] [], hF, p3303.2, p3703.2]) := hm3902
  exact hK _ _ ⟨_, g3003, p3303, g3403, p3703, rfl, y0, y1, y2, y3, y4, y5, y6, y7, y8, fun _ => H3004, fun _ => H3304, fun _ => H3404, fun _ => H3704, Mem.gc (A := [sg g2048 28 (0, 0) [] [p3303.1, p3703.1] [], sg g2042 28 (0, 0) [] [v0x0, v0x1] [], hF, [], p3303.2, [], p3703.2]) (cat_cons (on_ rfl rfl) (cat_cons rfl (cat_cons rfl (cat_cons (on_ b3 rfl) (cat_cons (on_ b3 rfl) (cat_cons (on_ b7 rfl) (cat_cons (on_ b7 rfl) rfl))))))) (Mem.pick [0, 1, 2, 1003, 3, 1005, 4] rfl hm3902)⟩
 intro b a w hall hI
 obtain ⟨vs, g3003, p3303, g3403, p3703, ha, y0, y1, y2, y3, y4, y5, y6, y7, y8, H3004, H3304, H3404, H3704, hm⟩ := hI
 have b0 : b 0 = true := hall 0 rfl
 have b1 : b 1 = true := hall 1 rfl
 have b2 : b 2 = true := hall 2 rfl
 have b3 : b 3 = true := hall 3 rfl
 have b4 : b 4 = true := hall 4 rfl
 have b5 : b 5 = true := hall 5 rfl
 have b6 : b 6 = true := hall 6 rfl
 have b7 : b 7 = true := hall 7 rfl
 have b8 : b 8 = true := hall 8 rfl
 have b9 : b 9 = true := hall 9 rfl
 replace H3004 := H3004 b0
 replace H3304 := H3304 b3
 replace H3404 := H3404 b4
 replace H3704 := H3704 b7
 have hm4031 : Mem w0 w (cat [sg g2048 28 (0, 0) [] [p3303.1, p3703.1] [], sg g2042 28 (0, 0) [] [v0x0, v0x1] [], hF, p3303.2, p3703.2]) := Mem.pick [0, 1, 2, 4, 6] rfl (Mem.cg (B := [sg g2048 28 (0, 0) [] [p3303.1, p3703.1] [], sg g2042 28 (0, 0) [] [v0x0, v0x1] [], hF, [], p3303.2, [], p3703.2]) (cat_cons (on_ b9 rfl) (cat_cons rfl (cat_cons rfl (cat_cons (on_ b3 rfl) (cat_cons (on_ b3 rfl) (cat_cons (on_ b7 rfl) (cat_cons (on_ b7 rfl) rfl))))))) hm)
 obtain ⟨f3000, ha', z3000x2⟩ : ∃ f' : Nat → Value, a = fr 12 f' ∧ f' 2 = (.pointer (some ⟨g2048, 0, none⟩)) := ⟨_, ha, (sel_no rfl).trans rfl⟩
 subst ha'
 have hm4041 : Mem w0 w (cat [sg g2048 28 (0, 0) [] [p3303.1, p3703.1] [], hF, p3303.2, p3703.2]) := Mem.pick [0, 2, 3, 4] rfl hm4031
 refine nx ?_
 refine wp_ret ?_
 obtain rfl := Option.some.inj he
 refine r_ret (v := (.agg #[p3303.1, p3703.1])) (rv_one rfl (RVs.cell (cs := [p3303.1, p3703.1]) rfl z3000x2 tyN_28 (seg_cells (o' := 0) (j := 0) hm4041 (k := 0) rfl rfl rfl) RVs.nil)) rfl ?_
 exact ⟨p3303.1, p3303.2, p3703.1, p3703.2, rfl, H3304, H3704, Mem.pick [2, 3, 1] rfl hm4041⟩
def spec_l12Mine (a0 : impl_Pool) (a1 : Int) (a2 : Int) : Option (Bool) := (spec_l01In a2 0 (IntKind.wrap .i64 ((a0.Owner.length : Int) - 1))).bind fun r14 => gd (r14 = true → (0 : Int) ≤ a2 ∧ a2 < (a0.Owner.length : Int)) ((some (r14 && (decide ((ix a0.Owner a2) = a1)))))
set_option maxHeartbeats 400000 in
set_option maxRecDepth 100000 in
theorem spec_l12Mine_ok {w0 w : World} {hR hF : Hp} {v0x0 : Value} {v0x1 : Value} (a0 : impl_Pool) (a1 : Int) (a2 : Int) {r : (Bool)} (H0x0 : RdF w0 (FK.int .i64) v0x0 a0.Free hR) (H0x1 : RdF w0 (FK.int .i64) v0x1 a0.Owner hR) (hs : Sub hR hF) (hm : Mem w0 w (cat [hF])) (he : spec_l12Mine a0 a1 a2 = some r) :
    Calls Try.prog 88 #[(.agg #[v0x0, v0x1]), (.int .i64 a1), (.int .i64 a2)] w (fun e w' => e = .returned (.bool r) ∧ Mem w0 w' (cat [hF])) := by
 refine calls_fr (n := 22) Try.func88 rfl rfl rfl ?_
 unfold spec_l12Mine at he
 refine wp_seq ?_
 refine wp_region_lit ?_
 refine s_exv (won rfl) rfl rfl (e_box (vs := [v0x0, v0x1]) rfl (ev (t := 0) rfl rfl) rfl hm) ?_
 rintro g10 w11 hm12
 refine s_val (v := (.bool false)) (won rfl) rfl rfl (x_assign rfl rfl) ?_
 refine wpList_nil ?_
 refine nx ?_
 refine wp_seq ?_
 obtain ⟨r14, hr14, he⟩ := bindE he
 obtain ⟨hg17, he⟩ := gdE he
 refine wp_region_lit ?_
 refine s_val (v := (.int .i64 a2)) (won rfl) rfl rfl (x_move rfl (ev (t := 2) rfl rfl)) ?_
 refine s_val (v := (.pointer (some ⟨g10, 1, none⟩))) (won rfl) rfl rfl (x_field rfl fa_28x1 (ev (t := 3) rfl rfl)) ?_
 refine s_val (v := v0x1) (won rfl) rfl rfl (x_load rfl ty1x26 (ev (t := 8) rfl rfl) (seg_cell (o' := 0) (j := 1) hm12 (k := 0) rfl rfl rfl)) ?_
 refine s_val (v := (.int .i64 (a0.Owner.length : Int))) (won rfl) rfl rfl (x_len rfl slt_26 (ev (t := 9) rfl rfl) (H0x1).sl) ?_
 refine s_val (v := (.int .i64 (IntKind.wrap .i64 ((a0.Owner.length : Int) - 1)))) (won rfl) rfl rfl (x_sub rfl (ev (t := 10) rfl rfl) rfl) ?_
 refine s_call (won rfl) rfl rfl (x_call rfl rfl cl_87 (map_lit (map_cons (ev (t := 7) rfl rfl) (map_cons rfl (map_cons (ev (t := 11) rfl rfl) map_nil))))) (spec_l01In_ok (hR := (cat [])) (hF := cat [sg g10 28 (0, 0) [] [v0x0, v0x1] [], hF]) a2 0 (IntKind.wrap .i64 ((a0.Owner.length : Int) - 1))  (Mem.one hm12) hr14) ?_
 rintro e w15 ⟨rfl, hm16⟩
 refine ⟨_, rfl, ?_⟩
 replace hm16 : Mem w0 w15 (cat [sg g10 28 (0, 0) [] [v0x0, v0x1] [], hF]) := Mem.un hm16
 refine s_val (v := (.bool r14)) (won rfl) rfl rfl (x_move rfl (ev (t := 12) rfl rfl)) ?_
 refine s_cval (p := r14) (v := (.pointer (some ⟨g10, 1, none⟩))) (won_t (j := 6) (t := 13) (q := r14) rfl rfl rfl rfl rfl) rfl rfl (fun hp => (x_field rfl fa_28x1 (ev (t := 3) rfl rfl))) ?_
 refine s_cval (p := r14) (v := v0x1) (won_t (j := 6) (t := 13) (q := r14) rfl rfl rfl rfl rfl) rfl rfl (fun hp => (x_load rfl ty1x26 (ev (t := 14) rfl (Eq.trans (b := cv r14 (.pointer (some ⟨g10, 1, none⟩))) rfl (on_c hp))) (seg_cell (o' := 0) (j := 1) hm16 (k := 0) rfl rfl rfl))) ?_
 refine s_cval (p := r14) (v := (.int .i64 a2)) (won_t (j := 6) (t := 13) (q := r14) rfl rfl rfl rfl rfl) rfl rfl (fun hp => (x_move rfl (ev (t := 2) rfl rfl))) ?_
 refine s_cval (p := r14) (v := (.pointer (some ((slA v0x1).add (Int.toNat a2 * 1))))) (won_t (j := 6) (t := 13) (q := r14) rfl rfl rfl rfl rfl) rfl rfl (fun hp => (x_index (d := (FK.int .i64)) rfl slt_26 (ev (t := 15) rfl (Eq.trans (b := cv r14 v0x1) rfl (on_c hp))) (ev (t := 16) rfl (Eq.trans (b := cv r14 (.int .i64 a2)) rfl (on_c hp))) H0x1 (hg17 hp).1 (hg17 hp).2)) ?_
 refine s_cval (p := r14) (v := (.int .i64 (ix a0.Owner a2))) (won_t (j := 6) (t := 13) (q := r14) rfl rfl rfl rfl rfl) rfl rfl (fun hp => (x_load rfl ty1x3 (ev (t := 17) rfl (Eq.trans (b := cv r14 (.pointer (some ((slA v0x1).add (Int.toNat a2 * 1))))) rfl (on_c hp))) (RdF.cell0 H0x1 hm16 (Sub.trans hs (Sub.at_ (k := 1) rfl)) (hg17 hp).1 (hg17 hp).2 rfl))) ?_
 refine s_cval (p := r14) (v := (.int .i64 a1)) (won_t (j := 6) (t := 13) (q := r14) rfl rfl rfl rfl rfl) rfl rfl (fun hp => (x_move rfl (ev (t := 1) rfl rfl))) ?_
 refine s_cval (p := r14) (v := (.bool (decide ((ix a0.Owner a2) = a1)))) (won_t (j := 6) (t := 13) (q := r14) rfl rfl rfl rfl rfl) rfl rfl (fun hp => (x_eql rfl (ev (t := 18) rfl (Eq.trans (b := cv r14 (.int .i64 (ix a0.Owner a2))) rfl (on_c hp))) (ev (t := 19) rfl (Eq.trans (b := cv r14 (.int .i64 a1)) rfl (on_c hp))))) ?_
 refine s_val (v := (.bool (r14 && (decide ((ix a0.Owner a2) = a1))))) (won rfl) rfl rfl (x_pick_and rfl (ev (t := 13) rfl rfl) (fun hq => ev rfl (Eq.trans (b := cv r14 (.bool (decide ((ix a0.Owner a2) = a1)))) rfl (on_c hq))) rfl) ?_
 refine s_val (v := (.bool (r14 && (decide ((ix a0.Owner a2) = a1))))) (won rfl) rfl rfl (x_assign rfl (ev (t := 21) rfl rfl)) ?_
 refine wpList_nil ?_
 have hm18 : Mem w0 w15 (cat [hF]) := Mem.pick [1] rfl hm16
 refine nx ?_
 refine wp_ret ?_
 obtain rfl := Option.some.inj he
 refine r_ret (v := (.bool (r14 && (decide ((ix a0.Owner a2) = a1))))) (rv_one rfl (RVs.tmp (v := (.bool (r14 && (decide ((ix a0.Owner a2) = a1))))) rfl rfl RVs.nil)) rfl ?_
 exact ⟨rfl, Mem.pick [0] rfl hm18⟩
def spec_l12Step_l1 (F : Nat) (a1 : impl_PoolAct) : Nat → Int → (List Int) → (List Int) → Int → Option (Int × (List Int) × (List Int))
  | 0, _, _, _, _ => none
  | k + 1, s3096, s3098, s3102, s3106 => (bif (decide (s3106 < (s3102.length : Int))) then (gd ((0 : Int) ≤ s3106 ∧ s3106 < (s3102.length : Int)) ((bif (decide ((ix s3102 s3106) = a1.Owner)) then gd ((0 : Int) ≤ s3106 ∧ s3106 < (s3102.length : Int)) (gd ((s3098.length + ([s3106] : List Int).length) * 8 ≤ 140737488355328) ((some ((IntKind.wrap .i64 (s3096 + 1)), (s3098 ++ ([s3106] : List Int)), (List.set s3102 (Int.toNat s3106) (-1)))))) else (some (s3096, s3098, s3102)))) : Option (Int × (List Int) × (List Int))).bind fun (s3226 : (Int × (List Int) × (List Int))) => spec_l12Step_l1 F a1 k s3226.1 s3226.2.1 s3226.2.2 (IntKind.wrap .i64 (s3106 + 1)) else (some (s3096, s3098, s3102)))
def spec_l12Step (F : Nat) (a0 : impl_Pool) (a1 : impl_PoolAct) : Option (impl_Pool × impl_PoolReply) := (spec_l01In a1.Kind 1 4).bind fun r1718 => (bif (!r1718) then (some (a0, (impl_PoolReply.mk 3 0))) else (spec_l01In a1.Owner 0 5).bind fun r1760 => (bif ((!(!r1760)) && (decide (a1.Kind = 2))) then spec_l01In a1.To 0 5 else some false).bind fun r1763 => (bif ((!r1760) || ((decide (a1.Kind = 2)) && (!r1763))) then ((bif ((decide (a1.Kind = 1)) || (decide (a1.Kind = 4))) then (some 0) else (some a1.Buffer)) : Option (Int)).bind fun (s1778 : (Int)) => (some (a0, (impl_PoolReply.mk 4 s1778))) else (spec_l12Own a0).bind fun r1793 => ((bif (decide (a1.Kind = 1)) then (bif (decide ((a0.Free.length : Int) = 0)) then (some (Fl.out (a0, (impl_PoolReply.mk 7 0)))) else gd ((0 : Int) ≤ 0 ∧ 0 < (a0.Free.length : Int)) (gd ((0 : Int) ≤ 1 ∧ 1 ≤ (a0.Free.length : Int)) (gd ((([] : List Int).length + (slc a0.Free (Int.toNat 1) a0.Free.length).length) * 8 ≤ 140737488355328) (gd ((0 : Int) ≤ (ix a0.Free 0) ∧ (ix a0.Free 0) < (r1793.Owner.length : Int)) ((some (Fl.out ((impl_Pool.mk (([] : List Int) ++ (slc a0.Free (Int.toNat 1) a0.Free.length)) (List.set r1793.Owner (Int.toNat (ix a0.Free 0)) a1.Owner)), (impl_PoolReply.mk 0 (ix a0.Free 0)))))))))) else (bif (decide (a1.Kind = 4)) then (spec_l12Step_l1 F a1 F 0 r1793.Free r1793.Owner 0 : Option (Int × (List Int) × (List Int))).bind fun (s2928 : (Int × (List Int) × (List Int))) => (some (Fl.out ((impl_Pool.mk s2928.2.1 s2928.2.2), (impl_PoolReply.mk 0 s2928.1)))) else (some (Fl.go ())))) : Option (Fl (impl_Pool × impl_PoolReply) (Unit))).bind fun l2540 => l2540.on fun (s2539 : (Unit)) => (spec_l12Mine a0 a1.Owner a1.Buffer).bind fun r3279 => (bif (!r3279) then (some (a0, (impl_PoolReply.mk 5 a1.Buffer))) else ((bif (decide (a1.Kind = 2)) then gd ((0 : Int) ≤ a1.Buffer ∧ a1.Buffer < (r1793.Owner.length : Int)) ((some (r1793.Free, (List.set r1793.Owner (Int.toNat a1.Buffer) a1.To)))) else gd ((0 : Int) ≤ a1.Buffer ∧ a1.Buffer < (r1793.Owner.length : Int)) (gd ((r1793.Free.length + ([a1.Buffer] : List Int).length) * 8 ≤ 140737488355328) ((some ((r1793.Free ++ ([a1.Buffer] : List Int)), (List.set r1793.Owner (Int.toNat a1.Buffer) (-1))))))) : Option ((List Int) × (List Int))).bind fun (s3331 : ((List Int) × (List Int))) => (some ((impl_Pool.mk s3331.1 s3331.2), (impl_PoolReply.mk 0 a1.Buffer))))))
set_option maxHeartbeats 400000 in
set_option maxRecDepth 100000 in
theorem spec_l12Step_ok (F : Nat) {w0 w : World} {hR hF : Hp} {v0x0 : Value} {v0x1 : Value} (a0 : impl_Pool) (a1 : impl_PoolAct) {r : (impl_Pool × impl_PoolReply)} (H0x0 : RdF w0 (FK.int .i64) v0x0 a0.Free hR) (H0x1 : RdF w0 (FK.int .i64) v0x1 a0.Owner hR) (hs : Sub hR hF) (hm : Mem w0 w (cat [hF])) (he : spec_l12Step F a0 a1 = some r) :
    Calls Try.prog 61 #[(.agg #[v0x0, v0x1]), (.agg #[(.int .i64 a1.Kind), (.int .i64 a1.Owner), (.int .i64 a1.To), (.int .i64 a1.Buffer)])] w (fun e w' => ∃ (v'0 : Value)  (v'1 : Value)  (hN : Hp), e = .returned (.tuple #[(.agg #[v'0, v'1]), (.agg #[(.int .i64 r.2.Code), (.int .i64 r.2.Buffer)])]) ∧ RdF w0 (FK.int .i64) v'0 r.1.Free (cat [hR, hN]) ∧ RdF w0 (FK.int .i64) v'1 r.1.Owner (cat [hR, hN]) ∧ Mem w0 w' (cat [hN, hF])) := by
 refine calls_fr (n := 145) Try.func61 rfl rfl rfl ?_
 unfold spec_l12Step at he
 refine wp_seq ?_
 refine wp_region_lit ?_
 refine s_exv (won rfl) rfl rfl (e_box (vs := [v0x0, v0x1]) rfl (ev (t := 0) rfl rfl) rfl hm) ?_
 rintro g1685 w1686 hm1687
 refine s_exv (won rfl) rfl rfl (e_box (vs := [(.int .i64 a1.Kind), (.int .i64 a1.Owner), (.int .i64 a1.To), (.int .i64 a1.Buffer)]) rfl (ev (t := 1) rfl rfl) rfl hm1687) ?_
 rintro g1689 w1690 hm1691
 refine s_exv (won rfl) rfl rfl (e_alloc (vs := [(.slice none 0 0), (.slice none 0 0)]) rfl zt_28 rfl hm1691) ?_
 rintro g1695 w1696 hm1697
 refine s_exv (won rfl) rfl rfl (e_alloc (vs := [(.int .i64 0), (.int .i64 0)]) rfl zt_35 rfl hm1697) ?_
 rintro g1699 w1700 hm1701
 refine wpList_nil ?_
 refine nx ?_
 refine wp_seq ?_
 refine wp_region_lit ?_
 refine s_val (v := (.pointer (some ⟨g1689, 3, none⟩))) (won rfl) rfl rfl (x_field rfl fa_39x3 (ev (t := 3) rfl rfl)) ?_
 refine s_val (v := (.int .i64 a1.Buffer)) (won rfl) rfl rfl (x_load rfl ty1x3 (ev (t := 9) rfl rfl) (seg_cell (o' := 0) (j := 3) hm1701 (k := 2) rfl rfl rfl)) ?_
 refine s_val (v := (.agg #[(.int .i64 0), (.int .i64 a1.Buffer)])) (won rfl) rfl rfl (x_build (cells := [(.int .i64 0), (.int .i64 a1.Buffer)]) (zc := [.int .i64 0, .int .i64 0]) (sizes := [(0, 1), (1, 1)]) (ps := [(1, (.int .i64 a1.Buffer))]) rfl zt_35 rfl uf_35 ufz_35 (pmap_lit (pmap_cons (ev (t := 10) rfl rfl) pmap_nil)) (fill_cons (cs := [(.int .i64 a1.Buffer)]) rfl rfl rfl fill_nil)) ?_
 refine s_exv (won rfl) rfl rfl (e_alloc (vs := [(.int .i64 0), (.int .i64 0)]) rfl zt_35 rfl hm1701) ?_
 rintro g1703 w1704 hm1705
 refine s_exs (won rfl) rfl (e_store (vs := [(.int .i64 0), (.int .i64 a1.Buffer)]) (o' := 0) (j := 0) rfl sz_35 (ev (t := 6) rfl rfl) (ev (t := 11) rfl rfl) rfl rfl hm1705 (k := 0) rfl rfl rfl) ?_
 intro w1707 hm1708
 replace hm1708 : Mem w0 w1707 (cat [sg g1703 35 (0, 0) [] [(.int .i64 0), (.int .i64 a1.Buffer)] [], sg g1699 35 (0, 0) [] [(.int .i64 0), (.int .i64 0)] [], sg g1695 28 (0, 0) [] [(.slice none 0 0), (.slice none 0 0)] [], sg g1689 39 (0, 0) [] [(.int .i64 a1.Kind), (.int .i64 a1.Owner), (.int .i64 a1.To), (.int .i64 a1.Buffer)] [], sg g1685 28 (0, 0) [] [v0x0, v0x1] [], hF]) := hm1708
 refine wpList_nil ?_
 refine nx ?_
 refine wp_seq ?_
 refine wp_seq ?_
 obtain ⟨r1718, hr1718, he⟩ := bindE he
 refine wp_region_lit ?_
 refine s_val (v := (.pointer (some ⟨g1689, 0, none⟩))) (won rfl) rfl rfl (x_field rfl fa_39x0 (ev (t := 3) rfl rfl)) ?_
 refine s_val (v := (.int .i64 a1.Kind)) (won rfl) rfl rfl (x_load rfl ty1x3 (ev (t := 12) rfl rfl) (seg_cell (o' := 0) (j := 0) hm1708 (k := 3) rfl rfl rfl)) ?_
 refine s_call (won rfl) rfl rfl (x_call rfl rfl cl_87 (map_lit (map_cons (ev (t := 13) rfl rfl) (map_cons rfl (map_cons rfl map_nil))))) (spec_l01In_ok (hR := (cat [])) (hF := cat [sg g1703 35 (0, 0) [] [(.int .i64 0), (.int .i64 a1.Buffer)] [], sg g1699 35 (0, 0) [] [(.int .i64 0), (.int .i64 0)] [], sg g1695 28 (0, 0) [] [(.slice none 0 0), (.slice none 0 0)] [], sg g1689 39 (0, 0) [] [(.int .i64 a1.Kind), (.int .i64 a1.Owner), (.int .i64 a1.To), (.int .i64 a1.Buffer)] [], sg g1685 28 (0, 0) [] [v0x0, v0x1] [], hF]) a1.Kind 1 4  (Mem.one hm1708) hr1718) ?_
 rintro e w1719 ⟨rfl, hm1720⟩
 refine ⟨_, rfl, ?_⟩
 replace hm1720 : Mem w0 w1719 (cat [sg g1703 35 (0, 0) [] [(.int .i64 0), (.int .i64 a1.Buffer)] [], sg g1699 35 (0, 0) [] [(.int .i64 0), (.int .i64 0)] [], sg g1695 28 (0, 0) [] [(.slice none 0 0), (.slice none 0 0)] [], sg g1689 39 (0, 0) [] [(.int .i64 a1.Kind), (.int .i64 a1.Owner), (.int .i64 a1.To), (.int .i64 a1.Buffer)] [], sg g1685 28 (0, 0) [] [v0x0, v0x1] [], hF]) := Mem.un hm1720
 refine s_val (v := (.bool (!r1718))) (won rfl) rfl rfl (x_not rfl (ev (t := 14) rfl rfl)) ?_
 refine wpList_nil ?_
 refine nx ?_
 rcases Bool.eq_false_or_eq_true ((!r1718)) with hb1721 | hb1721
 ·
  replace he := bifT he hb1721
  refine c_true rfl (p := (!r1718)) rfl rfl hb1721 ?_
  refine wp_seq ?_
  refine wp_region_lit ?_
  refine s_val (v := (.agg #[v0x0, v0x1])) (won rfl) rfl rfl (x_loadN (vs := [v0x0, v0x1]) rfl tyN_28 (ev (t := 2) rfl rfl) (seg_cells (o' := 0) (j := 0) hm1720 (k := 4) rfl rfl rfl)) ?_
  refine s_val (v := (.agg #[(.int .i64 3), (.int .i64 0)])) (won rfl) rfl rfl (x_build (cells := [(.int .i64 3), (.int .i64 0)]) (zc := [.int .i64 0, .int .i64 0]) (sizes := [(0, 1), (1, 1)]) (ps := [(0, (.int .i64 3))]) rfl zt_35 rfl uf_35 ufz_35 (pmap_lit (pmap_cons rfl pmap_nil)) (fill_cons (cs := [(.int .i64 3)]) rfl rfl rfl fill_nil)) ?_
  refine s_exs (won rfl) rfl (e_store (vs := [v0x0, v0x1]) (o' := 0) (j := 0) rfl sz_28 (ev (t := 4) rfl rfl) (ev (t := 16) rfl rfl) rfl (one_cons (IsSl.one (H0x0).sl) (one_cons (IsSl.one (H0x1).sl) one_nil)) hm1720 (k := 2) rfl rfl rfl) ?_
  intro w1722 hm1723
  replace hm1723 : Mem w0 w1722 (cat [sg g1703 35 (0, 0) [] [(.int .i64 0), (.int .i64 a1.Buffer)] [], sg g1699 35 (0, 0) [] [(.int .i64 0), (.int .i64 0)] [], sg g1695 28 (0, 0) [] [v0x0, v0x1] [], sg g1689 39 (0, 0) [] [(.int .i64 a1.Kind), (.int .i64 a1.Owner), (.int .i64 a1.To), (.int .i64 a1.Buffer)] [], sg g1685 28 (0, 0) [] [v0x0, v0x1] [], hF]) := hm1723
  refine s_exs (won rfl) rfl (e_store (vs := [(.int .i64 3), (.int .i64 0)]) (o' := 0) (j := 0) rfl sz_35 (ev (t := 5) rfl rfl) (ev (t := 17) rfl rfl) rfl rfl hm1723 (k := 1) rfl rfl rfl) ?_
  intro w1724 hm1725
  replace hm1725 : Mem w0 w1724 (cat [sg g1703 35 (0, 0) [] [(.int .i64 0), (.int .i64 a1.Buffer)] [], sg g1699 35 (0, 0) [] [(.int .i64 3), (.int .i64 0)] [], sg g1695 28 (0, 0) [] [v0x0, v0x1] [], sg g1689 39 (0, 0) [] [(.int .i64 a1.Kind), (.int .i64 a1.Owner), (.int .i64 a1.To), (.int .i64 a1.Buffer)] [], sg g1685 28 (0, 0) [] [v0x0, v0x1] [], hF]) := hm1725
  refine wpList_nil ?_
  have hm1726 : Mem w0 w1724 (cat [sg g1699 35 (0, 0) [] [(.int .i64 3), (.int .i64 0)] [], sg g1695 28 (0, 0) [] [v0x0, v0x1] [], hF]) := Mem.pick [1, 2, 5] rfl hm1725
  refine nx ?_
  refine wp_ret ?_
  refine xr ?_
  obtain rfl := Option.some.inj he
  refine r_ret (v := (.tuple #[(.agg #[v0x0, v0x1]), (.agg #[(.int .i64 3), (.int .i64 0)])])) (rv_list rfl rfl (RVs.cell (cs := [v0x0, v0x1]) rfl rfl tyN_28 (seg_cells (o' := 0) (j := 0) hm1726 (k := 1) rfl rfl rfl) (RVs.cell (cs := [(.int .i64 3), (.int .i64 0)]) rfl rfl tyN_35 (seg_cells (o' := 0) (j := 0) hm1726 (k := 0) rfl rfl rfl) RVs.nil))) rfl ?_
  exact ⟨v0x0, v0x1, (cat []), rfl, (H0x0.mono (Sub.at_ (k := 0) rfl)), (H0x1.mono (Sub.at_ (k := 0) rfl)), Mem.zgrp [] [] _ (Mem.pick [2] rfl hm1726)⟩
 ·
  replace he := bifF he hb1721
  refine c_false rfl (p := (!r1718)) rfl rfl hb1721 ?_
  refine wp_skip ?_
  refine nx ?_
  refine wp_seq ?_
  refine wp_seq ?_
  obtain ⟨r1760, hr1760, he⟩ := bindE he
  obtain ⟨r1763, hr1763, he⟩ := bindE he
  refine wp_region_lit ?_
  refine s_val (v := (.pointer (some ⟨g1689, 1, none⟩))) (won rfl) rfl rfl (x_field rfl fa_39x1 (ev (t := 3) rfl rfl)) ?_
  refine s_val (v := (.int .i64 a1.Owner)) (won rfl) rfl rfl (x_load rfl ty1x3 (ev (t := 18) rfl rfl) (seg_cell (o' := 0) (j := 1) hm1720 (k := 3) rfl rfl rfl)) ?_
  refine s_call (won rfl) rfl rfl (x_call rfl rfl cl_87 (map_lit (map_cons (ev (t := 19) rfl rfl) (map_cons rfl (map_cons rfl map_nil))))) (spec_l01In_ok (hR := (cat [])) (hF := cat [sg g1703 35 (0, 0) [] [(.int .i64 0), (.int .i64 a1.Buffer)] [], sg g1699 35 (0, 0) [] [(.int .i64 0), (.int .i64 0)] [], sg g1695 28 (0, 0) [] [(.slice none 0 0), (.slice none 0 0)] [], sg g1689 39 (0, 0) [] [(.int .i64 a1.Kind), (.int .i64 a1.Owner), (.int .i64 a1.To), (.int .i64 a1.Buffer)] [], sg g1685 28 (0, 0) [] [v0x0, v0x1] [], hF]) a1.Owner 0 5  (Mem.one hm1720) hr1760) ?_
  rintro e w1761 ⟨rfl, hm1762⟩
  refine ⟨_, rfl, ?_⟩
  replace hm1762 : Mem w0 w1761 (cat [sg g1703 35 (0, 0) [] [(.int .i64 0), (.int .i64 a1.Buffer)] [], sg g1699 35 (0, 0) [] [(.int .i64 0), (.int .i64 0)] [], sg g1695 28 (0, 0) [] [(.slice none 0 0), (.slice none 0 0)] [], sg g1689 39 (0, 0) [] [(.int .i64 a1.Kind), (.int .i64 a1.Owner), (.int .i64 a1.To), (.int .i64 a1.Buffer)] [], sg g1685 28 (0, 0) [] [v0x0, v0x1] [], hF]) := Mem.un hm1762
  refine s_val (v := (.bool (!r1760))) (won rfl) rfl rfl (x_not rfl (ev (t := 20) rfl rfl)) ?_
  refine s_val (v := (.bool (!r1760))) (won rfl) rfl rfl (x_move rfl (ev (t := 21) rfl rfl)) ?_
  refine s_cval (p := (!(!r1760))) (v := (.pointer (some ⟨g1689, 0, none⟩))) (won_f (j := 4) (t := 22) (q := (!r1760)) rfl rfl rfl rfl rfl) rfl rfl (fun hp => (x_field rfl fa_39x0 (ev (t := 3) rfl rfl))) ?_
  refine s_cval (p := (!(!r1760))) (v := (.int .i64 a1.Kind)) (won_f (j := 4) (t := 22) (q := (!r1760)) rfl rfl rfl rfl rfl) rfl rfl (fun hp => (x_load rfl ty1x3 (ev (t := 23) rfl (Eq.trans (b := cv (!(!r1760)) (.pointer (some ⟨g1689, 0, none⟩))) rfl (on_c hp))) (seg_cell (o' := 0) (j := 0) hm1762 (k := 3) rfl rfl rfl))) ?_
  refine s_cval (p := (!(!r1760))) (v := (.bool (decide (a1.Kind = 2)))) (won_f (j := 4) (t := 22) (q := (!r1760)) rfl rfl rfl rfl rfl) rfl rfl (fun hp => (x_eql rfl (ev (t := 24) rfl (Eq.trans (b := cv (!(!r1760)) (.int .i64 a1.Kind)) rfl (on_c hp))) rfl)) ?_
  refine s_cval (p := (!(!r1760))) (v := (.bool (decide (a1.Kind = 2)))) (won_f (j := 4) (t := 22) (q := (!r1760)) rfl rfl rfl rfl rfl) rfl rfl (fun hp => (x_move rfl (ev (t := 25) rfl (Eq.trans (b := cv (!(!r1760)) (.bool (decide (a1.Kind = 2)))) rfl (on_c hp))))) ?_
  refine s_cval (p := ((!(!r1760)) && (decide (a1.Kind = 2)))) (v := (.pointer (some ⟨g1689, 2, none⟩))) (won_ct (j := 8) (t := 26) (p := (!(!r1760))) (q := (decide (a1.Kind = 2))) rfl rfl rfl rfl rfl) rfl rfl (fun hp => (x_field rfl fa_39x2 (ev (t := 3) rfl rfl))) ?_
  refine s_cval (p := ((!(!r1760)) && (decide (a1.Kind = 2)))) (v := (.int .i64 a1.To)) (won_ct (j := 8) (t := 26) (p := (!(!r1760))) (q := (decide (a1.Kind = 2))) rfl rfl rfl rfl rfl) rfl rfl (fun hp => (x_load rfl ty1x3 (ev (t := 27) rfl (Eq.trans (b := cv ((!(!r1760)) && (decide (a1.Kind = 2))) (.pointer (some ⟨g1689, 2, none⟩))) rfl (on_c hp))) (seg_cell (o' := 0) (j := 2) hm1762 (k := 3) rfl rfl rfl))) ?_
  refine s_ccall (p := ((!(!r1760)) && (decide (a1.Kind = 2)))) (v := (.bool r1763)) (J := fun w' => Mem w0 w' (cat [sg g1703 35 (0, 0) [] [(.int .i64 0), (.int .i64 a1.Buffer)] [], sg g1699 35 (0, 0) [] [(.int .i64 0), (.int .i64 0)] [], sg g1695 28 (0, 0) [] [(.slice none 0 0), (.slice none 0 0)] [], sg g1689 39 (0, 0) [] [(.int .i64 a1.Kind), (.int .i64 a1.Owner), (.int .i64 a1.To), (.int .i64 a1.Buffer)] [], sg g1685 28 (0, 0) [] [v0x0, v0x1] [], hF])) (won_ct (j := 8) (t := 26) (p := (!(!r1760))) (q := (decide (a1.Kind = 2))) rfl rfl rfl rfl rfl) rfl rfl (fun hp => (x_call rfl rfl cl_87 (map_lit (map_cons (ev (t := 28) rfl (Eq.trans (b := cv ((!(!r1760)) && (decide (a1.Kind = 2))) (.int .i64 a1.To)) rfl (on_c hp))) (map_cons rfl (map_cons rfl map_nil)))))) (fun hp => ((spec_l01In_ok (hR := (cat [])) (hF := cat [sg g1703 35 (0, 0) [] [(.int .i64 0), (.int .i64 a1.Buffer)] [], sg g1699 35 (0, 0) [] [(.int .i64 0), (.int .i64 0)] [], sg g1695 28 (0, 0) [] [(.slice none 0 0), (.slice none 0 0)] [], sg g1689 39 (0, 0) [] [(.int .i64 a1.Kind), (.int .i64 a1.Owner), (.int .i64 a1.To), (.int .i64 a1.Buffer)] [], sg g1685 28 (0, 0) [] [v0x0, v0x1] [], hF]) a1.To 0 5  (Mem.one hm1762) (bifT hr1763 hp))).mono fun e w2 h => ⟨h.1, Mem.un h.2⟩) hm1762 ?_
  intro w1764 hm1765
  refine s_cval (p := ((!(!r1760)) && (decide (a1.Kind = 2)))) (v := (.bool (!r1763))) (won_ct (j := 8) (t := 26) (p := (!(!r1760))) (q := (decide (a1.Kind = 2))) rfl rfl rfl rfl rfl) rfl rfl (fun hp => (x_not rfl (ev (t := 29) rfl (Eq.trans (b := cv ((!(!r1760)) && (decide (a1.Kind = 2))) (.bool r1763)) rfl (on_c hp))))) ?_
  refine s_cval (p := (!(!r1760))) (v := (.bool ((decide (a1.Kind = 2)) && (!r1763)))) (won_f (j := 4) (t := 22) (q := (!r1760)) rfl rfl rfl rfl rfl) rfl rfl (fun hp => (x_pick_and rfl (ev (t := 26) rfl (Eq.trans (b := cv (!(!r1760)) (.bool (decide (a1.Kind = 2)))) rfl (on_c hp))) (fun hq => ev rfl (Eq.trans (b := cv ((!(!r1760)) && (decide (a1.Kind = 2))) (.bool (!r1763))) rfl (on_c (and_i hp hq)))) rfl)) ?_
  refine s_val (v := (.bool ((!r1760) || ((decide (a1.Kind = 2)) && (!r1763))))) (won rfl) rfl rfl (x_pick_or rfl (ev (t := 22) rfl rfl) rfl (fun hq => ev rfl (Eq.trans (b := cv (!(!r1760)) (.bool ((decide (a1.Kind = 2)) && (!r1763)))) rfl (on_c (not_i hq))))) ?_
  refine wpList_nil ?_
  refine nx ?_
  rcases Bool.eq_false_or_eq_true (((!r1760) || ((decide (a1.Kind = 2)) && (!r1763)))) with hb1766 | hb1766
  ·
   replace he := bifT he hb1766
   refine c_true rfl (p := ((!r1760) || ((decide (a1.Kind = 2)) && (!r1763)))) rfl rfl hb1766 ?_
   refine wp_seq ?_
   refine wp_region_lit ?_
   refine s_val (v := (.pointer (some ⟨g1703, 0, none⟩))) (won rfl) rfl rfl (x_field rfl fa_35x0 (ev (t := 6) rfl rfl)) ?_
   refine s_exs (won rfl) rfl (e_store (vs := [(.int .i64 4)]) (o' := 0) (j := 0) rfl sz_3 (ev (t := 33) rfl rfl) rfl rfl rfl hm1765 (k := 0) rfl rfl rfl) ?_
   intro w1767 hm1768
   replace hm1768 : Mem w0 w1767 (cat [sg g1703 35 (0, 0) [] [(.int .i64 4), (.int .i64 a1.Buffer)] [], sg g1699 35 (0, 0) [] [(.int .i64 0), (.int .i64 0)] [], sg g1695 28 (0, 0) [] [(.slice none 0 0), (.slice none 0 0)] [], sg g1689 39 (0, 0) [] [(.int .i64 a1.Kind), (.int .i64 a1.Owner), (.int .i64 a1.To), (.int .i64 a1.Buffer)] [], sg g1685 28 (0, 0) [] [v0x0, v0x1] [], hF]) := hm1768
   refine wpList_nil ?_
   refine nx ?_
   obtain ⟨s1778, hT1780, hk1779⟩ := bindE he
   replace he := hT1780
   refine wp_seqJ (fun a w => ∃ (f : Nat → Value), a = fr 145 f ∧ f 2 = (.pointer (some ⟨g1685, 0, none⟩)) ∧ f 4 = (.pointer (some ⟨g1695, 0, none⟩)) ∧ f 5 = (.pointer (some ⟨g1699, 0, none⟩)) ∧ f 6 = (.pointer (some ⟨g1703, 0, none⟩)) ∧ Mem w0 w (cat [sg g1685 28 (0, 0) [] [v0x0, v0x1] [], sg g1695 28 (0, 0) [] [(.slice none 0 0), (.slice none 0 0)] [], sg g1699 35 (0, 0) [] [(.int .i64 0), (.int .i64 0)] [], sg g1703 35 (0, 0) [] [(.int .i64 4), (.int .i64 s1778)] [], hF])) ?_ ?_
   ·
    refine wp_seq ?_
    refine wp_region_lit ?_
    refine s_val (v := (.pointer (some ⟨g1689, 0, none⟩))) (won rfl) rfl rfl (x_field rfl fa_39x0 (ev (t := 3) rfl rfl)) ?_
    refine s_val (v := (.int .i64 a1.Kind)) (won rfl) rfl rfl (x_load rfl ty1x3 (ev (t := 34) rfl rfl) (seg_cell (o' := 0) (j := 0) hm1768 (k := 3) rfl rfl rfl)) ?_
    refine s_val (v := (.bool (decide (a1.Kind = 1)))) (won rfl) rfl rfl (x_eql rfl (ev (t := 35) rfl rfl) rfl) ?_
    refine s_val (v := (.bool (decide (a1.Kind = 1)))) (won rfl) rfl rfl (x_move rfl (ev (t := 36) rfl rfl)) ?_
    refine s_cval (p := (!(decide (a1.Kind = 1)))) (v := (.pointer (some ⟨g1689, 0, none⟩))) (won_f (j := 3) (t := 37) (q := (decide (a1.Kind = 1))) rfl rfl rfl rfl rfl) rfl rfl (fun hp => (x_field rfl fa_39x0 (ev (t := 3) rfl rfl))) ?_
    refine s_cval (p := (!(decide (a1.Kind = 1)))) (v := (.int .i64 a1.Kind)) (won_f (j := 3) (t := 37) (q := (decide (a1.Kind = 1))) rfl rfl rfl rfl rfl) rfl rfl (fun hp => (x_load rfl ty1x3 (ev (t := 38) rfl (Eq.trans (b := cv (!(decide (a1.Kind = 1))) (.pointer (some ⟨g1689, 0, none⟩))) rfl (on_c hp))) (seg_cell (o' := 0) (j := 0) hm1768 (k := 3) rfl rfl rfl))) ?_
    refine s_cval (p := (!(decide (a1.Kind = 1)))) (v := (.bool (decide (a1.Kind = 4)))) (won_f (j := 3) (t := 37) (q := (decide (a1.Kind = 1))) rfl rfl rfl rfl rfl) rfl rfl (fun hp => (x_eql rfl (ev (t := 39) rfl (Eq.trans (b := cv (!(decide (a1.Kind = 1))) (.int .i64 a1.Kind)) rfl (on_c hp))) rfl)) ?_
    refine s_val (v := (.bool ((decide (a1.Kind = 1)) || (decide (a1.Kind = 4))))) (won rfl) rfl rfl (x_pick_or rfl (ev (t := 37) rfl rfl) rfl (fun hq => ev rfl (Eq.trans (b := cv (!(decide (a1.Kind = 1))) (.bool (decide (a1.Kind = 4)))) rfl (on_c (not_i hq))))) ?_
    refine wpList_nil ?_
    have hm1781 : Mem w0 w1767 (cat [sg g1703 35 (0, 0) [] [(.int .i64 4), (.int .i64 a1.Buffer)] [], sg g1699 35 (0, 0) [] [(.int .i64 0), (.int .i64 0)] [], sg g1695 28 (0, 0) [] [(.slice none 0 0), (.slice none 0 0)] [], sg g1685 28 (0, 0) [] [v0x0, v0x1] [], hF]) := Mem.pick [0, 1, 2, 4, 5] rfl hm1768
    refine nx ?_
    rcases Bool.eq_false_or_eq_true (((decide (a1.Kind = 1)) || (decide (a1.Kind = 4)))) with hb1782 | hb1782
    ·
     replace he := bifT he hb1782
     refine c_true rfl (p := ((decide (a1.Kind = 1)) || (decide (a1.Kind = 4)))) rfl rfl hb1782 ?_
     refine wp_region_lit ?_
     refine s_val (v := (.pointer (some ⟨g1703, 1, none⟩))) (won rfl) rfl rfl (x_field rfl fa_35x1 (ev (t := 6) rfl rfl)) ?_
     refine s_exs (won rfl) rfl (e_store (vs := [(.int .i64 0)]) (o' := 0) (j := 1) rfl sz_3 (ev (t := 42) rfl rfl) rfl rfl rfl hm1781 (k := 0) rfl rfl rfl) ?_
     intro w1783 hm1784
     replace hm1784 : Mem w0 w1783 (cat [sg g1703 35 (0, 0) [] [(.int .i64 4), (.int .i64 0)] [], sg g1699 35 (0, 0) [] [(.int .i64 0), (.int .i64 0)] [], sg g1695 28 (0, 0) [] [(.slice none 0 0), (.slice none 0 0)] [], sg g1685 28 (0, 0) [] [v0x0, v0x1] [], hF]) := hm1784
     refine wpList_nil ?_
     refine nx ?_
     obtain rfl := Option.some.inj he
     exact ⟨_, rfl, rfl, rfl, rfl, rfl, Mem.pick [3, 2, 1, 0, 4] rfl hm1784⟩
    ·
     replace he := bifF he hb1782
     refine c_false rfl (p := ((decide (a1.Kind = 1)) || (decide (a1.Kind = 4)))) rfl rfl hb1782 ?_
     refine wp_skip ?_
     refine nx ?_
     obtain rfl := Option.some.inj he
     exact ⟨_, rfl, rfl, rfl, rfl, rfl, Mem.pick [3, 2, 1, 0, 4] rfl hm1781⟩
   ·
    rintro a w ⟨f, rfl, q1773, q1774, q1775, q1777, hm1786⟩
    replace he := hk1779
    refine wp_seq ?_
    refine wp_fit [(0, 1), (1, 0), (2, 2), (3, 2)] (fun w' => Mem w0 w' (cat [sg g1685 28 (0, 0) [] [v0x0, v0x1] [], sg g1703 35 (0, 0) [] [(.int .i64 4), (.int .i64 s1778)] [], hF])) mixed (by kernel_rfl) (Mem.drew (Mem.pick [0, 3, 4] rfl hm1786)) ?_
    have hm1787 := Mem.drew hm1786
    refine z_r (v := (.agg #[v0x0, v0x1])) rfl (won rfl) rfl rfl ((x_loadN (vs := [v0x0, v0x1]) rfl tyN_28 (ev (t := 2) (v := (.pointer (some ⟨g1685, 0, none⟩))) rfl q1773) (seg_cells (o' := 0) (j := 0) hm1787 (k := 0) rfl rfl rfl))) ?_
    refine z_q (v := (.agg #[(.int .i64 4), (.int .i64 s1778)])) rfl (won rfl) rfl rfl (fun wq hq => (x_loadN (vs := [(.int .i64 4), (.int .i64 s1778)]) rfl tyN_35 (ev (t := 6) (v := (.pointer (some ⟨g1703, 0, none⟩))) rfl q1777) (seg_cells (o' := 0) (j := 0) hq (k := 1) rfl rfl rfl))) ?_
    refine z_exs rfl (won rfl) rfl (e_store (vs := [v0x0, v0x1]) (o' := 0) (j := 0) rfl sz_28 (ev (t := 4) (v := (.pointer (some ⟨g1695, 0, none⟩))) rfl q1774) (ev (t := 43) rfl rfl) rfl (one_cons (IsSl.one (H0x0).sl) (one_cons (IsSl.one (H0x1).sl) one_nil)) hm1787 (k := 1) rfl rfl rfl) ?_
    intro w1788 hm1789
    replace hm1789 : Mem w0 w1788 (cat [sg g1685 28 (0, 0) [] [v0x0, v0x1] [], sg g1695 28 (0, 0) [] [v0x0, v0x1] [], sg g1699 35 (0, 0) [] [(.int .i64 0), (.int .i64 0)] [], sg g1703 35 (0, 0) [] [(.int .i64 4), (.int .i64 s1778)] [], hF]) := hm1789
    refine ⟨Mem.pick [0, 3, 4] rfl hm1789, ?_⟩
    refine z_exs rfl (won rfl) rfl (e_store (vs := [(.int .i64 4), (.int .i64 s1778)]) (o' := 0) (j := 0) rfl sz_35 (ev (t := 5) (v := (.pointer (some ⟨g1699, 0, none⟩))) rfl q1775) (ev (t := 44) rfl rfl) rfl rfl hm1789 (k := 2) rfl rfl rfl) ?_
    intro w1790 hm1791
    replace hm1791 : Mem w0 w1790 (cat [sg g1685 28 (0, 0) [] [v0x0, v0x1] [], sg g1695 28 (0, 0) [] [v0x0, v0x1] [], sg g1699 35 (0, 0) [] [(.int .i64 4), (.int .i64 s1778)] [], sg g1703 35 (0, 0) [] [(.int .i64 4), (.int .i64 s1778)] [], hF]) := hm1791
    refine ⟨Mem.pick [0, 3, 4] rfl hm1791, ?_⟩
    refine z_nil ?_
    have hm1792 : Mem w0 w1790 (cat [sg g1695 28 (0, 0) [] [v0x0, v0x1] [], sg g1699 35 (0, 0) [] [(.int .i64 4), (.int .i64 s1778)] [], hF]) := Mem.pick [1, 2, 4] rfl hm1791
    refine nx ?_
    refine wp_ret ?_
    refine xr ?_
    obtain rfl := Option.some.inj he
    refine r_ret (v := (.tuple #[(.agg #[v0x0, v0x1]), (.agg #[(.int .i64 4), (.int .i64 s1778)])])) (rv_list rfl rfl (RVs.cell (cs := [v0x0, v0x1]) rfl q1774 tyN_28 (seg_cells (o' := 0) (j := 0) hm1792 (k := 0) rfl rfl rfl) (RVs.cell (cs := [(.int .i64 4), (.int .i64 s1778)]) rfl q1775 tyN_35 (seg_cells (o' := 0) (j := 0) hm1792 (k := 1) rfl rfl rfl) RVs.nil))) rfl ?_
    exact ⟨v0x0, v0x1, (cat []), rfl, (H0x0.mono (Sub.at_ (k := 0) rfl)), (H0x1.mono (Sub.at_ (k := 0) rfl)), Mem.zgrp [] [] _ (Mem.pick [2] rfl hm1792)⟩
  ·
   replace he := bifF he hb1766
   refine c_false rfl (p := ((!r1760) || ((decide (a1.Kind = 2)) && (!r1763)))) rfl rfl hb1766 ?_
   refine wp_skip ?_
   refine nx ?_
   refine wp_seq ?_
   obtain ⟨r1793, hr1793, he⟩ := bindE he
   refine wp_region_lit ?_
   refine s_val (v := (.agg #[v0x0, v0x1])) (won rfl) rfl rfl (x_loadN (vs := [v0x0, v0x1]) rfl tyN_28 (ev (t := 2) rfl rfl) (seg_cells (o' := 0) (j := 0) hm1765 (k := 4) rfl rfl rfl)) ?_
   refine s_call (won rfl) rfl rfl (x_call rfl rfl cl_62 (map_lit (map_cons (ev (t := 45) rfl rfl) map_nil))) (spec_l12Own_ok (hR := (cat [hR])) (hF := cat [sg g1703 35 (0, 0) [] [(.int .i64 0), (.int .i64 a1.Buffer)] [], sg g1699 35 (0, 0) [] [(.int .i64 0), (.int .i64 0)] [], sg g1695 28 (0, 0) [] [(.slice none 0 0), (.slice none 0 0)] [], sg g1689 39 (0, 0) [] [(.int .i64 a1.Kind), (.int .i64 a1.Owner), (.int .i64 a1.To), (.int .i64 a1.Buffer)] [], sg g1685 28 (0, 0) [] [v0x0, v0x1] [], hF]) a0 (H0x0.mono (Sub.at_ (k := 0) rfl)) (H0x1.mono (Sub.at_ (k := 0) rfl)) (subc (Sub.trans hs (Sub.at_ (k := 5) rfl)) subn) (Mem.one hm1765) hr1793) ?_
   rintro e w1802 ⟨v1795, h1797, v1799, h1801, rfl, H1796, H1800, hm1803⟩
   refine ⟨_, rfl, ?_⟩
   replace hm1803 : Mem w0 w1802 (cat [h1797, h1801, sg g1703 35 (0, 0) [] [(.int .i64 0), (.int .i64 a1.Buffer)] [], sg g1699 35 (0, 0) [] [(.int .i64 0), (.int .i64 0)] [], sg g1695 28 (0, 0) [] [(.slice none 0 0), (.slice none 0 0)] [], sg g1689 39 (0, 0) [] [(.int .i64 a1.Kind), (.int .i64 a1.Owner), (.int .i64 a1.To), (.int .i64 a1.Buffer)] [], sg g1685 28 (0, 0) [] [v0x0, v0x1] [], hF]) := Mem.ung [h1797, h1801] [sg g1703 35 (0, 0) [] [(.int .i64 0), (.int .i64 a1.Buffer)] [], sg g1699 35 (0, 0) [] [(.int .i64 0), (.int .i64 0)] [], sg g1695 28 (0, 0) [] [(.slice none 0 0), (.slice none 0 0)] [], sg g1689 39 (0, 0) [] [(.int .i64 a1.Kind), (.int .i64 a1.Owner), (.int .i64 a1.To), (.int .i64 a1.Buffer)] [], sg g1685 28 (0, 0) [] [v0x0, v0x1] [], hF] hm1803
   refine s_exv (won rfl) rfl rfl (e_alloc (vs := [(.slice none 0 0), (.slice none 0 0)]) rfl zt_28 rfl hm1803) ?_
   rintro g1806 w1807 hm1808
   refine s_exs (won rfl) rfl (e_store (vs := [v1795, v1799]) (o' := 0) (j := 0) rfl sz_28 (ev (t := 7) rfl rfl) (ev (t := 46) rfl rfl) rfl (one_cons (IsSl.one (H1796).sl) (one_cons (IsSl.one (H1800).sl) one_nil)) hm1808 (k := 0) rfl rfl rfl) ?_
   intro w1810 hm1811
   replace hm1811 : Mem w0 w1810 (cat [sg g1806 28 (0, 0) [] [v1795, v1799] [], h1797, h1801, sg g1703 35 (0, 0) [] [(.int .i64 0), (.int .i64 a1.Buffer)] [], sg g1699 35 (0, 0) [] [(.int .i64 0), (.int .i64 0)] [], sg g1695 28 (0, 0) [] [(.slice none 0 0), (.slice none 0 0)] [], sg g1689 39 (0, 0) [] [(.int .i64 a1.Kind), (.int .i64 a1.Owner), (.int .i64 a1.To), (.int .i64 a1.Buffer)] [], sg g1685 28 (0, 0) [] [v0x0, v0x1] [], hF]) := hm1811
   refine wpList_nil ?_
   refine nx ?_
   obtain ⟨l2540, hT2542, hk2541⟩ := bindE he
   replace he := hT2542
   refine wp_seqJ (fun a w => ∃ (s2539 : (Unit)) (f : Nat → Value), l2540 = Fl.go s2539 ∧ a = fr 145 f ∧ f 2 = (.pointer (some ⟨g1685, 0, none⟩)) ∧ f 3 = (.pointer (some ⟨g1689, 0, none⟩)) ∧ f 4 = (.pointer (some ⟨g1695, 0, none⟩)) ∧ f 5 = (.pointer (some ⟨g1699, 0, none⟩)) ∧ f 6 = (.pointer (some ⟨g1703, 0, none⟩)) ∧ f 7 = (.pointer (some ⟨g1806, 0, none⟩)) ∧ Mem w0 w (cat [sg g1685 28 (0, 0) [] [v0x0, v0x1] [], sg g1689 39 (0, 0) [] [(.int .i64 a1.Kind), (.int .i64 a1.Owner), (.int .i64 a1.To), (.int .i64 a1.Buffer)] [], sg g1695 28 (0, 0) [] [(.slice none 0 0), (.slice none 0 0)] [], sg g1699 35 (0, 0) [] [(.int .i64 0), (.int .i64 0)] [], sg g1703 35 (0, 0) [] [(.int .i64 0), (.int .i64 a1.Buffer)] [], sg g1806 28 (0, 0) [] [v1795, v1799] [], h1797, h1801, hF])) ?_ ?_
   ·
    refine wp_seq ?_
    refine wp_region_lit ?_
    refine s_val (v := (.pointer (some ⟨g1689, 0, none⟩))) (won rfl) rfl rfl (x_field rfl fa_39x0 (ev (t := 3) rfl rfl)) ?_
    refine s_val (v := (.int .i64 a1.Kind)) (won rfl) rfl rfl (x_load rfl ty1x3 (ev (t := 47) rfl rfl) (seg_cell (o' := 0) (j := 0) hm1811 (k := 6) rfl rfl rfl)) ?_
    refine wpList_nil ?_
    refine nx ?_
    refine wp_block ?_
    refine wp_seq ?_
    refine wp_region_lit ?_
    refine s_val (v := (.bool (decide (a1.Kind = 1)))) (won rfl) rfl rfl (x_eql rfl (ev (t := 48) rfl rfl) rfl) ?_
    refine s_val (v := (.bool (decide (a1.Kind = 1)))) (won rfl) rfl rfl (x_assign rfl (ev (t := 50) rfl rfl)) ?_
    refine wpList_nil ?_
    refine nx ?_
    rcases Bool.eq_false_or_eq_true ((decide (a1.Kind = 1))) with hb2543 | hb2543
    ·
     replace he := bifT he hb2543
     refine c_true rfl (p := (decide (a1.Kind = 1))) rfl rfl hb2543 ?_
     refine wp_seq ?_
     refine wp_seq ?_
     refine wp_region_lit ?_
     refine s_val (v := (.pointer (some ⟨g1685, 0, none⟩))) (won rfl) rfl rfl (x_field rfl fa_28x0 (ev (t := 2) rfl rfl)) ?_
     refine s_val (v := v0x0) (won rfl) rfl rfl (x_load rfl ty1x26 (ev (t := 51) rfl rfl) (seg_cell (o' := 0) (j := 0) hm1811 (k := 7) rfl rfl rfl)) ?_
     refine s_val (v := (.int .i64 (a0.Free.length : Int))) (won rfl) rfl rfl (x_len rfl slt_26 (ev (t := 52) rfl rfl) (H0x0).sl) ?_
     refine s_val (v := (.bool (decide ((a0.Free.length : Int) = 0)))) (won rfl) rfl rfl (x_eql rfl (ev (t := 53) rfl rfl) rfl) ?_
     refine wpList_nil ?_
     refine nx ?_
     rcases Bool.eq_false_or_eq_true ((decide ((a0.Free.length : Int) = 0))) with hb2550 | hb2550
     ·
      replace he := bifT he hb2550
      refine c_true rfl (p := (decide ((a0.Free.length : Int) = 0))) rfl rfl hb2550 ?_
      refine wp_seq ?_
      refine wp_region_lit ?_
      refine s_val (v := (.agg #[v0x0, v0x1])) (won rfl) rfl rfl (x_loadN (vs := [v0x0, v0x1]) rfl tyN_28 (ev (t := 2) rfl rfl) (seg_cells (o' := 0) (j := 0) hm1811 (k := 7) rfl rfl rfl)) ?_
      refine s_val (v := (.agg #[(.int .i64 7), (.int .i64 0)])) (won rfl) rfl rfl (x_build (cells := [(.int .i64 7), (.int .i64 0)]) (zc := [.int .i64 0, .int .i64 0]) (sizes := [(0, 1), (1, 1)]) (ps := [(0, (.int .i64 7))]) rfl zt_35 rfl uf_35 ufz_35 (pmap_lit (pmap_cons rfl pmap_nil)) (fill_cons (cs := [(.int .i64 7)]) rfl rfl rfl fill_nil)) ?_
      refine s_exs (won rfl) rfl (e_store (vs := [v0x0, v0x1]) (o' := 0) (j := 0) rfl sz_28 (ev (t := 4) rfl rfl) (ev (t := 55) rfl rfl) rfl (one_cons (IsSl.one (H0x0).sl) (one_cons (IsSl.one (H0x1).sl) one_nil)) hm1811 (k := 5) rfl rfl rfl) ?_
      intro w2551 hm2552
      replace hm2552 : Mem w0 w2551 (cat [sg g1806 28 (0, 0) [] [v1795, v1799] [], h1797, h1801, sg g1703 35 (0, 0) [] [(.int .i64 0), (.int .i64 a1.Buffer)] [], sg g1699 35 (0, 0) [] [(.int .i64 0), (.int .i64 0)] [], sg g1695 28 (0, 0) [] [v0x0, v0x1] [], sg g1689 39 (0, 0) [] [(.int .i64 a1.Kind), (.int .i64 a1.Owner), (.int .i64 a1.To), (.int .i64 a1.Buffer)] [], sg g1685 28 (0, 0) [] [v0x0, v0x1] [], hF]) := hm2552
      refine s_exs (won rfl) rfl (e_store (vs := [(.int .i64 7), (.int .i64 0)]) (o' := 0) (j := 0) rfl sz_35 (ev (t := 5) rfl rfl) (ev (t := 56) rfl rfl) rfl rfl hm2552 (k := 4) rfl rfl rfl) ?_
      intro w2553 hm2554
      replace hm2554 : Mem w0 w2553 (cat [sg g1806 28 (0, 0) [] [v1795, v1799] [], h1797, h1801, sg g1703 35 (0, 0) [] [(.int .i64 0), (.int .i64 a1.Buffer)] [], sg g1699 35 (0, 0) [] [(.int .i64 7), (.int .i64 0)] [], sg g1695 28 (0, 0) [] [v0x0, v0x1] [], sg g1689 39 (0, 0) [] [(.int .i64 a1.Kind), (.int .i64 a1.Owner), (.int .i64 a1.To), (.int .i64 a1.Buffer)] [], sg g1685 28 (0, 0) [] [v0x0, v0x1] [], hF]) := hm2554
      refine wpList_nil ?_
      have hm2555 : Mem w0 w2553 (cat [sg g1699 35 (0, 0) [] [(.int .i64 7), (.int .i64 0)] [], sg g1695 28 (0, 0) [] [v0x0, v0x1] [], hF]) := Mem.pick [4, 5, 8] rfl hm2554
      refine nx ?_
      refine wp_ret ?_
      refine xr ?_
      refine rb ?_
      refine xr ?_
      obtain rfl := Option.some.inj he
      replace he := outE hk2541
      obtain rfl := Option.some.inj he
      refine r_ret (v := (.tuple #[(.agg #[v0x0, v0x1]), (.agg #[(.int .i64 7), (.int .i64 0)])])) (rv_list rfl rfl (RVs.cell (cs := [v0x0, v0x1]) rfl rfl tyN_28 (seg_cells (o' := 0) (j := 0) hm2555 (k := 1) rfl rfl rfl) (RVs.cell (cs := [(.int .i64 7), (.int .i64 0)]) rfl rfl tyN_35 (seg_cells (o' := 0) (j := 0) hm2555 (k := 0) rfl rfl rfl) RVs.nil))) rfl ?_
      exact ⟨v0x0, v0x1, (cat []), rfl, (H0x0.mono (Sub.at_ (k := 0) rfl)), (H0x1.mono (Sub.at_ (k := 0) rfl)), Mem.zgrp [] [] _ (Mem.pick [2] rfl hm2555)⟩
     ·
      replace he := bifF he hb2550
      refine c_false rfl (p := (decide ((a0.Free.length : Int) = 0))) rfl rfl hb2550 ?_
      refine wp_skip ?_
      refine nx ?_
      refine wp_seq ?_
      obtain ⟨hg2556, he⟩ := gdE he
      refine wp_region_lit ?_
      refine s_val (v := (.pointer (some ⟨g1685, 0, none⟩))) (won rfl) rfl rfl (x_field rfl fa_28x0 (ev (t := 2) rfl rfl)) ?_
      refine s_val (v := v0x0) (won rfl) rfl rfl (x_load rfl ty1x26 (ev (t := 57) rfl rfl) (seg_cell (o' := 0) (j := 0) hm1811 (k := 7) rfl rfl rfl)) ?_
      refine s_val (v := (.pointer (some ((slA v0x0).add (Int.toNat 0 * 1))))) (won rfl) rfl rfl (x_index (d := (FK.int .i64)) rfl slt_26 (ev (t := 58) rfl rfl) rfl H0x0 hg2556.1 hg2556.2) ?_
      refine s_val (v := (.int .i64 (ix a0.Free 0))) (won rfl) rfl rfl (x_load rfl ty1x3 (ev (t := 59) rfl rfl) (RdF.cell0 H0x0 hm1811 (Sub.trans hs (Sub.at_ (k := 8) rfl)) hg2556.1 hg2556.2 rfl)) ?_
      refine s_val (v := (.pointer (some ⟨g1703, 1, none⟩))) (won rfl) rfl rfl (x_field rfl fa_35x1 (ev (t := 6) rfl rfl)) ?_
      refine s_exs (won rfl) rfl (e_store (vs := [(.int .i64 (ix a0.Free 0))]) (o' := 0) (j := 1) rfl sz_3 (ev (t := 61) rfl rfl) (ev (t := 60) rfl rfl) rfl rfl hm1811 (k := 3) rfl rfl rfl) ?_
      intro w2557 hm2558
      replace hm2558 : Mem w0 w2557 (cat [sg g1806 28 (0, 0) [] [v1795, v1799] [], h1797, h1801, sg g1703 35 (0, 0) [] [(.int .i64 0), (.int .i64 (ix a0.Free 0))] [], sg g1699 35 (0, 0) [] [(.int .i64 0), (.int .i64 0)] [], sg g1695 28 (0, 0) [] [(.slice none 0 0), (.slice none 0 0)] [], sg g1689 39 (0, 0) [] [(.int .i64 a1.Kind), (.int .i64 a1.Owner), (.int .i64 a1.To), (.int .i64 a1.Buffer)] [], sg g1685 28 (0, 0) [] [v0x0, v0x1] [], hF]) := hm2558
      refine wpList_nil ?_
      refine nx ?_
      refine wp_seq ?_
      obtain ⟨hg2564, he⟩ := gdE he
      obtain ⟨hg2566, he⟩ := gdE he
      refine wp_region_lit ?_
      refine s_exv (won rfl) rfl rfl (e_litp (cells := []) (ps := []) rfl slt_26 (pmap_lit pmap_nil) (fun w1 => run_bslice0 slt_26) hm2558) ?_
      rintro g2561 w2559 hm2560
      have H2562 : OwF 3 (FK.int .i64) (.slice (some ⟨g2561, 0, none⟩) 0 0) ([] : List Int) (sg g2561 3 (0, 0) [] (encs (FK.int .i64) ([] : List Int)) []) := OwF.lit g2561 ([] : List Int) 0 rfl (by decide)
      replace hm2560 : Mem w0 w2559 (cat [(sg g2561 3 (0, 0) [] (encs (FK.int .i64) ([] : List Int)) []), sg g1806 28 (0, 0) [] [v1795, v1799] [], h1797, h1801, sg g1703 35 (0, 0) [] [(.int .i64 0), (.int .i64 (ix a0.Free 0))] [], sg g1699 35 (0, 0) [] [(.int .i64 0), (.int .i64 0)] [], sg g1695 28 (0, 0) [] [(.slice none 0 0), (.slice none 0 0)] [], sg g1689 39 (0, 0) [] [(.int .i64 a1.Kind), (.int .i64 a1.Owner), (.int .i64 a1.To), (.int .i64 a1.Buffer)] [], sg g1685 28 (0, 0) [] [v0x0, v0x1] [], hF]) := hm2560
      refine s_val (v := (.pointer (some ⟨g1685, 0, none⟩))) (won rfl) rfl rfl (x_field rfl fa_28x0 (ev (t := 2) rfl rfl)) ?_
      refine s_val (v := v0x0) (won rfl) rfl rfl (x_load rfl ty1x26 (ev (t := 63) rfl rfl) (seg_cell (o' := 0) (j := 0) hm2560 (k := 8) rfl rfl rfl)) ?_
      refine s_val (v := (cutV v0x0 (Int.toNat 1) a0.Free.length 1)) (won rfl) rfl rfl (y_slice_l rfl slt_26 (ev (t := 64) rfl rfl) rfl (H0x0).sl hg2564.1 hg2564.2) ?_
      refine s_exv (won rfl) rfl rfl (e_append (bytes := 8) rfl slt_26 rfl (ev (t := 62) rfl rfl) (ev (t := 65) rfl rfl) H2562 (k := 0) rfl (cutV_rd (a := (Int.toNat 1)) (b := a0.Free.length) H0x0 (by have := hg2564; omega) (Nat.le_refl _)) (Sub.trans hs (Sub.at_ (k := 9) rfl)) hm2560 hg2566 (len63 hg2566 rfl)) ?_
      rintro p2568 w2570 ⟨H2569, hm2571⟩
      replace hm2571 : Mem w0 w2570 (cat [p2568.2, sg g1806 28 (0, 0) [] [v1795, v1799] [], h1797, h1801, sg g1703 35 (0, 0) [] [(.int .i64 0), (.int .i64 (ix a0.Free 0))] [], sg g1699 35 (0, 0) [] [(.int .i64 0), (.int .i64 0)] [], sg g1695 28 (0, 0) [] [(.slice none 0 0), (.slice none 0 0)] [], sg g1689 39 (0, 0) [] [(.int .i64 a1.Kind), (.int .i64 a1.Owner), (.int .i64 a1.To), (.int .i64 a1.Buffer)] [], sg g1685 28 (0, 0) [] [v0x0, v0x1] [], hF]) := hm2571
      refine s_val (v := (.pointer (some ⟨g1806, 0, none⟩))) (won rfl) rfl rfl (x_field rfl fa_28x0 (ev (t := 7) rfl rfl)) ?_
      refine s_exs (won rfl) rfl (e_store (vs := [p2568.1]) (o' := 0) (j := 0) rfl sz_26 (ev (t := 67) rfl rfl) (ev (t := 66) rfl rfl) (IsSl.cells (H2569).sl) (one_cons (IsSl.one (H2569).sl) one_nil) hm2571 (k := 1) rfl rfl rfl) ?_
      intro w2572 hm2573
      replace hm2573 : Mem w0 w2572 (cat [p2568.2, sg g1806 28 (0, 0) [] [p2568.1, v1799] [], h1797, h1801, sg g1703 35 (0, 0) [] [(.int .i64 0), (.int .i64 (ix a0.Free 0))] [], sg g1699 35 (0, 0) [] [(.int .i64 0), (.int .i64 0)] [], sg g1695 28 (0, 0) [] [(.slice none 0 0), (.slice none 0 0)] [], sg g1689 39 (0, 0) [] [(.int .i64 a1.Kind), (.int .i64 a1.Owner), (.int .i64 a1.To), (.int .i64 a1.Buffer)] [], sg g1685 28 (0, 0) [] [v0x0, v0x1] [], hF]) := hm2573
      refine wpList_nil ?_
      have hm2574 : Mem w0 w2572 (cat [p2568.2, sg g1806 28 (0, 0) [] [p2568.1, v1799] [], h1801, sg g1703 35 (0, 0) [] [(.int .i64 0), (.int .i64 (ix a0.Free 0))] [], sg g1699 35 (0, 0) [] [(.int .i64 0), (.int .i64 0)] [], sg g1695 28 (0, 0) [] [(.slice none 0 0), (.slice none 0 0)] [], sg g1689 39 (0, 0) [] [(.int .i64 a1.Kind), (.int .i64 a1.Owner), (.int .i64 a1.To), (.int .i64 a1.Buffer)] [], hF]) := Mem.pick [0, 1, 3, 4, 5, 6, 7, 9] rfl hm2573
      refine nx ?_
      refine wp_seq ?_
      obtain ⟨hg2575, he⟩ := gdE he
      refine wp_region_lit ?_
      refine s_val (v := (.pointer (some ⟨g1806, 1, none⟩))) (won rfl) rfl rfl (x_field rfl fa_28x1 (ev (t := 7) rfl rfl)) ?_
      refine s_val (v := v1799) (won rfl) rfl rfl (x_load rfl ty1x26 (ev (t := 68) rfl rfl) (seg_cell (o' := 0) (j := 1) hm2574 (k := 1) rfl rfl rfl)) ?_
      refine s_val (v := (.pointer (some ⟨g1703, 1, none⟩))) (won rfl) rfl rfl (x_field rfl fa_35x1 (ev (t := 6) rfl rfl)) ?_
      refine s_val (v := (.int .i64 (ix a0.Free 0))) (won rfl) rfl rfl (x_load rfl ty1x3 (ev (t := 70) rfl rfl) (seg_cell (o' := 0) (j := 1) hm2574 (k := 3) rfl rfl rfl)) ?_
      refine s_val (v := (.pointer (some ⟨g1689, 1, none⟩))) (won rfl) rfl rfl (x_field rfl fa_39x1 (ev (t := 3) rfl rfl)) ?_
      refine s_val (v := (.int .i64 a1.Owner)) (won rfl) rfl rfl (x_load rfl ty1x3 (ev (t := 72) rfl rfl) (seg_cell (o' := 0) (j := 1) hm2574 (k := 6) rfl rfl rfl)) ?_
      refine s_val (v := (.pointer (some ((slA v1799).add (Int.toNat (ix a0.Free 0) * 1))))) (won rfl) rfl rfl (x_index (d := (FK.int .i64)) rfl slt_26 (ev (t := 69) rfl rfl) (ev (t := 71) rfl rfl) (H1800.rd w0) hg2575.1 hg2575.2) ?_
      refine s_exw (won rfl) rfl (e_storeF (d := (FK.int .i64)) (s := a1.Owner) (vs := [(.int .i64 a1.Owner)]) (j := 0) rfl sz_3 (ev (t := 74) rfl rfl) (add_0 _).symm (ev (t := 73) rfl rfl) rfl rfl H1800 hg2575.1 hg2575.2 rfl rfl hm2574 (k := 2) rfl) ?_
      rintro h2576 w2578 ⟨H2577, hm2579⟩
      replace hm2579 : Mem w0 w2578 (cat [p2568.2, sg g1806 28 (0, 0) [] [p2568.1, v1799] [], h2576, sg g1703 35 (0, 0) [] [(.int .i64 0), (.int .i64 (ix a0.Free 0))] [], sg g1699 35 (0, 0) [] [(.int .i64 0), (.int .i64 0)] [], sg g1695 28 (0, 0) [] [(.slice none 0 0), (.slice none 0 0)] [], sg g1689 39 (0, 0) [] [(.int .i64 a1.Kind), (.int .i64 a1.Owner), (.int .i64 a1.To), (.int .i64 a1.Buffer)] [], hF]) := hm2579
      refine wpList_nil ?_
      have hm2580 : Mem w0 w2578 (cat [p2568.2, sg g1806 28 (0, 0) [] [p2568.1, v1799] [], h2576, sg g1703 35 (0, 0) [] [(.int .i64 0), (.int .i64 (ix a0.Free 0))] [], sg g1699 35 (0, 0) [] [(.int .i64 0), (.int .i64 0)] [], sg g1695 28 (0, 0) [] [(.slice none 0 0), (.slice none 0 0)] [], hF]) := Mem.pick [0, 1, 2, 3, 4, 5, 7] rfl hm2579
      refine nx ?_
      refine wp_seq ?_
      refine wp_fit [(0, 1), (1, 0), (2, 2), (3, 2)] (fun w' => Mem w0 w' (cat [p2568.2, sg g1806 28 (0, 0) [] [p2568.1, v1799] [], h2576, sg g1703 35 (0, 0) [] [(.int .i64 0), (.int .i64 (ix a0.Free 0))] [], hF])) mixed (by kernel_rfl) (Mem.drew (Mem.pick [0, 1, 2, 3, 6] rfl hm2580)) ?_
      have hm2581 := Mem.drew hm2580
      refine z_r (v := (.agg #[p2568.1, v1799])) rfl (won rfl) rfl rfl ((x_loadN (vs := [p2568.1, v1799]) rfl tyN_28 (ev (t := 7) rfl rfl) (seg_cells (o' := 0) (j := 0) hm2581 (k := 1) rfl rfl rfl))) ?_
      refine z_q (v := (.agg #[(.int .i64 0), (.int .i64 (ix a0.Free 0))])) rfl (won rfl) rfl rfl (fun wq hq => (x_loadN (vs := [(.int .i64 0), (.int .i64 (ix a0.Free 0))]) rfl tyN_35 (ev (t := 6) rfl rfl) (seg_cells (o' := 0) (j := 0) hq (k := 3) rfl rfl rfl))) ?_
      refine z_exs rfl (won rfl) rfl (e_store (vs := [p2568.1, v1799]) (o' := 0) (j := 0) rfl sz_28 (ev (t := 4) rfl rfl) (ev (t := 75) rfl rfl) rfl (one_cons (IsSl.one (H2569).sl) (one_cons (IsSl.one (H2577).sl) one_nil)) hm2581 (k := 5) rfl rfl rfl) ?_
      intro w2582 hm2583
      replace hm2583 : Mem w0 w2582 (cat [p2568.2, sg g1806 28 (0, 0) [] [p2568.1, v1799] [], h2576, sg g1703 35 (0, 0) [] [(.int .i64 0), (.int .i64 (ix a0.Free 0))] [], sg g1699 35 (0, 0) [] [(.int .i64 0), (.int .i64 0)] [], sg g1695 28 (0, 0) [] [p2568.1, v1799] [], hF]) := hm2583
      refine ⟨Mem.pick [0, 1, 2, 3, 6] rfl hm2583, ?_⟩
      refine z_exs rfl (won rfl) rfl (e_store (vs := [(.int .i64 0), (.int .i64 (ix a0.Free 0))]) (o' := 0) (j := 0) rfl sz_35 (ev (t := 5) rfl rfl) (ev (t := 76) rfl rfl) rfl rfl hm2583 (k := 4) rfl rfl rfl) ?_
      intro w2584 hm2585
      replace hm2585 : Mem w0 w2584 (cat [p2568.2, sg g1806 28 (0, 0) [] [p2568.1, v1799] [], h2576, sg g1703 35 (0, 0) [] [(.int .i64 0), (.int .i64 (ix a0.Free 0))] [], sg g1699 35 (0, 0) [] [(.int .i64 0), (.int .i64 (ix a0.Free 0))] [], sg g1695 28 (0, 0) [] [p2568.1, v1799] [], hF]) := hm2585
      refine ⟨Mem.pick [0, 1, 2, 3, 6] rfl hm2585, ?_⟩
      refine z_nil ?_
      have hm2586 : Mem w0 w2584 (cat [p2568.2, h2576, sg g1699 35 (0, 0) [] [(.int .i64 0), (.int .i64 (ix a0.Free 0))] [], sg g1695 28 (0, 0) [] [p2568.1, v1799] [], hF]) := Mem.pick [0, 2, 4, 5, 6] rfl hm2585
      refine nx ?_
      refine wp_ret ?_
      refine rb ?_
      refine xr ?_
      obtain rfl := Option.some.inj he
      replace he := outE hk2541
      obtain rfl := Option.some.inj he
      refine r_ret (v := (.tuple #[(.agg #[p2568.1, v1799]), (.agg #[(.int .i64 0), (.int .i64 (ix a0.Free 0))])])) (rv_list rfl rfl (RVs.cell (cs := [p2568.1, v1799]) rfl rfl tyN_28 (seg_cells (o' := 0) (j := 0) hm2586 (k := 3) rfl rfl rfl) (RVs.cell (cs := [(.int .i64 0), (.int .i64 (ix a0.Free 0))]) rfl rfl tyN_35 (seg_cells (o' := 0) (j := 0) hm2586 (k := 2) rfl rfl rfl) RVs.nil))) rfl ?_
      exact ⟨p2568.1, v1799, (cat [p2568.2, h2576]), rfl, ((H2569.rd w0).mono (Sub.trans (Sub.at_ (L := [p2568.2, h2576]) (k := 0) rfl) (Sub.at_ (k := 1) rfl))), ((H2577.rd w0).mono (Sub.trans (Sub.at_ (L := [p2568.2, h2576]) (k := 1) rfl) (Sub.at_ (k := 1) rfl))), Mem.zgrp [] [p2568.2, h2576] _ (Mem.pick [0, 1, 4] rfl hm2586)⟩
    ·
     replace he := bifF he hb2543
     refine c_false rfl (p := (decide (a1.Kind = 1))) rfl rfl hb2543 ?_
     refine wp_seq ?_
     refine wp_region_lit ?_
     refine s_val (v := (.bool (decide (a1.Kind = 4)))) (won rfl) rfl rfl (x_eql rfl (ev (t := 48) rfl rfl) rfl) ?_
     refine s_val (v := (.bool (decide (a1.Kind = 4)))) (won rfl) rfl rfl (x_assign rfl (ev (t := 78) rfl rfl)) ?_
     refine wpList_nil ?_
     refine nx ?_
     rcases Bool.eq_false_or_eq_true ((decide (a1.Kind = 4))) with hb2587 | hb2587
     ·
      replace he := bifT he hb2587
      refine c_true rfl (p := (decide (a1.Kind = 4))) rfl rfl hb2587 ?_
      refine wp_seq ?_
      refine wp_region_lit ?_
      refine s_val (v := (.pointer (some ⟨g1703, 1, none⟩))) (won rfl) rfl rfl (x_field rfl fa_35x1 (ev (t := 6) rfl rfl)) ?_
      refine s_exs (won rfl) rfl (e_store (vs := [(.int .i64 0)]) (o' := 0) (j := 1) rfl sz_3 (ev (t := 79) rfl rfl) rfl rfl rfl hm1811 (k := 3) rfl rfl rfl) ?_
      intro w2588 hm2589
      replace hm2589 : Mem w0 w2588 (cat [sg g1806 28 (0, 0) [] [v1795, v1799] [], h1797, h1801, sg g1703 35 (0, 0) [] [(.int .i64 0), (.int .i64 0)] [], sg g1699 35 (0, 0) [] [(.int .i64 0), (.int .i64 0)] [], sg g1695 28 (0, 0) [] [(.slice none 0 0), (.slice none 0 0)] [], sg g1689 39 (0, 0) [] [(.int .i64 a1.Kind), (.int .i64 a1.Owner), (.int .i64 a1.To), (.int .i64 a1.Buffer)] [], sg g1685 28 (0, 0) [] [v0x0, v0x1] [], hF]) := hm2589
      refine wpList_nil ?_
      have hm2590 : Mem w0 w2588 (cat [sg g1806 28 (0, 0) [] [v1795, v1799] [], h1797, h1801, sg g1703 35 (0, 0) [] [(.int .i64 0), (.int .i64 0)] [], sg g1699 35 (0, 0) [] [(.int .i64 0), (.int .i64 0)] [], sg g1695 28 (0, 0) [] [(.slice none 0 0), (.slice none 0 0)] [], sg g1689 39 (0, 0) [] [(.int .i64 a1.Kind), (.int .i64 a1.Owner), (.int .i64 a1.To), (.int .i64 a1.Buffer)] [], hF]) := Mem.pick [0, 1, 2, 3, 4, 5, 6, 8] rfl hm2589
      refine nx ?_
      obtain ⟨s2928, hT2930, hk2929⟩ := bindE he
      replace he := hT2930
      refine wp_seqJ (fun a w => ∃ (v2921 : Value) (h2922 : Hp) (h2925 : Hp) (f : Nat → Value), a = fr 145 f ∧ f 4 = (.pointer (some ⟨g1695, 0, none⟩)) ∧ f 5 = (.pointer (some ⟨g1699, 0, none⟩)) ∧ f 6 = (.pointer (some ⟨g1703, 0, none⟩)) ∧ f 7 = (.pointer (some ⟨g1806, 0, none⟩)) ∧ OwF 3 (FK.int .i64) v2921 s2928.2.1 h2922 ∧ OwF 3 (FK.int .i64) v1799 s2928.2.2 h2925 ∧ Mem w0 w (cat [sg g1695 28 (0, 0) [] [(.slice none 0 0), (.slice none 0 0)] [], sg g1699 35 (0, 0) [] [(.int .i64 0), (.int .i64 0)] [], sg g1703 35 (0, 0) [] [(.int .i64 0), (.int .i64 s2928.1)] [], sg g1806 28 (0, 0) [] [v2921, v1799] [], h2922, h2925, hF])) ?_ ?_
      ·
       refine wp_seq ?_
       refine wp_region_lit ?_
       refine s_val (v := (.int .i64 0)) (won rfl) rfl rfl (x_assign rfl rfl) ?_
       refine wpList_nil ?_
       refine nx ?_
       refine wp_block ?_
       refine wp_fuel (I := fun k => fun a w => ∃ (s3096 : Int) (s3098 : (List Int)) (s3102 : (List Int)) (s3106 : Int) (v3099 : Value) (h3100 : Hp) (h3103 : Hp) (f : Nat → Value), spec_l12Step_l1 F a1 k s3096 s3098 s3102 s3106 = some s2928 ∧ a = fr 145 f ∧ f 3 = (.pointer (some ⟨g1689, 0, none⟩)) ∧ f 4 = (.pointer (some ⟨g1695, 0, none⟩)) ∧ f 5 = (.pointer (some ⟨g1699, 0, none⟩)) ∧ f 6 = (.pointer (some ⟨g1703, 0, none⟩)) ∧ f 7 = (.pointer (some ⟨g1806, 0, none⟩)) ∧ f 8 = (.int .i64 s3106) ∧ OwF 3 (FK.int .i64) v3099 s3098 h3100 ∧ OwF 3 (FK.int .i64) v1799 s3102 h3103 ∧ Mem w0 w (cat [sg g1689 39 (0, 0) [] [(.int .i64 a1.Kind), (.int .i64 a1.Owner), (.int .i64 a1.To), (.int .i64 a1.Buffer)] [], sg g1695 28 (0, 0) [] [(.slice none 0 0), (.slice none 0 0)] [], sg g1699 35 (0, 0) [] [(.int .i64 0), (.int .i64 0)] [], sg g1703 35 (0, 0) [] [(.int .i64 0), (.int .i64 s3096)] [], sg g1806 28 (0, 0) [] [v3099, v1799] [], h3100, h3103, hF])) F _ _ ⟨0, r1793.Free, r1793.Owner, 0, v1795, h1797, h1801, _, he, rfl, rfl, rfl, rfl, rfl, rfl, rfl, H1796, H1800, Mem.pick [6, 5, 4, 3, 0, 1, 2, 7] rfl hm2590⟩ ?_ ?_
       ·
        rintro a w ⟨s3096, s3098, s3102, s3106, v3099, h3100, h3103, f, he, rfl, q3093, q3094, q3095, q3097, q3105, q3107, H3101, H3104, hm3181⟩
        rw [spec_l12Step_l1] at he; exact none_no he
       ·
        rintro k a w ⟨s3096, s3098, s3102, s3106, v3099, h3100, h3103, f, he, rfl, q3093, q3094, q3095, q3097, q3105, q3107, H3101, H3104, hm3183⟩
        rw [spec_l12Step_l1] at he
        refine wp_seq ?_
        refine wp_seq ?_
        refine wp_region_lit ?_
        refine s_val (v := (.int .i64 s3106)) (won rfl) rfl rfl (x_move rfl (ev (t := 8) (v := (.int .i64 s3106)) rfl q3107)) ?_
        refine s_val (v := (.pointer (some ⟨g1806, 1, none⟩))) (won rfl) rfl rfl (x_field rfl fa_28x1 (ev (t := 7) (v := (.pointer (some ⟨g1806, 0, none⟩))) rfl q3105)) ?_
        refine s_val (v := v1799) (won rfl) rfl rfl (x_load rfl ty1x26 (ev (t := 81) rfl rfl) (seg_cell (o' := 0) (j := 1) hm3183 (k := 4) rfl rfl rfl)) ?_
        refine s_val (v := (.int .i64 (s3102.length : Int))) (won rfl) rfl rfl (x_len rfl slt_26 (ev (t := 82) rfl rfl) (H3104).sl) ?_
        refine s_val (v := (.bool (decide (s3106 < (s3102.length : Int))))) (won rfl) rfl rfl (x_lss rfl (ev (t := 80) rfl rfl) (ev (t := 83) rfl rfl)) ?_
        refine wpList_nil ?_
        refine nx ?_
        rcases Bool.eq_false_or_eq_true ((decide (s3106 < (s3102.length : Int)))) with hb3185 | hb3185
        ·
         replace he := bifT he hb3185
         refine c_true rfl (p := (decide (s3106 < (s3102.length : Int)))) rfl rfl hb3185 ?_
         refine wp_skip ?_
         refine nx ?_
         obtain ⟨s3226, hT3228, hk3227⟩ := bindE he
         replace he := hT3228
         refine wp_seqJ (fun a w => ∃ (v3218 : Value) (h3219 : Hp) (h3222 : Hp) (f : Nat → Value), a = fr 145 f ∧ f 3 = (.pointer (some ⟨g1689, 0, none⟩)) ∧ f 4 = (.pointer (some ⟨g1695, 0, none⟩)) ∧ f 5 = (.pointer (some ⟨g1699, 0, none⟩)) ∧ f 6 = (.pointer (some ⟨g1703, 0, none⟩)) ∧ f 7 = (.pointer (some ⟨g1806, 0, none⟩)) ∧ f 8 = (.int .i64 s3106) ∧ OwF 3 (FK.int .i64) v3218 s3226.2.1 h3219 ∧ OwF 3 (FK.int .i64) v1799 s3226.2.2 h3222 ∧ Mem w0 w (cat [sg g1689 39 (0, 0) [] [(.int .i64 a1.Kind), (.int .i64 a1.Owner), (.int .i64 a1.To), (.int .i64 a1.Buffer)] [], sg g1695 28 (0, 0) [] [(.slice none 0 0), (.slice none 0 0)] [], sg g1699 35 (0, 0) [] [(.int .i64 0), (.int .i64 0)] [], sg g1703 35 (0, 0) [] [(.int .i64 0), (.int .i64 s3226.1)] [], sg g1806 28 (0, 0) [] [v3218, v1799] [], h3219, h3222, hF])) ?_ ?_
         ·
          refine wp_block ?_
          refine wp_seq ?_
          obtain ⟨hg3229, he⟩ := gdE he
          refine wp_qregion (cat [sg g1689 39 (0, 0) [] [(.int .i64 a1.Kind), (.int .i64 a1.Owner), (.int .i64 a1.To), (.int .i64 a1.Buffer)] [], sg g1695 28 (0, 0) [] [(.slice none 0 0), (.slice none 0 0)] [], sg g1699 35 (0, 0) [] [(.int .i64 0), (.int .i64 0)] [], sg g1703 35 (0, 0) [] [(.int .i64 0), (.int .i64 s3096)] [], sg g1806 28 (0, 0) [] [v3099, v1799] [], h3100, h3103, hF]) mixed (by kernel_rfl) hm3183 ?_
          refine q_val (v := (.pointer (some ⟨g1806, 1, none⟩))) (won rfl) rfl rfl (fun wq hq => (x_field rfl fa_28x1 (ev (t := 7) (v := (.pointer (some ⟨g1806, 0, none⟩))) rfl q3105))) ?_
          refine q_val (v := v1799) (won rfl) rfl rfl (fun wq hq => (x_load rfl ty1x26 (ev (t := 87) rfl rfl) (seg_cell (o' := 0) (j := 1) hq (k := 4) rfl rfl rfl))) ?_
          refine q_val (v := (.int .i64 s3106)) (won rfl) rfl rfl (fun wq hq => (x_move rfl (ev (t := 8) (v := (.int .i64 s3106)) rfl q3107))) ?_
          refine q_val (v := (.pointer (some ((slA v1799).add (Int.toNat s3106 * 1))))) (won rfl) rfl rfl (fun wq hq => (x_index (d := (FK.int .i64)) rfl slt_26 (ev (t := 88) rfl rfl) (ev (t := 89) rfl rfl) (H3104.rd w0) hg3229.1 hg3229.2)) ?_
          refine q_val (v := (.int .i64 (ix s3102 s3106))) (won rfl) rfl rfl (fun wq hq => (x_load rfl ty1x3 (ev (t := 90) rfl rfl) (RdF.cell0 (H3104.rd w0) hq (Sub.at_ (k := 6) rfl) hg3229.1 hg3229.2 rfl))) ?_
          refine q_val (v := (.pointer (some ⟨g1689, 1, none⟩))) (won rfl) rfl rfl (fun wq hq => (x_field rfl fa_39x1 (ev (t := 3) (v := (.pointer (some ⟨g1689, 0, none⟩))) rfl q3093))) ?_
          refine q_val (v := (.int .i64 a1.Owner)) (won rfl) rfl rfl (fun wq hq => (x_load rfl ty1x3 (ev (t := 92) rfl rfl) (seg_cell (o' := 0) (j := 1) hq (k := 0) rfl rfl rfl))) ?_
          refine q_val (v := (.bool (decide ((ix s3102 s3106) = a1.Owner)))) (won rfl) rfl rfl (fun wq hq => (x_eql rfl (ev (t := 91) rfl rfl) (ev (t := 93) rfl rfl))) ?_
          refine wpQuiet_nil ?_
          intro w3230 hm3231
          refine nx ?_
          rcases Bool.eq_false_or_eq_true ((decide ((ix s3102 s3106) = a1.Owner))) with hb3232 | hb3232
          ·
           replace he := bifT he hb3232
           refine c_true rfl (p := (decide ((ix s3102 s3106) = a1.Owner))) rfl rfl hb3232 ?_
           refine wp_seq ?_
           obtain ⟨hg3233, he⟩ := gdE he
           refine wp_region_lit ?_
           refine s_val (v := (.pointer (some ⟨g1806, 1, none⟩))) (won rfl) rfl rfl (x_field rfl fa_28x1 (ev (t := 7) (v := (.pointer (some ⟨g1806, 0, none⟩))) rfl q3105)) ?_
           refine s_val (v := v1799) (won rfl) rfl rfl (x_load rfl ty1x26 (ev (t := 95) rfl rfl) (seg_cell (o' := 0) (j := 1) hm3231 (k := 4) rfl rfl rfl)) ?_
           refine s_val (v := (.int .i64 s3106)) (won rfl) rfl rfl (x_move rfl (ev (t := 8) (v := (.int .i64 s3106)) rfl q3107)) ?_
           refine s_val (v := (.pointer (some ((slA v1799).add (Int.toNat s3106 * 1))))) (won rfl) rfl rfl (x_index (d := (FK.int .i64)) rfl slt_26 (ev (t := 96) rfl rfl) (ev (t := 97) rfl rfl) (H3104.rd w0) hg3233.1 hg3233.2) ?_
           refine s_exw (won rfl) rfl (e_storeF (d := (FK.int .i64)) (s := (-1)) (vs := [(.int .i64 (-1))]) (j := 0) rfl sz_3 (ev (t := 98) rfl rfl) (add_0 _).symm rfl rfl rfl H3104 hg3233.1 hg3233.2 rfl rfl hm3231 (k := 6) rfl) ?_
           rintro h3234 w3236 ⟨H3235, hm3237⟩
           replace hm3237 : Mem w0 w3236 (cat [sg g1689 39 (0, 0) [] [(.int .i64 a1.Kind), (.int .i64 a1.Owner), (.int .i64 a1.To), (.int .i64 a1.Buffer)] [], sg g1695 28 (0, 0) [] [(.slice none 0 0), (.slice none 0 0)] [], sg g1699 35 (0, 0) [] [(.int .i64 0), (.int .i64 0)] [], sg g1703 35 (0, 0) [] [(.int .i64 0), (.int .i64 s3096)] [], sg g1806 28 (0, 0) [] [v3099, v1799] [], h3100, h3234, hF]) := hm3237
           refine wpList_nil ?_
           refine nx ?_
           refine wp_seq ?_
           obtain ⟨hg3243, he⟩ := gdE he
           refine wp_region_lit ?_
           refine s_val (v := (.pointer (some ⟨g1806, 0, none⟩))) (won rfl) rfl rfl (x_field rfl fa_28x0 (ev (t := 7) (v := (.pointer (some ⟨g1806, 0, none⟩))) rfl q3105)) ?_
           refine s_val (v := v3099) (won rfl) rfl rfl (x_load rfl ty1x26 (ev (t := 99) rfl rfl) (seg_cell (o' := 0) (j := 0) hm3237 (k := 4) rfl rfl rfl)) ?_
           refine s_val (v := (.int .i64 s3106)) (won rfl) rfl rfl (x_move rfl (ev (t := 8) (v := (.int .i64 s3106)) rfl q3107)) ?_
           refine s_exv (won rfl) rfl rfl (e_litp (cells := [(.int .i64 s3106)]) (ps := [(0, (.int .i64 s3106))]) rfl slt_26 (pmap_lit (pmap_cons (ev (t := 101) rfl rfl) pmap_nil)) (fun w1 => run_bslicez (cells := [(.int .i64 s3106)]) (zs := [.int .i64 0]) (zc := [.int .i64 0]) slt_26 rfl rfl (by kernel_rfl) (fill_cons (cs := [(.int .i64 s3106)]) rfl rfl rfl fill_nil) (by decide)) hm3237) ?_
           rintro g3240 w3238 hm3239
           have H3241 : OwF 3 (FK.int .i64) (.slice (some ⟨g3240, 0, none⟩) 1 1) ([s3106] : List Int) (sg g3240 3 (0, 0) [] (encs (FK.int .i64) ([s3106] : List Int)) []) := OwF.lit g3240 ([s3106] : List Int) 1 rfl (by decide)
           replace hm3239 : Mem w0 w3238 (cat [(sg g3240 3 (0, 0) [] (encs (FK.int .i64) ([s3106] : List Int)) []), sg g1689 39 (0, 0) [] [(.int .i64 a1.Kind), (.int .i64 a1.Owner), (.int .i64 a1.To), (.int .i64 a1.Buffer)] [], sg g1695 28 (0, 0) [] [(.slice none 0 0), (.slice none 0 0)] [], sg g1699 35 (0, 0) [] [(.int .i64 0), (.int .i64 0)] [], sg g1703 35 (0, 0) [] [(.int .i64 0), (.int .i64 s3096)] [], sg g1806 28 (0, 0) [] [v3099, v1799] [], h3100, h3234, hF]) := hm3239
           refine s_exv (won rfl) rfl rfl (e_append (bytes := 8) rfl slt_26 rfl (ev (t := 100) rfl rfl) (ev (t := 102) rfl rfl) H3101 (k := 6) rfl (H3241.rd w0) (Sub.at_ (k := 0) rfl) hm3239 hg3243 (len63 hg3243 rfl)) ?_
           rintro p3245 w3247 ⟨H3246, hm3248⟩
           replace hm3248 : Mem w0 w3247 (cat [(sg g3240 3 (0, 0) [] (encs (FK.int .i64) ([s3106] : List Int)) []), sg g1689 39 (0, 0) [] [(.int .i64 a1.Kind), (.int .i64 a1.Owner), (.int .i64 a1.To), (.int .i64 a1.Buffer)] [], sg g1695 28 (0, 0) [] [(.slice none 0 0), (.slice none 0 0)] [], sg g1699 35 (0, 0) [] [(.int .i64 0), (.int .i64 0)] [], sg g1703 35 (0, 0) [] [(.int .i64 0), (.int .i64 s3096)] [], sg g1806 28 (0, 0) [] [v3099, v1799] [], p3245.2, h3234, hF]) := hm3248
           refine s_val (v := (.pointer (some ⟨g1806, 0, none⟩))) (won rfl) rfl rfl (x_field rfl fa_28x0 (ev (t := 7) (v := (.pointer (some ⟨g1806, 0, none⟩))) rfl q3105)) ?_
           refine s_exs (won rfl) rfl (e_store (vs := [p3245.1]) (o' := 0) (j := 0) rfl sz_26 (ev (t := 104) rfl rfl) (ev (t := 103) rfl rfl) (IsSl.cells (H3246).sl) (one_cons (IsSl.one (H3246).sl) one_nil) hm3248 (k := 5) rfl rfl rfl) ?_
           intro w3249 hm3250
           replace hm3250 : Mem w0 w3249 (cat [(sg g3240 3 (0, 0) [] (encs (FK.int .i64) ([s3106] : List Int)) []), sg g1689 39 (0, 0) [] [(.int .i64 a1.Kind), (.int .i64 a1.Owner), (.int .i64 a1.To), (.int .i64 a1.Buffer)] [], sg g1695 28 (0, 0) [] [(.slice none 0 0), (.slice none 0 0)] [], sg g1699 35 (0, 0) [] [(.int .i64 0), (.int .i64 0)] [], sg g1703 35 (0, 0) [] [(.int .i64 0), (.int .i64 s3096)] [], sg g1806 28 (0, 0) [] [p3245.1, v1799] [], p3245.2, h3234, hF]) := hm3250
           refine wpList_nil ?_
           have hm3251 : Mem w0 w3249 (cat [sg g1689 39 (0, 0) [] [(.int .i64 a1.Kind), (.int .i64 a1.Owner), (.int .i64 a1.To), (.int .i64 a1.Buffer)] [], sg g1695 28 (0, 0) [] [(.slice none 0 0), (.slice none 0 0)] [], sg g1699 35 (0, 0) [] [(.int .i64 0), (.int .i64 0)] [], sg g1703 35 (0, 0) [] [(.int .i64 0), (.int .i64 s3096)] [], sg g1806 28 (0, 0) [] [p3245.1, v1799] [], p3245.2, h3234, hF]) := Mem.pick [1, 2, 3, 4, 5, 6, 7, 8] rfl hm3250
           refine nx ?_
           refine wp_region_lit ?_
           refine s_val (v := (.pointer (some ⟨g1703, 1, none⟩))) (won rfl) rfl rfl (x_field rfl fa_35x1 (ev (t := 6) (v := (.pointer (some ⟨g1703, 0, none⟩))) rfl q3097)) ?_
           refine s_val (v := (.int .i64 s3096)) (won rfl) rfl rfl (x_load rfl ty1x3 (ev (t := 105) rfl rfl) (seg_cell (o' := 0) (j := 1) hm3251 (k := 3) rfl rfl rfl)) ?_
           refine s_val (v := (.int .i64 (IntKind.wrap .i64 (s3096 + 1)))) (won rfl) rfl rfl (x_add rfl (ev (t := 106) rfl rfl) rfl) ?_
           refine s_val (v := (.pointer (some ⟨g1703, 1, none⟩))) (won rfl) rfl rfl (x_field rfl fa_35x1 (ev (t := 6) (v := (.pointer (some ⟨g1703, 0, none⟩))) rfl q3097)) ?_
           refine s_exs (won rfl) rfl (e_store (vs := [(.int .i64 (IntKind.wrap .i64 (s3096 + 1)))]) (o' := 0) (j := 1) rfl sz_3 (ev (t := 108) rfl rfl) (ev (t := 107) rfl rfl) rfl rfl hm3251 (k := 3) rfl rfl rfl) ?_
           intro w3252 hm3253
           replace hm3253 : Mem w0 w3252 (cat [sg g1689 39 (0, 0) [] [(.int .i64 a1.Kind), (.int .i64 a1.Owner), (.int .i64 a1.To), (.int .i64 a1.Buffer)] [], sg g1695 28 (0, 0) [] [(.slice none 0 0), (.slice none 0 0)] [], sg g1699 35 (0, 0) [] [(.int .i64 0), (.int .i64 0)] [], sg g1703 35 (0, 0) [] [(.int .i64 0), (.int .i64 (IntKind.wrap .i64 (s3096 + 1)))] [], sg g1806 28 (0, 0) [] [p3245.1, v1799] [], p3245.2, h3234, hF]) := hm3253
           refine wpList_nil ?_
           refine nb ?_
           refine nx ?_
           obtain rfl := Option.some.inj he
           exact ⟨p3245.1, p3245.2, h3234, _, rfl, q3093, q3094, q3095, q3097, q3105, q3107, H3246, H3235, Mem.pick [0, 1, 2, 3, 4, 5, 6, 7] rfl hm3253⟩
          ·
           replace he := bifF he hb3232
           refine c_false rfl (p := (decide ((ix s3102 s3106) = a1.Owner))) rfl rfl hb3232 ?_
           refine wp_skip ?_
           refine nb ?_
           refine nx ?_
           obtain rfl := Option.some.inj he
           exact ⟨v3099, h3100, h3103, _, rfl, q3093, q3094, q3095, q3097, q3105, q3107, H3101, H3104, Mem.pick [0, 1, 2, 3, 4, 5, 6, 7] rfl hm3231⟩
         ·
          rintro a w ⟨v3218, h3219, h3222, f, rfl, q3211, q3212, q3213, q3215, q3224, q3225, H3220, H3223, hm3255⟩
          replace he := hk3227
          refine wp_region_lit ?_
          refine s_val (v := (.int .i64 s3106)) (won rfl) rfl rfl (x_move rfl (ev (t := 8) (v := (.int .i64 s3106)) rfl q3225)) ?_
          refine s_val (v := (.int .i64 (IntKind.wrap .i64 (s3106 + 1)))) (won rfl) rfl rfl (x_add rfl (ev (t := 85) rfl rfl) rfl) ?_
          refine s_val (v := (.int .i64 (IntKind.wrap .i64 (s3106 + 1)))) (won rfl) rfl rfl (x_assign rfl (ev (t := 86) rfl rfl)) ?_
          refine wpList_nil ?_
          refine nx ?_
          exact ⟨s3226.1, s3226.2.1, s3226.2.2, (IntKind.wrap .i64 (s3106 + 1)), v3218, h3219, h3222, _, he, rfl, q3211, q3212, q3213, q3215, q3224, rfl, H3220, H3223, Mem.pick [0, 1, 2, 3, 4, 5, 6, 7] rfl hm3255⟩
        ·
         replace he := bifF he hb3185
         refine c_false rfl (p := (decide (s3106 < (s3102.length : Int)))) rfl rfl hb3185 ?_
         refine wp_exit ?_
         refine xs ?_
         refine xs ?_
         refine xb ?_
         refine nx ?_
         obtain rfl := Option.some.inj he
         exact ⟨v3099, h3100, h3103, _, rfl, q3094, q3095, q3097, q3105, H3101, H3104, Mem.pick [1, 2, 3, 4, 5, 6, 7] rfl hm3183⟩
      ·
       rintro a w ⟨v2921, h2922, h2925, f, rfl, q2916, q2917, q2919, q2927, H2923, H2926, hm3257⟩
       replace he := hk2929
       refine wp_seq ?_
       refine wp_fit [(0, 1), (1, 0), (2, 2), (3, 2)] (fun w' => Mem w0 w' (cat [sg g1703 35 (0, 0) [] [(.int .i64 0), (.int .i64 s2928.1)] [], sg g1806 28 (0, 0) [] [v2921, v1799] [], h2922, h2925, hF])) mixed (by kernel_rfl) (Mem.drew (Mem.pick [2, 3, 4, 5, 6] rfl hm3257)) ?_
       have hm3258 := Mem.drew hm3257
       refine z_r (v := (.agg #[v2921, v1799])) rfl (won rfl) rfl rfl ((x_loadN (vs := [v2921, v1799]) rfl tyN_28 (ev (t := 7) (v := (.pointer (some ⟨g1806, 0, none⟩))) rfl q2927) (seg_cells (o' := 0) (j := 0) hm3258 (k := 3) rfl rfl rfl))) ?_
       refine z_q (v := (.agg #[(.int .i64 0), (.int .i64 s2928.1)])) rfl (won rfl) rfl rfl (fun wq hq => (x_loadN (vs := [(.int .i64 0), (.int .i64 s2928.1)]) rfl tyN_35 (ev (t := 6) (v := (.pointer (some ⟨g1703, 0, none⟩))) rfl q2919) (seg_cells (o' := 0) (j := 0) hq (k := 0) rfl rfl rfl))) ?_
       refine z_exs rfl (won rfl) rfl (e_store (vs := [v2921, v1799]) (o' := 0) (j := 0) rfl sz_28 (ev (t := 4) (v := (.pointer (some ⟨g1695, 0, none⟩))) rfl q2916) (ev (t := 109) rfl rfl) rfl (one_cons (IsSl.one (H2923).sl) (one_cons (IsSl.one (H2926).sl) one_nil)) hm3258 (k := 0) rfl rfl rfl) ?_
       intro w3259 hm3260
       replace hm3260 : Mem w0 w3259 (cat [sg g1695 28 (0, 0) [] [v2921, v1799] [], sg g1699 35 (0, 0) [] [(.int .i64 0), (.int .i64 0)] [], sg g1703 35 (0, 0) [] [(.int .i64 0), (.int .i64 s2928.1)] [], sg g1806 28 (0, 0) [] [v2921, v1799] [], h2922, h2925, hF]) := hm3260
       refine ⟨Mem.pick [2, 3, 4, 5, 6] rfl hm3260, ?_⟩
       refine z_exs rfl (won rfl) rfl (e_store (vs := [(.int .i64 0), (.int .i64 s2928.1)]) (o' := 0) (j := 0) rfl sz_35 (ev (t := 5) (v := (.pointer (some ⟨g1699, 0, none⟩))) rfl q2917) (ev (t := 110) rfl rfl) rfl rfl hm3260 (k := 1) rfl rfl rfl) ?_
       intro w3261 hm3262
       replace hm3262 : Mem w0 w3261 (cat [sg g1695 28 (0, 0) [] [v2921, v1799] [], sg g1699 35 (0, 0) [] [(.int .i64 0), (.int .i64 s2928.1)] [], sg g1703 35 (0, 0) [] [(.int .i64 0), (.int .i64 s2928.1)] [], sg g1806 28 (0, 0) [] [v2921, v1799] [], h2922, h2925, hF]) := hm3262
       refine ⟨Mem.pick [2, 3, 4, 5, 6] rfl hm3262, ?_⟩
       refine z_nil ?_
       have hm3263 : Mem w0 w3261 (cat [sg g1695 28 (0, 0) [] [v2921, v1799] [], sg g1699 35 (0, 0) [] [(.int .i64 0), (.int .i64 s2928.1)] [], h2922, h2925, hF]) := Mem.pick [0, 1, 4, 5, 6] rfl hm3262
       refine nx ?_
       refine wp_ret ?_
       refine rb ?_
       refine xr ?_
       obtain rfl := Option.some.inj he
       replace he := outE hk2541
       obtain rfl := Option.some.inj he
       refine r_ret (v := (.tuple #[(.agg #[v2921, v1799]), (.agg #[(.int .i64 0), (.int .i64 s2928.1)])])) (rv_list rfl rfl (RVs.cell (cs := [v2921, v1799]) rfl q2916 tyN_28 (seg_cells (o' := 0) (j := 0) hm3263 (k := 0) rfl rfl rfl) (RVs.cell (cs := [(.int .i64 0), (.int .i64 s2928.1)]) rfl q2917 tyN_35 (seg_cells (o' := 0) (j := 0) hm3263 (k := 1) rfl rfl rfl) RVs.nil))) rfl ?_
       exact ⟨v2921, v1799, (cat [h2922, h2925]), rfl, ((H2923.rd w0).mono (Sub.trans (Sub.at_ (L := [h2922, h2925]) (k := 0) rfl) (Sub.at_ (k := 1) rfl))), ((H2926.rd w0).mono (Sub.trans (Sub.at_ (L := [h2922, h2925]) (k := 1) rfl) (Sub.at_ (k := 1) rfl))), Mem.zgrp [] [h2922, h2925] _ (Mem.pick [2, 3, 4] rfl hm3263)⟩
     ·
      replace he := bifF he hb2587
      refine c_false rfl (p := (decide (a1.Kind = 4))) rfl rfl hb2587 ?_
      refine wp_skip ?_
      refine nb ?_
      refine nx ?_
      obtain rfl := Option.some.inj he
      exact ⟨(), _, rfl, rfl, rfl, rfl, rfl, rfl, rfl, rfl, Mem.pick [7, 6, 5, 4, 3, 0, 1, 2, 8] rfl hm1811⟩
   ·
    rintro a w ⟨s2539, f, rfl, rfl, q2533, q2534, q2535, q2536, q2537, q2538, hm3265⟩
    replace he := goE hk2541
    refine wp_seq ?_
    refine wp_seq ?_
    obtain ⟨r3279, hr3279, he⟩ := bindE he
    refine wp_region_lit ?_
    refine s_val (v := (.agg #[v0x0, v0x1])) (won rfl) rfl rfl (x_loadN (vs := [v0x0, v0x1]) rfl tyN_28 (ev (t := 2) (v := (.pointer (some ⟨g1685, 0, none⟩))) rfl q2533) (seg_cells (o' := 0) (j := 0) hm3265 (k := 0) rfl rfl rfl)) ?_
    refine s_val (v := (.pointer (some ⟨g1689, 1, none⟩))) (won rfl) rfl rfl (x_field rfl fa_39x1 (ev (t := 3) (v := (.pointer (some ⟨g1689, 0, none⟩))) rfl q2534)) ?_
    refine s_val (v := (.int .i64 a1.Owner)) (won rfl) rfl rfl (x_load rfl ty1x3 (ev (t := 112) rfl rfl) (seg_cell (o' := 0) (j := 1) hm3265 (k := 1) rfl rfl rfl)) ?_
    refine s_val (v := (.pointer (some ⟨g1689, 3, none⟩))) (won rfl) rfl rfl (x_field rfl fa_39x3 (ev (t := 3) (v := (.pointer (some ⟨g1689, 0, none⟩))) rfl q2534)) ?_
    refine s_val (v := (.int .i64 a1.Buffer)) (won rfl) rfl rfl (x_load rfl ty1x3 (ev (t := 114) rfl rfl) (seg_cell (o' := 0) (j := 3) hm3265 (k := 1) rfl rfl rfl)) ?_
    refine s_call (won rfl) rfl rfl (x_call rfl rfl cl_88 (map_lit (map_cons (ev (t := 111) rfl rfl) (map_cons (ev (t := 113) rfl rfl) (map_cons (ev (t := 115) rfl rfl) map_nil))))) (spec_l12Mine_ok (hR := (cat [hR])) (hF := cat [sg g1685 28 (0, 0) [] [v0x0, v0x1] [], sg g1689 39 (0, 0) [] [(.int .i64 a1.Kind), (.int .i64 a1.Owner), (.int .i64 a1.To), (.int .i64 a1.Buffer)] [], sg g1695 28 (0, 0) [] [(.slice none 0 0), (.slice none 0 0)] [], sg g1699 35 (0, 0) [] [(.int .i64 0), (.int .i64 0)] [], sg g1703 35 (0, 0) [] [(.int .i64 0), (.int .i64 a1.Buffer)] [], sg g1806 28 (0, 0) [] [v1795, v1799] [], h1797, h1801, hF]) a0 a1.Owner a1.Buffer (H0x0.mono (Sub.at_ (k := 0) rfl)) (H0x1.mono (Sub.at_ (k := 0) rfl)) (subc (Sub.trans hs (Sub.at_ (k := 8) rfl)) subn) (Mem.one hm3265) hr3279) ?_
    rintro e w3280 ⟨rfl, hm3281⟩
    refine ⟨_, rfl, ?_⟩
    replace hm3281 : Mem w0 w3280 (cat [sg g1685 28 (0, 0) [] [v0x0, v0x1] [], sg g1689 39 (0, 0) [] [(.int .i64 a1.Kind), (.int .i64 a1.Owner), (.int .i64 a1.To), (.int .i64 a1.Buffer)] [], sg g1695 28 (0, 0) [] [(.slice none 0 0), (.slice none 0 0)] [], sg g1699 35 (0, 0) [] [(.int .i64 0), (.int .i64 0)] [], sg g1703 35 (0, 0) [] [(.int .i64 0), (.int .i64 a1.Buffer)] [], sg g1806 28 (0, 0) [] [v1795, v1799] [], h1797, h1801, hF]) := Mem.un hm3281
    refine s_val (v := (.bool (!r3279))) (won rfl) rfl rfl (x_not rfl (ev (t := 116) rfl rfl)) ?_
    refine wpList_nil ?_
    refine nx ?_
    rcases Bool.eq_false_or_eq_true ((!r3279)) with hb3282 | hb3282
    ·
     replace he := bifT he hb3282
     refine c_true rfl (p := (!r3279)) rfl rfl hb3282 ?_
     refine wp_seq ?_
     refine wp_region_lit ?_
     refine s_val (v := (.pointer (some ⟨g1703, 0, none⟩))) (won rfl) rfl rfl (x_field rfl fa_35x0 (ev (t := 6) (v := (.pointer (some ⟨g1703, 0, none⟩))) rfl q2537)) ?_
     refine s_exs (won rfl) rfl (e_store (vs := [(.int .i64 5)]) (o' := 0) (j := 0) rfl sz_3 (ev (t := 118) rfl rfl) rfl rfl rfl hm3281 (k := 4) rfl rfl rfl) ?_
     intro w3283 hm3284
     replace hm3284 : Mem w0 w3283 (cat [sg g1685 28 (0, 0) [] [v0x0, v0x1] [], sg g1689 39 (0, 0) [] [(.int .i64 a1.Kind), (.int .i64 a1.Owner), (.int .i64 a1.To), (.int .i64 a1.Buffer)] [], sg g1695 28 (0, 0) [] [(.slice none 0 0), (.slice none 0 0)] [], sg g1699 35 (0, 0) [] [(.int .i64 0), (.int .i64 0)] [], sg g1703 35 (0, 0) [] [(.int .i64 5), (.int .i64 a1.Buffer)] [], sg g1806 28 (0, 0) [] [v1795, v1799] [], h1797, h1801, hF]) := hm3284
     refine wpList_nil ?_
     have hm3285 : Mem w0 w3283 (cat [sg g1685 28 (0, 0) [] [v0x0, v0x1] [], sg g1695 28 (0, 0) [] [(.slice none 0 0), (.slice none 0 0)] [], sg g1699 35 (0, 0) [] [(.int .i64 0), (.int .i64 0)] [], sg g1703 35 (0, 0) [] [(.int .i64 5), (.int .i64 a1.Buffer)] [], hF]) := Mem.pick [0, 2, 3, 4, 8] rfl hm3284
     refine nx ?_
     refine wp_seq ?_
     refine wp_fit [(0, 1), (1, 0), (2, 2), (3, 2)] (fun w' => Mem w0 w' (cat [sg g1685 28 (0, 0) [] [v0x0, v0x1] [], sg g1703 35 (0, 0) [] [(.int .i64 5), (.int .i64 a1.Buffer)] [], hF])) mixed (by kernel_rfl) (Mem.drew (Mem.pick [0, 3, 4] rfl hm3285)) ?_
     have hm3286 := Mem.drew hm3285
     refine z_r (v := (.agg #[v0x0, v0x1])) rfl (won rfl) rfl rfl ((x_loadN (vs := [v0x0, v0x1]) rfl tyN_28 (ev (t := 2) (v := (.pointer (some ⟨g1685, 0, none⟩))) rfl q2533) (seg_cells (o' := 0) (j := 0) hm3286 (k := 0) rfl rfl rfl))) ?_
     refine z_q (v := (.agg #[(.int .i64 5), (.int .i64 a1.Buffer)])) rfl (won rfl) rfl rfl (fun wq hq => (x_loadN (vs := [(.int .i64 5), (.int .i64 a1.Buffer)]) rfl tyN_35 (ev (t := 6) (v := (.pointer (some ⟨g1703, 0, none⟩))) rfl q2537) (seg_cells (o' := 0) (j := 0) hq (k := 1) rfl rfl rfl))) ?_
     refine z_exs rfl (won rfl) rfl (e_store (vs := [v0x0, v0x1]) (o' := 0) (j := 0) rfl sz_28 (ev (t := 4) (v := (.pointer (some ⟨g1695, 0, none⟩))) rfl q2535) (ev (t := 119) rfl rfl) rfl (one_cons (IsSl.one (H0x0).sl) (one_cons (IsSl.one (H0x1).sl) one_nil)) hm3286 (k := 1) rfl rfl rfl) ?_
     intro w3287 hm3288
     replace hm3288 : Mem w0 w3287 (cat [sg g1685 28 (0, 0) [] [v0x0, v0x1] [], sg g1695 28 (0, 0) [] [v0x0, v0x1] [], sg g1699 35 (0, 0) [] [(.int .i64 0), (.int .i64 0)] [], sg g1703 35 (0, 0) [] [(.int .i64 5), (.int .i64 a1.Buffer)] [], hF]) := hm3288
     refine ⟨Mem.pick [0, 3, 4] rfl hm3288, ?_⟩
     refine z_exs rfl (won rfl) rfl (e_store (vs := [(.int .i64 5), (.int .i64 a1.Buffer)]) (o' := 0) (j := 0) rfl sz_35 (ev (t := 5) (v := (.pointer (some ⟨g1699, 0, none⟩))) rfl q2536) (ev (t := 120) rfl rfl) rfl rfl hm3288 (k := 2) rfl rfl rfl) ?_
     intro w3289 hm3290
     replace hm3290 : Mem w0 w3289 (cat [sg g1685 28 (0, 0) [] [v0x0, v0x1] [], sg g1695 28 (0, 0) [] [v0x0, v0x1] [], sg g1699 35 (0, 0) [] [(.int .i64 5), (.int .i64 a1.Buffer)] [], sg g1703 35 (0, 0) [] [(.int .i64 5), (.int .i64 a1.Buffer)] [], hF]) := hm3290
     refine ⟨Mem.pick [0, 3, 4] rfl hm3290, ?_⟩
     refine z_nil ?_
     have hm3291 : Mem w0 w3289 (cat [sg g1695 28 (0, 0) [] [v0x0, v0x1] [], sg g1699 35 (0, 0) [] [(.int .i64 5), (.int .i64 a1.Buffer)] [], hF]) := Mem.pick [1, 2, 4] rfl hm3290
     refine nx ?_
     refine wp_ret ?_
     refine xr ?_
     obtain rfl := Option.some.inj he
     refine r_ret (v := (.tuple #[(.agg #[v0x0, v0x1]), (.agg #[(.int .i64 5), (.int .i64 a1.Buffer)])])) (rv_list rfl rfl (RVs.cell (cs := [v0x0, v0x1]) rfl q2535 tyN_28 (seg_cells (o' := 0) (j := 0) hm3291 (k := 0) rfl rfl rfl) (RVs.cell (cs := [(.int .i64 5), (.int .i64 a1.Buffer)]) rfl q2536 tyN_35 (seg_cells (o' := 0) (j := 0) hm3291 (k := 1) rfl rfl rfl) RVs.nil))) rfl ?_
     exact ⟨v0x0, v0x1, (cat []), rfl, (H0x0.mono (Sub.at_ (k := 0) rfl)), (H0x1.mono (Sub.at_ (k := 0) rfl)), Mem.zgrp [] [] _ (Mem.pick [2] rfl hm3291)⟩
    ·
     replace he := bifF he hb3282
     refine c_false rfl (p := (!r3279)) rfl rfl hb3282 ?_
     refine wp_skip ?_
     refine nx ?_
     obtain ⟨s3331, hT3333, hk3332⟩ := bindE he
     replace he := hT3333
     refine wp_seqJ (fun a w => ∃ (v3324 : Value) (h3325 : Hp) (h3328 : Hp) (f : Nat → Value), a = fr 145 f ∧ f 4 = (.pointer (some ⟨g1695, 0, none⟩)) ∧ f 5 = (.pointer (some ⟨g1699, 0, none⟩)) ∧ f 6 = (.pointer (some ⟨g1703, 0, none⟩)) ∧ f 7 = (.pointer (some ⟨g1806, 0, none⟩)) ∧ OwF 3 (FK.int .i64) v3324 s3331.1 h3325 ∧ OwF 3 (FK.int .i64) v1799 s3331.2 h3328 ∧ Mem w0 w (cat [sg g1695 28 (0, 0) [] [(.slice none 0 0), (.slice none 0 0)] [], sg g1699 35 (0, 0) [] [(.int .i64 0), (.int .i64 0)] [], sg g1703 35 (0, 0) [] [(.int .i64 0), (.int .i64 a1.Buffer)] [], sg g1806 28 (0, 0) [] [v3324, v1799] [], h3325, h3328, hF])) ?_ ?_
     ·
      refine wp_seq ?_
      refine wp_region_lit ?_
      refine s_val (v := (.pointer (some ⟨g1689, 0, none⟩))) (won rfl) rfl rfl (x_field rfl fa_39x0 (ev (t := 3) (v := (.pointer (some ⟨g1689, 0, none⟩))) rfl q2534)) ?_
      refine s_val (v := (.int .i64 a1.Kind)) (won rfl) rfl rfl (x_load rfl ty1x3 (ev (t := 121) rfl rfl) (seg_cell (o' := 0) (j := 0) hm3281 (k := 1) rfl rfl rfl)) ?_
      refine s_val (v := (.bool (decide (a1.Kind = 2)))) (won rfl) rfl rfl (x_eql rfl (ev (t := 122) rfl rfl) rfl) ?_
      refine wpList_nil ?_
      have hm3334 : Mem w0 w3280 (cat [sg g1689 39 (0, 0) [] [(.int .i64 a1.Kind), (.int .i64 a1.Owner), (.int .i64 a1.To), (.int .i64 a1.Buffer)] [], sg g1695 28 (0, 0) [] [(.slice none 0 0), (.slice none 0 0)] [], sg g1699 35 (0, 0) [] [(.int .i64 0), (.int .i64 0)] [], sg g1703 35 (0, 0) [] [(.int .i64 0), (.int .i64 a1.Buffer)] [], sg g1806 28 (0, 0) [] [v1795, v1799] [], h1797, h1801, hF]) := Mem.pick [1, 2, 3, 4, 5, 6, 7, 8] rfl hm3281
      refine nx ?_
      rcases Bool.eq_false_or_eq_true ((decide (a1.Kind = 2))) with hb3335 | hb3335
      ·
       replace he := bifT he hb3335
       refine c_true rfl (p := (decide (a1.Kind = 2))) rfl rfl hb3335 ?_
       obtain ⟨hg3336, he⟩ := gdE he
       refine wp_region_lit ?_
       refine s_val (v := (.pointer (some ⟨g1806, 1, none⟩))) (won rfl) rfl rfl (x_field rfl fa_28x1 (ev (t := 7) (v := (.pointer (some ⟨g1806, 0, none⟩))) rfl q2538)) ?_
       refine s_val (v := v1799) (won rfl) rfl rfl (x_load rfl ty1x26 (ev (t := 124) rfl rfl) (seg_cell (o' := 0) (j := 1) hm3334 (k := 4) rfl rfl rfl)) ?_
       refine s_val (v := (.pointer (some ⟨g1689, 3, none⟩))) (won rfl) rfl rfl (x_field rfl fa_39x3 (ev (t := 3) (v := (.pointer (some ⟨g1689, 0, none⟩))) rfl q2534)) ?_
       refine s_val (v := (.int .i64 a1.Buffer)) (won rfl) rfl rfl (x_load rfl ty1x3 (ev (t := 126) rfl rfl) (seg_cell (o' := 0) (j := 3) hm3334 (k := 0) rfl rfl rfl)) ?_
       refine s_val (v := (.pointer (some ⟨g1689, 2, none⟩))) (won rfl) rfl rfl (x_field rfl fa_39x2 (ev (t := 3) (v := (.pointer (some ⟨g1689, 0, none⟩))) rfl q2534)) ?_
       refine s_val (v := (.int .i64 a1.To)) (won rfl) rfl rfl (x_load rfl ty1x3 (ev (t := 128) rfl rfl) (seg_cell (o' := 0) (j := 2) hm3334 (k := 0) rfl rfl rfl)) ?_
       refine s_val (v := (.pointer (some ((slA v1799).add (Int.toNat a1.Buffer * 1))))) (won rfl) rfl rfl (x_index (d := (FK.int .i64)) rfl slt_26 (ev (t := 125) rfl rfl) (ev (t := 127) rfl rfl) (H1800.rd w0) hg3336.1 hg3336.2) ?_
       refine s_exw (won rfl) rfl (e_storeF (d := (FK.int .i64)) (s := a1.To) (vs := [(.int .i64 a1.To)]) (j := 0) rfl sz_3 (ev (t := 130) rfl rfl) (add_0 _).symm (ev (t := 129) rfl rfl) rfl rfl H1800 hg3336.1 hg3336.2 rfl rfl hm3334 (k := 6) rfl) ?_
       rintro h3337 w3339 ⟨H3338, hm3340⟩
       replace hm3340 : Mem w0 w3339 (cat [sg g1689 39 (0, 0) [] [(.int .i64 a1.Kind), (.int .i64 a1.Owner), (.int .i64 a1.To), (.int .i64 a1.Buffer)] [], sg g1695 28 (0, 0) [] [(.slice none 0 0), (.slice none 0 0)] [], sg g1699 35 (0, 0) [] [(.int .i64 0), (.int .i64 0)] [], sg g1703 35 (0, 0) [] [(.int .i64 0), (.int .i64 a1.Buffer)] [], sg g1806 28 (0, 0) [] [v1795, v1799] [], h1797, h3337, hF]) := hm3340
       refine wpList_nil ?_
       have hm3341 : Mem w0 w3339 (cat [sg g1695 28 (0, 0) [] [(.slice none 0 0), (.slice none 0 0)] [], sg g1699 35 (0, 0) [] [(.int .i64 0), (.int .i64 0)] [], sg g1703 35 (0, 0) [] [(.int .i64 0), (.int .i64 a1.Buffer)] [], sg g1806 28 (0, 0) [] [v1795, v1799] [], h1797, h3337, hF]) := Mem.pick [1, 2, 3, 4, 5, 6, 7] rfl hm3340
       refine nx ?_
       obtain rfl := Option.some.inj he
       exact ⟨v1795, h1797, h3337, _, rfl, q2535, q2536, q2537, q2538, H1796, H3338, Mem.pick [0, 1, 2, 3, 4, 5, 6] rfl hm3341⟩
      ·
       replace he := bifF he hb3335
       refine c_false rfl (p := (decide (a1.Kind = 2))) rfl rfl hb3335 ?_
       refine wp_seq ?_
       obtain ⟨hg3342, he⟩ := gdE he
       refine wp_region_lit ?_
       refine s_val (v := (.pointer (some ⟨g1806, 1, none⟩))) (won rfl) rfl rfl (x_field rfl fa_28x1 (ev (t := 7) (v := (.pointer (some ⟨g1806, 0, none⟩))) rfl q2538)) ?_
       refine s_val (v := v1799) (won rfl) rfl rfl (x_load rfl ty1x26 (ev (t := 131) rfl rfl) (seg_cell (o' := 0) (j := 1) hm3334 (k := 4) rfl rfl rfl)) ?_
       refine s_val (v := (.pointer (some ⟨g1689, 3, none⟩))) (won rfl) rfl rfl (x_field rfl fa_39x3 (ev (t := 3) (v := (.pointer (some ⟨g1689, 0, none⟩))) rfl q2534)) ?_
       refine s_val (v := (.int .i64 a1.Buffer)) (won rfl) rfl rfl (x_load rfl ty1x3 (ev (t := 133) rfl rfl) (seg_cell (o' := 0) (j := 3) hm3334 (k := 0) rfl rfl rfl)) ?_
       refine s_val (v := (.pointer (some ((slA v1799).add (Int.toNat a1.Buffer * 1))))) (won rfl) rfl rfl (x_index (d := (FK.int .i64)) rfl slt_26 (ev (t := 132) rfl rfl) (ev (t := 134) rfl rfl) (H1800.rd w0) hg3342.1 hg3342.2) ?_
       refine s_exw (won rfl) rfl (e_storeF (d := (FK.int .i64)) (s := (-1)) (vs := [(.int .i64 (-1))]) (j := 0) rfl sz_3 (ev (t := 135) rfl rfl) (add_0 _).symm rfl rfl rfl H1800 hg3342.1 hg3342.2 rfl rfl hm3334 (k := 6) rfl) ?_
       rintro h3343 w3345 ⟨H3344, hm3346⟩
       replace hm3346 : Mem w0 w3345 (cat [sg g1689 39 (0, 0) [] [(.int .i64 a1.Kind), (.int .i64 a1.Owner), (.int .i64 a1.To), (.int .i64 a1.Buffer)] [], sg g1695 28 (0, 0) [] [(.slice none 0 0), (.slice none 0 0)] [], sg g1699 35 (0, 0) [] [(.int .i64 0), (.int .i64 0)] [], sg g1703 35 (0, 0) [] [(.int .i64 0), (.int .i64 a1.Buffer)] [], sg g1806 28 (0, 0) [] [v1795, v1799] [], h1797, h3343, hF]) := hm3346
       refine wpList_nil ?_
       refine nx ?_
       obtain ⟨hg3352, he⟩ := gdE he
       refine wp_region_lit ?_
       refine s_val (v := (.pointer (some ⟨g1806, 0, none⟩))) (won rfl) rfl rfl (x_field rfl fa_28x0 (ev (t := 7) (v := (.pointer (some ⟨g1806, 0, none⟩))) rfl q2538)) ?_
       refine s_val (v := v1795) (won rfl) rfl rfl (x_load rfl ty1x26 (ev (t := 136) rfl rfl) (seg_cell (o' := 0) (j := 0) hm3346 (k := 4) rfl rfl rfl)) ?_
       refine s_val (v := (.pointer (some ⟨g1689, 3, none⟩))) (won rfl) rfl rfl (x_field rfl fa_39x3 (ev (t := 3) (v := (.pointer (some ⟨g1689, 0, none⟩))) rfl q2534)) ?_
       refine s_val (v := (.int .i64 a1.Buffer)) (won rfl) rfl rfl (x_load rfl ty1x3 (ev (t := 138) rfl rfl) (seg_cell (o' := 0) (j := 3) hm3346 (k := 0) rfl rfl rfl)) ?_
       refine s_exv (won rfl) rfl rfl (e_litp (cells := [(.int .i64 a1.Buffer)]) (ps := [(0, (.int .i64 a1.Buffer))]) rfl slt_26 (pmap_lit (pmap_cons (ev (t := 139) rfl rfl) pmap_nil)) (fun w1 => run_bslicez (cells := [(.int .i64 a1.Buffer)]) (zs := [.int .i64 0]) (zc := [.int .i64 0]) slt_26 rfl rfl (by kernel_rfl) (fill_cons (cs := [(.int .i64 a1.Buffer)]) rfl rfl rfl fill_nil) (by decide)) hm3346) ?_
       rintro g3349 w3347 hm3348
       have H3350 : OwF 3 (FK.int .i64) (.slice (some ⟨g3349, 0, none⟩) 1 1) ([a1.Buffer] : List Int) (sg g3349 3 (0, 0) [] (encs (FK.int .i64) ([a1.Buffer] : List Int)) []) := OwF.lit g3349 ([a1.Buffer] : List Int) 1 rfl (by decide)
       replace hm3348 : Mem w0 w3347 (cat [(sg g3349 3 (0, 0) [] (encs (FK.int .i64) ([a1.Buffer] : List Int)) []), sg g1689 39 (0, 0) [] [(.int .i64 a1.Kind), (.int .i64 a1.Owner), (.int .i64 a1.To), (.int .i64 a1.Buffer)] [], sg g1695 28 (0, 0) [] [(.slice none 0 0), (.slice none 0 0)] [], sg g1699 35 (0, 0) [] [(.int .i64 0), (.int .i64 0)] [], sg g1703 35 (0, 0) [] [(.int .i64 0), (.int .i64 a1.Buffer)] [], sg g1806 28 (0, 0) [] [v1795, v1799] [], h1797, h3343, hF]) := hm3348
       refine s_exv (won rfl) rfl rfl (e_append (bytes := 8) rfl slt_26 rfl (ev (t := 137) rfl rfl) (ev (t := 140) rfl rfl) H1796 (k := 6) rfl (H3350.rd w0) (Sub.at_ (k := 0) rfl) hm3348 hg3352 (len63 hg3352 rfl)) ?_
       rintro p3354 w3356 ⟨H3355, hm3357⟩
       replace hm3357 : Mem w0 w3356 (cat [(sg g3349 3 (0, 0) [] (encs (FK.int .i64) ([a1.Buffer] : List Int)) []), sg g1689 39 (0, 0) [] [(.int .i64 a1.Kind), (.int .i64 a1.Owner), (.int .i64 a1.To), (.int .i64 a1.Buffer)] [], sg g1695 28 (0, 0) [] [(.slice none 0 0), (.slice none 0 0)] [], sg g1699 35 (0, 0) [] [(.int .i64 0), (.int .i64 0)] [], sg g1703 35 (0, 0) [] [(.int .i64 0), (.int .i64 a1.Buffer)] [], sg g1806 28 (0, 0) [] [v1795, v1799] [], p3354.2, h3343, hF]) := hm3357
       refine s_val (v := (.pointer (some ⟨g1806, 0, none⟩))) (won rfl) rfl rfl (x_field rfl fa_28x0 (ev (t := 7) (v := (.pointer (some ⟨g1806, 0, none⟩))) rfl q2538)) ?_
       refine s_exs (won rfl) rfl (e_store (vs := [p3354.1]) (o' := 0) (j := 0) rfl sz_26 (ev (t := 142) rfl rfl) (ev (t := 141) rfl rfl) (IsSl.cells (H3355).sl) (one_cons (IsSl.one (H3355).sl) one_nil) hm3357 (k := 5) rfl rfl rfl) ?_
       intro w3358 hm3359
       replace hm3359 : Mem w0 w3358 (cat [(sg g3349 3 (0, 0) [] (encs (FK.int .i64) ([a1.Buffer] : List Int)) []), sg g1689 39 (0, 0) [] [(.int .i64 a1.Kind), (.int .i64 a1.Owner), (.int .i64 a1.To), (.int .i64 a1.Buffer)] [], sg g1695 28 (0, 0) [] [(.slice none 0 0), (.slice none 0 0)] [], sg g1699 35 (0, 0) [] [(.int .i64 0), (.int .i64 0)] [], sg g1703 35 (0, 0) [] [(.int .i64 0), (.int .i64 a1.Buffer)] [], sg g1806 28 (0, 0) [] [p3354.1, v1799] [], p3354.2, h3343, hF]) := hm3359
       refine wpList_nil ?_
       have hm3360 : Mem w0 w3358 (cat [sg g1695 28 (0, 0) [] [(.slice none 0 0), (.slice none 0 0)] [], sg g1699 35 (0, 0) [] [(.int .i64 0), (.int .i64 0)] [], sg g1703 35 (0, 0) [] [(.int .i64 0), (.int .i64 a1.Buffer)] [], sg g1806 28 (0, 0) [] [p3354.1, v1799] [], p3354.2, h3343, hF]) := Mem.pick [2, 3, 4, 5, 6, 7, 8] rfl hm3359
       refine nx ?_
       obtain rfl := Option.some.inj he
       exact ⟨p3354.1, p3354.2, h3343, _, rfl, q2535, q2536, q2537, q2538, H3355, H3344, Mem.pick [0, 1, 2, 3, 4, 5, 6] rfl hm3360⟩
     ·
      rintro a w ⟨v3324, h3325, h3328, f, rfl, q3319, q3320, q3321, q3330, H3326, H3329, hm3362⟩
      replace he := hk3332
      refine wp_seq ?_
      refine wp_fit [(0, 1), (1, 0), (2, 2), (3, 2)] (fun w' => Mem w0 w' (cat [sg g1703 35 (0, 0) [] [(.int .i64 0), (.int .i64 a1.Buffer)] [], sg g1806 28 (0, 0) [] [v3324, v1799] [], h3325, h3328, hF])) mixed (by kernel_rfl) (Mem.drew (Mem.pick [2, 3, 4, 5, 6] rfl hm3362)) ?_
      have hm3363 := Mem.drew hm3362
      refine z_r (v := (.agg #[v3324, v1799])) rfl (won rfl) rfl rfl ((x_loadN (vs := [v3324, v1799]) rfl tyN_28 (ev (t := 7) (v := (.pointer (some ⟨g1806, 0, none⟩))) rfl q3330) (seg_cells (o' := 0) (j := 0) hm3363 (k := 3) rfl rfl rfl))) ?_
      refine z_q (v := (.agg #[(.int .i64 0), (.int .i64 a1.Buffer)])) rfl (won rfl) rfl rfl (fun wq hq => (x_loadN (vs := [(.int .i64 0), (.int .i64 a1.Buffer)]) rfl tyN_35 (ev (t := 6) (v := (.pointer (some ⟨g1703, 0, none⟩))) rfl q3321) (seg_cells (o' := 0) (j := 0) hq (k := 0) rfl rfl rfl))) ?_
      refine z_exs rfl (won rfl) rfl (e_store (vs := [v3324, v1799]) (o' := 0) (j := 0) rfl sz_28 (ev (t := 4) (v := (.pointer (some ⟨g1695, 0, none⟩))) rfl q3319) (ev (t := 143) rfl rfl) rfl (one_cons (IsSl.one (H3326).sl) (one_cons (IsSl.one (H3329).sl) one_nil)) hm3363 (k := 0) rfl rfl rfl) ?_
      intro w3364 hm3365
      replace hm3365 : Mem w0 w3364 (cat [sg g1695 28 (0, 0) [] [v3324, v1799] [], sg g1699 35 (0, 0) [] [(.int .i64 0), (.int .i64 0)] [], sg g1703 35 (0, 0) [] [(.int .i64 0), (.int .i64 a1.Buffer)] [], sg g1806 28 (0, 0) [] [v3324, v1799] [], h3325, h3328, hF]) := hm3365
      refine ⟨Mem.pick [2, 3, 4, 5, 6] rfl hm3365, ?_⟩
      refine z_exs rfl (won rfl) rfl (e_store (vs := [(.int .i64 0), (.int .i64 a1.Buffer)]) (o' := 0) (j := 0) rfl sz_35 (ev (t := 5) (v := (.pointer (some ⟨g1699, 0, none⟩))) rfl q3320) (ev (t := 144) rfl rfl) rfl rfl hm3365 (k := 1) rfl rfl rfl) ?_
      intro w3366 hm3367
      replace hm3367 : Mem w0 w3366 (cat [sg g1695 28 (0, 0) [] [v3324, v1799] [], sg g1699 35 (0, 0) [] [(.int .i64 0), (.int .i64 a1.Buffer)] [], sg g1703 35 (0, 0) [] [(.int .i64 0), (.int .i64 a1.Buffer)] [], sg g1806 28 (0, 0) [] [v3324, v1799] [], h3325, h3328, hF]) := hm3367
      refine ⟨Mem.pick [2, 3, 4, 5, 6] rfl hm3367, ?_⟩
      refine z_nil ?_
      have hm3368 : Mem w0 w3366 (cat [sg g1695 28 (0, 0) [] [v3324, v1799] [], sg g1699 35 (0, 0) [] [(.int .i64 0), (.int .i64 a1.Buffer)] [], h3325, h3328, hF]) := Mem.pick [0, 1, 4, 5, 6] rfl hm3367
      refine nx ?_
      refine wp_ret ?_
      obtain rfl := Option.some.inj he
      refine r_ret (v := (.tuple #[(.agg #[v3324, v1799]), (.agg #[(.int .i64 0), (.int .i64 a1.Buffer)])])) (rv_list rfl rfl (RVs.cell (cs := [v3324, v1799]) rfl q3319 tyN_28 (seg_cells (o' := 0) (j := 0) hm3368 (k := 0) rfl rfl rfl) (RVs.cell (cs := [(.int .i64 0), (.int .i64 a1.Buffer)]) rfl q3320 tyN_35 (seg_cells (o' := 0) (j := 0) hm3368 (k := 1) rfl rfl rfl) RVs.nil))) rfl ?_
      exact ⟨v3324, v1799, (cat [h3325, h3328]), rfl, ((H3326.rd w0).mono (Sub.trans (Sub.at_ (L := [h3325, h3328]) (k := 0) rfl) (Sub.at_ (k := 1) rfl))), ((H3329.rd w0).mono (Sub.trans (Sub.at_ (L := [h3325, h3328]) (k := 1) rfl) (Sub.at_ (k := 1) rfl))), Mem.zgrp [] [h3325, h3328] _ (Mem.pick [2, 3, 4] rfl hm3368)⟩
def spec_PoolStep (F : Nat) (a0 : impl_Pool) (a1 : impl_PoolAct) : Option (impl_Pool × impl_PoolReply × Int) := (spec_PoolOK F a0).bind fun r112 => (bif (!r112) then (some ((impl_Pool.mk ([] : List Int) ([] : List Int)), (impl_PoolReply.mk 0 0), 1)) else (spec_l12Step F a0 a1).bind fun r123 => (spec_l12Own r123.1).bind fun r149 => (some (r149, r123.2, 0)))
set_option maxHeartbeats 400000 in
set_option maxRecDepth 100000 in
theorem spec_PoolStep_ok (F : Nat) {w0 w : World} {hR hF : Hp} {v0x0 : Value} {v0x1 : Value} (a0 : impl_Pool) (a1 : impl_PoolAct) {r : (impl_Pool × impl_PoolReply × Int)} (H0x0 : RdF w0 (FK.int .i64) v0x0 a0.Free hR) (H0x1 : RdF w0 (FK.int .i64) v0x1 a0.Owner hR) (hs : Sub hR hF) (hm : Mem w0 w (cat [hF])) (he : spec_PoolStep F a0 a1 = some r) :
    Calls Try.prog 19 #[(.agg #[v0x0, v0x1]), (.agg #[(.int .i64 a1.Kind), (.int .i64 a1.Owner), (.int .i64 a1.To), (.int .i64 a1.Buffer)])] w (fun e w' => ∃ (v'0 : Value) (h'0 : Hp) (v'1 : Value) (h'1 : Hp), e = .returned (.tuple #[(.agg #[v'0, v'1]), (.agg #[(.int .i64 r.2.1.Code), (.int .i64 r.2.1.Buffer)]), (.int .i64 r.2.2)]) ∧ OwF 3 (FK.int .i64) v'0 r.1.Free h'0 ∧ OwF 3 (FK.int .i64) v'1 r.1.Owner h'1 ∧ Mem w0 w' (cat [h'0, h'1, hF])) := by
 refine calls_fr (n := 23) Try.func19 rfl rfl rfl ?_
 unfold spec_PoolStep at he
 refine wp_seq ?_
 refine wp_region_lit ?_
 refine s_exv (won rfl) rfl rfl (e_box (vs := [v0x0, v0x1]) rfl (ev (t := 0) rfl rfl) rfl hm) ?_
 rintro g83 w84 hm85
 refine s_exv (won rfl) rfl rfl (e_box (vs := [(.int .i64 a1.Kind), (.int .i64 a1.Owner), (.int .i64 a1.To), (.int .i64 a1.Buffer)]) rfl (ev (t := 1) rfl rfl) rfl hm85) ?_
 rintro g87 w88 hm89
 refine s_exv (won rfl) rfl rfl (e_alloc (vs := [(.slice none 0 0), (.slice none 0 0)]) rfl zt_28 rfl hm89) ?_
 rintro g93 w94 hm95
 refine s_exv (won rfl) rfl rfl (e_alloc (vs := [(.int .i64 0), (.int .i64 0)]) rfl zt_35 rfl hm95) ?_
 rintro g97 w98 hm99
 refine s_val (v := (.int .i64 0)) (won rfl) rfl rfl (x_assign rfl rfl) ?_
 refine wpList_nil ?_
 refine nx ?_
 refine wp_seq ?_
 refine wp_seq ?_
 obtain ⟨r112, hr112, he⟩ := bindE he
 refine wp_region_lit ?_
 refine s_val (v := (.agg #[v0x0, v0x1])) (won rfl) rfl rfl (x_loadN (vs := [v0x0, v0x1]) rfl tyN_28 (ev (t := 2) rfl rfl) (seg_cells (o' := 0) (j := 0) hm99 (k := 3) rfl rfl rfl)) ?_
 refine s_call (won rfl) rfl rfl (x_call rfl rfl cl_67 (map_lit (map_cons (ev (t := 9) rfl rfl) map_nil))) (spec_PoolOK_ok F (hR := (cat [hR])) (hF := cat [sg g97 35 (0, 0) [] [(.int .i64 0), (.int .i64 0)] [], sg g93 28 (0, 0) [] [(.slice none 0 0), (.slice none 0 0)] [], sg g87 39 (0, 0) [] [(.int .i64 a1.Kind), (.int .i64 a1.Owner), (.int .i64 a1.To), (.int .i64 a1.Buffer)] [], sg g83 28 (0, 0) [] [v0x0, v0x1] [], hF]) a0 (H0x0.mono (Sub.at_ (k := 0) rfl)) (H0x1.mono (Sub.at_ (k := 0) rfl)) (subc (Sub.trans hs (Sub.at_ (k := 4) rfl)) subn) (Mem.one hm99) hr112) ?_
 rintro e w113 ⟨rfl, hm114⟩
 refine ⟨_, rfl, ?_⟩
 replace hm114 : Mem w0 w113 (cat [sg g97 35 (0, 0) [] [(.int .i64 0), (.int .i64 0)] [], sg g93 28 (0, 0) [] [(.slice none 0 0), (.slice none 0 0)] [], sg g87 39 (0, 0) [] [(.int .i64 a1.Kind), (.int .i64 a1.Owner), (.int .i64 a1.To), (.int .i64 a1.Buffer)] [], sg g83 28 (0, 0) [] [v0x0, v0x1] [], hF]) := Mem.un hm114
 refine s_val (v := (.bool (!r112))) (won rfl) rfl rfl (x_not rfl (ev (t := 10) rfl rfl)) ?_
 refine wpList_nil ?_
 refine nx ?_
 rcases Bool.eq_false_or_eq_true ((!r112)) with hb115 | hb115
 ·
  replace he := bifT he hb115
  refine c_true rfl (p := (!r112)) rfl rfl hb115 ?_
  refine wp_seq ?_
  refine wp_region_lit ?_
  refine s_val (v := (.agg #[(.slice none 0 0), (.slice none 0 0)])) (won rfl) rfl rfl (x_build (cells := [(.slice none 0 0), (.slice none 0 0)]) (zc := [.slice none 0 0, .slice none 0 0]) (sizes := [(0, 1), (1, 1)]) (ps := []) rfl zt_28 rfl uf_28 ufz_28 (pmap_lit pmap_nil) fill_nil) ?_
  refine s_val (v := (.agg #[(.int .i64 0), (.int .i64 0)])) (won rfl) rfl rfl (x_build (cells := [(.int .i64 0), (.int .i64 0)]) (zc := [.int .i64 0, .int .i64 0]) (sizes := [(0, 1), (1, 1)]) (ps := []) rfl zt_35 rfl uf_35 ufz_35 (pmap_lit pmap_nil) fill_nil) ?_
  refine s_exs (won rfl) rfl (e_store (vs := [(.slice none 0 0), (.slice none 0 0)]) (o' := 0) (j := 0) rfl sz_28 (ev (t := 4) rfl rfl) (ev (t := 12) rfl rfl) rfl rfl hm114 (k := 1) rfl rfl rfl) ?_
  intro w118 hm119
  replace hm119 : Mem w0 w118 (cat [sg g97 35 (0, 0) [] [(.int .i64 0), (.int .i64 0)] [], sg g93 28 (0, 0) [] [(.slice none 0 0), (.slice none 0 0)] [], sg g87 39 (0, 0) [] [(.int .i64 a1.Kind), (.int .i64 a1.Owner), (.int .i64 a1.To), (.int .i64 a1.Buffer)] [], sg g83 28 (0, 0) [] [v0x0, v0x1] [], hF]) := hm119
  refine s_exs (won rfl) rfl (e_store (vs := [(.int .i64 0), (.int .i64 0)]) (o' := 0) (j := 0) rfl sz_35 (ev (t := 5) rfl rfl) (ev (t := 13) rfl rfl) rfl rfl hm119 (k := 0) rfl rfl rfl) ?_
  intro w120 hm121
  replace hm121 : Mem w0 w120 (cat [sg g97 35 (0, 0) [] [(.int .i64 0), (.int .i64 0)] [], sg g93 28 (0, 0) [] [(.slice none 0 0), (.slice none 0 0)] [], sg g87 39 (0, 0) [] [(.int .i64 a1.Kind), (.int .i64 a1.Owner), (.int .i64 a1.To), (.int .i64 a1.Buffer)] [], sg g83 28 (0, 0) [] [v0x0, v0x1] [], hF]) := hm121
  refine s_val (v := (.int .i64 1)) (won rfl) rfl rfl (x_assign rfl rfl) ?_
  refine wpList_nil ?_
  have hm122 : Mem w0 w120 (cat [sg g97 35 (0, 0) [] [(.int .i64 0), (.int .i64 0)] [], sg g93 28 (0, 0) [] [(.slice none 0 0), (.slice none 0 0)] [], hF]) := Mem.pick [0, 1, 4] rfl hm121
  refine nx ?_
  refine wp_ret ?_
  refine xr ?_
  obtain rfl := Option.some.inj he
  refine r_ret (v := (.tuple #[(.agg #[(.slice none 0 0), (.slice none 0 0)]), (.agg #[(.int .i64 0), (.int .i64 0)]), (.int .i64 1)])) (rv_list rfl rfl (RVs.cell (cs := [(.slice none 0 0), (.slice none 0 0)]) rfl rfl tyN_28 (seg_cells (o' := 0) (j := 0) hm122 (k := 1) rfl rfl rfl) (RVs.cell (cs := [(.int .i64 0), (.int .i64 0)]) rfl rfl tyN_35 (seg_cells (o' := 0) (j := 0) hm122 (k := 0) rfl rfl rfl) (RVs.tmp (v := (.int .i64 1)) rfl rfl RVs.nil)))) rfl ?_
  exact ⟨(.slice none 0 0), [], (.slice none 0 0), [], rfl, (OwF.nil 3 (FK.int .i64)), (OwF.nil 3 (FK.int .i64)), Mem.pick [1000, 1001, 2] rfl hm122⟩
 ·
  replace he := bifF he hb115
  refine c_false rfl (p := (!r112)) rfl rfl hb115 ?_
  refine wp_skip ?_
  refine nx ?_
  refine wp_seq ?_
  obtain ⟨r123, hr123, he⟩ := bindE he
  refine wp_region_lit ?_
  refine s_val (v := (.agg #[v0x0, v0x1])) (won rfl) rfl rfl (x_loadN (vs := [v0x0, v0x1]) rfl tyN_28 (ev (t := 2) rfl rfl) (seg_cells (o' := 0) (j := 0) hm114 (k := 3) rfl rfl rfl)) ?_
  refine s_val (v := (.agg #[(.int .i64 a1.Kind), (.int .i64 a1.Owner), (.int .i64 a1.To), (.int .i64 a1.Buffer)])) (won rfl) rfl rfl (x_loadN (vs := [(.int .i64 a1.Kind), (.int .i64 a1.Owner), (.int .i64 a1.To), (.int .i64 a1.Buffer)]) rfl tyN_39 (ev (t := 3) rfl rfl) (seg_cells (o' := 0) (j := 0) hm114 (k := 2) rfl rfl rfl)) ?_
  refine s_call (won rfl) rfl rfl (x_call rfl rfl cl_61 (map_lit (map_cons (ev (t := 15) rfl rfl) (map_cons (ev (t := 16) rfl rfl) map_nil)))) (spec_l12Step_ok F (hR := (cat [hR])) (hF := cat [sg g97 35 (0, 0) [] [(.int .i64 0), (.int .i64 0)] [], sg g93 28 (0, 0) [] [(.slice none 0 0), (.slice none 0 0)] [], sg g87 39 (0, 0) [] [(.int .i64 a1.Kind), (.int .i64 a1.Owner), (.int .i64 a1.To), (.int .i64 a1.Buffer)] [], sg g83 28 (0, 0) [] [v0x0, v0x1] [], hF]) a0 a1 (H0x0.mono (Sub.at_ (k := 0) rfl)) (H0x1.mono (Sub.at_ (k := 0) rfl)) (subc (Sub.trans hs (Sub.at_ (k := 4) rfl)) subn) (Mem.one hm114) hr123) ?_
  rintro e w131 ⟨v126, v129, n124, rfl, H127, H130, hm132⟩
  refine ⟨_, rfl, ?_⟩
  replace hm132 : Mem w0 w131 (cat [n124, sg g97 35 (0, 0) [] [(.int .i64 0), (.int .i64 0)] [], sg g93 28 (0, 0) [] [(.slice none 0 0), (.slice none 0 0)] [], sg g87 39 (0, 0) [] [(.int .i64 a1.Kind), (.int .i64 a1.Owner), (.int .i64 a1.To), (.int .i64 a1.Buffer)] [], sg g83 28 (0, 0) [] [v0x0, v0x1] [], hF]) := Mem.ung [n124] [sg g97 35 (0, 0) [] [(.int .i64 0), (.int .i64 0)] [], sg g93 28 (0, 0) [] [(.slice none 0 0), (.slice none 0 0)] [], sg g87 39 (0, 0) [] [(.int .i64 a1.Kind), (.int .i64 a1.Owner), (.int .i64 a1.To), (.int .i64 a1.Buffer)] [], sg g83 28 (0, 0) [] [v0x0, v0x1] [], hF] hm132
  refine s_val (v := (.tuple #[(.agg #[v126, v129]), (.agg #[(.int .i64 r123.2.Code), (.int .i64 r123.2.Buffer)])])) (won rfl) rfl rfl (x_move rfl (ev (t := 17) rfl rfl)) ?_
  refine s_val (v := (.agg #[v126, v129])) (won rfl) rfl rfl (x_extract rfl (ev (t := 14) rfl rfl) rfl) ?_
  refine s_val (v := (.agg #[(.int .i64 r123.2.Code), (.int .i64 r123.2.Buffer)])) (won rfl) rfl rfl (x_extract rfl (ev (t := 14) rfl rfl) rfl) ?_
  refine s_exv (won rfl) rfl rfl (e_alloc (vs := [(.slice none 0 0), (.slice none 0 0)]) rfl zt_28 rfl hm132) ?_
  rintro g135 w136 hm137
  refine s_exv (won rfl) rfl rfl (e_alloc (vs := [(.int .i64 0), (.int .i64 0)]) rfl zt_35 rfl hm137) ?_
  rintro g139 w140 hm141
  refine s_exs (won rfl) rfl (e_store (vs := [v126, v129]) (o' := 0) (j := 0) rfl sz_28 (ev (t := 7) rfl rfl) (ev (t := 18) rfl rfl) rfl (one_cons (IsSl.one (H127).sl) (one_cons (IsSl.one (H130).sl) one_nil)) hm141 (k := 1) rfl rfl rfl) ?_
  intro w143 hm144
  replace hm144 : Mem w0 w143 (cat [sg g139 35 (0, 0) [] [(.int .i64 0), (.int .i64 0)] [], sg g135 28 (0, 0) [] [v126, v129] [], n124, sg g97 35 (0, 0) [] [(.int .i64 0), (.int .i64 0)] [], sg g93 28 (0, 0) [] [(.slice none 0 0), (.slice none 0 0)] [], sg g87 39 (0, 0) [] [(.int .i64 a1.Kind), (.int .i64 a1.Owner), (.int .i64 a1.To), (.int .i64 a1.Buffer)] [], sg g83 28 (0, 0) [] [v0x0, v0x1] [], hF]) := hm144
  refine s_exs (won rfl) rfl (e_store (vs := [(.int .i64 r123.2.Code), (.int .i64 r123.2.Buffer)]) (o' := 0) (j := 0) rfl sz_35 (ev (t := 8) rfl rfl) (ev (t := 19) rfl rfl) rfl rfl hm144 (k := 0) rfl rfl rfl) ?_
  intro w145 hm146
  replace hm146 : Mem w0 w145 (cat [sg g139 35 (0, 0) [] [(.int .i64 r123.2.Code), (.int .i64 r123.2.Buffer)] [], sg g135 28 (0, 0) [] [v126, v129] [], n124, sg g97 35 (0, 0) [] [(.int .i64 0), (.int .i64 0)] [], sg g93 28 (0, 0) [] [(.slice none 0 0), (.slice none 0 0)] [], sg g87 39 (0, 0) [] [(.int .i64 a1.Kind), (.int .i64 a1.Owner), (.int .i64 a1.To), (.int .i64 a1.Buffer)] [], sg g83 28 (0, 0) [] [v0x0, v0x1] [], hF]) := hm146
  refine wpList_nil ?_
  have hm147 : Mem w0 w145 (cat [sg g139 35 (0, 0) [] [(.int .i64 r123.2.Code), (.int .i64 r123.2.Buffer)] [], sg g135 28 (0, 0) [] [v126, v129] [], n124, sg g97 35 (0, 0) [] [(.int .i64 0), (.int .i64 0)] [], sg g93 28 (0, 0) [] [(.slice none 0 0), (.slice none 0 0)] [], hF]) := Mem.pick [0, 1, 2, 3, 4, 7] rfl hm146
  refine nx ?_
  refine wp_seq ?_
  obtain ⟨r149, hr149, he⟩ := bindE he
  refine wp_fit [(0, 1), (2, 0), (1, 2), (3, 2), (4, 2), (5, 1)] (fun w' => Mem w0 w' (cat [sg g139 35 (0, 0) [] [(.int .i64 r123.2.Code), (.int .i64 r123.2.Buffer)] [], sg g135 28 (0, 0) [] [v126, v129] [], n124, hF])) mixed (by kernel_rfl) (Mem.drew (Mem.pick [0, 1, 2, 5] rfl hm147)) ?_
  have hm148 := Mem.drew hm147
  refine z_r (v := (.agg #[v126, v129])) rfl (won rfl) rfl rfl ((x_loadN (vs := [v126, v129]) rfl tyN_28 (ev (t := 7) rfl rfl) (seg_cells (o' := 0) (j := 0) hm148 (k := 1) rfl rfl rfl))) ?_
  refine z_q (v := (.agg #[(.int .i64 r123.2.Code), (.int .i64 r123.2.Buffer)])) rfl (won rfl) rfl rfl (fun wq hq => (x_loadN (vs := [(.int .i64 r123.2.Code), (.int .i64 r123.2.Buffer)]) rfl tyN_35 (ev (t := 8) rfl rfl) (seg_cells (o' := 0) (j := 0) hq (k := 0) rfl rfl rfl))) ?_
  refine z_call rfl (won rfl) rfl rfl (x_call rfl rfl cl_62 (map_lit (map_cons (ev (t := 20) rfl rfl) map_nil))) (spec_l12Own_ok (hR := (cat [hR, n124])) (hF := cat [sg g139 35 (0, 0) [] [(.int .i64 r123.2.Code), (.int .i64 r123.2.Buffer)] [], sg g135 28 (0, 0) [] [v126, v129] [], n124, sg g97 35 (0, 0) [] [(.int .i64 0), (.int .i64 0)] [], sg g93 28 (0, 0) [] [(.slice none 0 0), (.slice none 0 0)] [], hF]) r123.1 (H127.mono (subc (subc (Sub.at_ (k := 0) rfl) subn) (subc (Sub.at_ (k := 1) rfl) subn))) (H130.mono (subc (subc (Sub.at_ (k := 0) rfl) subn) (subc (Sub.at_ (k := 1) rfl) subn))) (subc (Sub.trans hs (Sub.at_ (k := 5) rfl)) (subc (Sub.at_ (k := 2) rfl) subn)) (Mem.one hm148) hr149) ?_
  rintro e w158 ⟨v151, h153, v155, h157, rfl, H152, H156, hm159⟩
  refine ⟨_, rfl, ?_⟩
  replace hm159 : Mem w0 w158 (cat [h153, h157, sg g139 35 (0, 0) [] [(.int .i64 r123.2.Code), (.int .i64 r123.2.Buffer)] [], sg g135 28 (0, 0) [] [v126, v129] [], n124, sg g97 35 (0, 0) [] [(.int .i64 0), (.int .i64 0)] [], sg g93 28 (0, 0) [] [(.slice none 0 0), (.slice none 0 0)] [], hF]) := Mem.ung [h153, h157] [sg g139 35 (0, 0) [] [(.int .i64 r123.2.Code), (.int .i64 r123.2.Buffer)] [], sg g135 28 (0, 0) [] [v126, v129] [], n124, sg g97 35 (0, 0) [] [(.int .i64 0), (.int .i64 0)] [], sg g93 28 (0, 0) [] [(.slice none 0 0), (.slice none 0 0)] [], hF] hm159
  refine ⟨Mem.pick [2, 3, 4, 7] rfl hm159, ?_⟩
  refine z_exs rfl (won rfl) rfl (e_store (vs := [v151, v155]) (o' := 0) (j := 0) rfl sz_28 (ev (t := 4) rfl rfl) (ev (t := 21) rfl rfl) rfl (one_cons (IsSl.one (H152).sl) (one_cons (IsSl.one (H156).sl) one_nil)) hm159 (k := 6) rfl rfl rfl) ?_
  intro w160 hm161
  replace hm161 : Mem w0 w160 (cat [h153, h157, sg g139 35 (0, 0) [] [(.int .i64 r123.2.Code), (.int .i64 r123.2.Buffer)] [], sg g135 28 (0, 0) [] [v126, v129] [], n124, sg g97 35 (0, 0) [] [(.int .i64 0), (.int .i64 0)] [], sg g93 28 (0, 0) [] [v151, v155] [], hF]) := hm161
  refine ⟨Mem.pick [2, 3, 4, 7] rfl hm161, ?_⟩
  refine z_exs rfl (won rfl) rfl (e_store (vs := [(.int .i64 r123.2.Code), (.int .i64 r123.2.Buffer)]) (o' := 0) (j := 0) rfl sz_35 (ev (t := 5) rfl rfl) (ev (t := 22) rfl rfl) rfl rfl hm161 (k := 5) rfl rfl rfl) ?_
  intro w162 hm163
  replace hm163 : Mem w0 w162 (cat [h153, h157, sg g139 35 (0, 0) [] [(.int .i64 r123.2.Code), (.int .i64 r123.2.Buffer)] [], sg g135 28 (0, 0) [] [v126, v129] [], n124, sg g97 35 (0, 0) [] [(.int .i64 r123.2.Code), (.int .i64 r123.2.Buffer)] [], sg g93 28 (0, 0) [] [v151, v155] [], hF]) := hm163
  refine ⟨Mem.pick [2, 3, 4, 7] rfl hm163, ?_⟩
  refine z_r (v := (.int .i64 0)) rfl (won rfl) rfl rfl ((x_assign rfl rfl)) ?_
  refine z_nil ?_
  have hm164 : Mem w0 w162 (cat [h153, h157, sg g97 35 (0, 0) [] [(.int .i64 r123.2.Code), (.int .i64 r123.2.Buffer)] [], sg g93 28 (0, 0) [] [v151, v155] [], hF]) := Mem.pick [0, 1, 5, 6, 7] rfl hm163
  refine nx ?_
  refine wp_ret ?_
  obtain rfl := Option.some.inj he
  refine r_ret (v := (.tuple #[(.agg #[v151, v155]), (.agg #[(.int .i64 r123.2.Code), (.int .i64 r123.2.Buffer)]), (.int .i64 0)])) (rv_list rfl rfl (RVs.cell (cs := [v151, v155]) rfl rfl tyN_28 (seg_cells (o' := 0) (j := 0) hm164 (k := 3) rfl rfl rfl) (RVs.cell (cs := [(.int .i64 r123.2.Code), (.int .i64 r123.2.Buffer)]) rfl rfl tyN_35 (seg_cells (o' := 0) (j := 0) hm164 (k := 2) rfl rfl rfl) (RVs.tmp (v := (.int .i64 0)) rfl rfl RVs.nil)))) rfl ?_
  exact ⟨v151, h153, v155, h157, rfl, H152, H156, Mem.pick [0, 1, 4] rfl hm164⟩
def impl_inRange (a0 : Int) (a1 : Int) (a2 : Int) : Option (Bool) := (some ((decide (a1 ≤ a0)) && (decide (a0 ≤ a2))))
set_option maxHeartbeats 400000 in
set_option maxRecDepth 100000 in
theorem impl_inRange_ok {w0 w : World} {hR hF : Hp} (a0 : Int) (a1 : Int) (a2 : Int) {r : (Bool)} (hm : Mem w0 w (cat [hF])) (he : impl_inRange a0 a1 a2 = some r) :
    Calls Try.prog 58 #[(.int .i64 a0), (.int .i64 a1), (.int .i64 a2)] w (fun e w' => e = .returned (.bool r) ∧ Mem w0 w' (cat [hF])) := by
 refine calls_fr (n := 15) Try.func58 rfl rfl rfl ?_
 unfold impl_inRange at he
 refine wp_seq ?_
 refine wp_region_lit ?_
 refine s_val (v := (.bool false)) (won rfl) rfl rfl (x_assign rfl rfl) ?_
 refine wpList_nil ?_
 refine nx ?_
 refine wp_seq ?_
 refine wp_region_lit ?_
 refine s_val (v := (.int .i64 a0)) (won rfl) rfl rfl (x_move rfl (ev (t := 0) rfl rfl)) ?_
 refine s_val (v := (.int .i64 a1)) (won rfl) rfl rfl (x_move rfl (ev (t := 1) rfl rfl)) ?_
 refine s_val (v := (.bool (decide (a1 ≤ a0)))) (won rfl) rfl rfl (x_geq rfl (ev (t := 7) rfl rfl) (ev (t := 8) rfl rfl)) ?_
 refine s_val (v := (.bool (decide (a1 ≤ a0)))) (won rfl) rfl rfl (x_move rfl (ev (t := 9) rfl rfl)) ?_
 refine s_cval (p := (decide (a1 ≤ a0))) (v := (.int .i64 a0)) (won_t (j := 3) (t := 10) (q := (decide (a1 ≤ a0))) rfl rfl rfl rfl rfl) rfl rfl (fun hp => (x_move rfl (ev (t := 0) rfl rfl))) ?_
 refine s_cval (p := (decide (a1 ≤ a0))) (v := (.int .i64 a2)) (won_t (j := 3) (t := 10) (q := (decide (a1 ≤ a0))) rfl rfl rfl rfl rfl) rfl rfl (fun hp => (x_move rfl (ev (t := 2) rfl rfl))) ?_
 refine s_cval (p := (decide (a1 ≤ a0))) (v := (.bool (decide (a0 ≤ a2)))) (won_t (j := 3) (t := 10) (q := (decide (a1 ≤ a0))) rfl rfl rfl rfl rfl) rfl rfl (fun hp => (x_leq rfl (ev (t := 11) rfl (Eq.trans (b := cv (decide (a1 ≤ a0)) (.int .i64 a0)) rfl (on_c hp))) (ev (t := 12) rfl (Eq.trans (b := cv (decide (a1 ≤ a0)) (.int .i64 a2)) rfl (on_c hp))))) ?_
 refine s_val (v := (.bool ((decide (a1 ≤ a0)) && (decide (a0 ≤ a2))))) (won rfl) rfl rfl (x_pick_and rfl (ev (t := 10) rfl rfl) (fun hq => ev rfl (Eq.trans (b := cv (decide (a1 ≤ a0)) (.bool (decide (a0 ≤ a2)))) rfl (on_c hq))) rfl) ?_
 refine s_val (v := (.bool ((decide (a1 ≤ a0)) && (decide (a0 ≤ a2))))) (won rfl) rfl rfl (x_assign rfl (ev (t := 14) rfl rfl)) ?_
 refine wpList_nil ?_
 refine nx ?_
 refine wp_ret ?_
 obtain rfl := Option.some.inj he
 refine r_ret (v := (.bool ((decide (a1 ≤ a0)) && (decide (a0 ≤ a2))))) (rv_one rfl (RVs.tmp (v := (.bool ((decide (a1 ≤ a0)) && (decide (a0 ≤ a2))))) rfl rfl RVs.nil)) rfl ?_
 exact ⟨rfl, Mem.pick [0] rfl hm⟩
def impl_isOwner (a0 : Int) : Option (Bool) := (impl_inRange a0 0 5).bind fun r4 => (some r4)
set_option maxHeartbeats 400000 in
set_option maxRecDepth 100000 in
theorem impl_isOwner_ok {w0 w : World} {hR hF : Hp} (a0 : Int) {r : (Bool)} (hm : Mem w0 w (cat [hF])) (he : impl_isOwner a0 = some r) :
    Calls Try.prog 64 #[(.int .i64 a0)] w (fun e w' => e = .returned (.bool r) ∧ Mem w0 w' (cat [hF])) := by
 refine calls_fr (n := 5) Try.func64 rfl rfl rfl ?_
 unfold impl_isOwner at he
 refine wp_seq ?_
 refine wp_region_lit ?_
 refine s_val (v := (.bool false)) (won rfl) rfl rfl (x_assign rfl rfl) ?_
 refine wpList_nil ?_
 refine nx ?_
 refine wp_seq ?_
 obtain ⟨r4, hr4, he⟩ := bindE he
 refine wp_region_lit ?_
 refine s_val (v := (.int .i64 a0)) (won rfl) rfl rfl (x_move rfl (ev (t := 0) rfl rfl)) ?_
 refine s_call (won rfl) rfl rfl (x_call rfl rfl cl_58 (map_lit (map_cons (ev (t := 3) rfl rfl) (map_cons rfl (map_cons rfl map_nil))))) (impl_inRange_ok (hR := (cat [])) (hF := cat [hF]) a0 0 5  (Mem.one hm) hr4) ?_
 rintro e w5 ⟨rfl, hm6⟩
 refine ⟨_, rfl, ?_⟩
 replace hm6 : Mem w0 w5 (cat [hF]) := Mem.un hm6
 refine s_val (v := (.bool r4)) (won rfl) rfl rfl (x_assign rfl (ev (t := 4) rfl rfl)) ?_
 refine wpList_nil ?_
 refine nx ?_
 refine wp_ret ?_
 obtain rfl := Option.some.inj he
 refine r_ret (v := (.bool r4)) (rv_one rfl (RVs.tmp (v := (.bool r4)) rfl rfl RVs.nil)) rfl ?_
 exact ⟨rfl, Mem.pick [0] rfl hm6⟩
def impl_PoolOK_l1 (F : Nat) (a0 : impl_Pool) : Nat → (List Bool) → Int → Option (Fl (Bool) ((List Bool)))
  | 0, _, _ => none
  | k + 1, s861, s867 => (bif (decide (s867 < (a0.Free.length : Int))) then gd ((0 : Int) ≤ s867 ∧ s867 < (a0.Free.length : Int)) ((impl_inRange (ix a0.Free s867) 0 (IntKind.wrap .i64 ((a0.Owner.length : Int) - 1))).bind fun r948 => gd ((!(!r948)) = true → (0 : Int) ≤ (ix a0.Free s867) ∧ (ix a0.Free s867) < (s861.length : Int)) (gd (s861.length = 32) ((bif ((!r948) || (ix s861 (ix a0.Free s867))) then (some (Fl.out false)) else gd ((0 : Int) ≤ (ix a0.Free s867) ∧ (ix a0.Free s867) < (s861.length : Int)) (gd (s861.length = 32) (impl_PoolOK_l1 F a0 k (List.set s861 (Int.toNat (ix a0.Free s867)) true) (IntKind.wrap .i64 (s867 + 1)))))))) else (some (Fl.go s861)))
def impl_PoolOK_l2 (F : Nat) (a0 : impl_Pool) (s767 : ((List Bool))) : Nat → Int → Option (Fl (Bool) (Unit))
  | 0, _ => none
  | k + 1, s1061 => (bif (decide (s1061 < (a0.Owner.length : Int))) then gd ((0 : Int) ≤ s1061 ∧ s1061 < (a0.Owner.length : Int)) (gd ((0 : Int) ≤ s1061 ∧ s1061 < (s767.length : Int)) (gd (s767.length = 32) ((bif ((!(!((ix s767 s1061) == (decide ((ix a0.Owner s1061) = (-1)))))) && (!decide ((ix a0.Owner s1061) = (-1)))) then impl_isOwner (ix a0.Owner s1061) else some false).bind fun r1098 => (bif ((!((ix s767 s1061) == (decide ((ix a0.Owner s1061) = (-1))))) || ((!decide ((ix a0.Owner s1061) = (-1))) && (!r1098))) then (some (Fl.out false)) else impl_PoolOK_l2 F a0 s767 k (IntKind.wrap .i64 (s1061 + 1)))))) else (some (Fl.go ())))
def impl_PoolOK (F : Nat) (a0 : impl_Pool) : Option (Bool) := (impl_inRange (a0.Owner.length : Int) 1 32).bind fun r562 => (bif ((!r562) || (decide ((a0.Owner.length : Int) < (a0.Free.length : Int)))) then (some false) else (impl_PoolOK_l1 F a0 F (List.replicate 32 false) 0 : Option (Fl (Bool) ((List Bool)))).bind fun l768 => l768.on fun (s767 : ((List Bool))) => (impl_PoolOK_l2 F a0 s767 F 0 : Option (Fl (Bool) (Unit))).bind fun l1032 => l1032.on fun (s1031 : (Unit)) => (some true))
set_option maxHeartbeats 400000 in
set_option maxRecDepth 100000 in
theorem impl_PoolOK_ok (F : Nat) {w0 w : World} {hR hF : Hp} {v0x0 : Value} {v0x1 : Value} (a0 : impl_Pool) {r : (Bool)} (H0x0 : RdF w0 (FK.int .i64) v0x0 a0.Free hR) (H0x1 : RdF w0 (FK.int .i64) v0x1 a0.Owner hR) (hs : Sub hR hF) (hm : Mem w0 w (cat [hF])) (he : impl_PoolOK F a0 = some r) :
    Calls Try.prog 17 #[(.agg #[v0x0, v0x1])] w (fun e w' => e = .returned (.bool r) ∧ Mem w0 w' (cat [hF])) := by
 refine calls_fr (n := 68) Try.func17 rfl rfl rfl ?_
 unfold impl_PoolOK at he
 refine wp_seq ?_
 refine wp_region_lit ?_
 refine s_exv (won rfl) rfl rfl (e_box (vs := [v0x0, v0x1]) rfl (ev (t := 0) rfl rfl) rfl hm) ?_
 rintro g553 w554 hm555
 refine s_val (v := (.bool false)) (won rfl) rfl rfl (x_assign rfl rfl) ?_
 refine wpList_nil ?_
 refine nx ?_
 refine wp_seq ?_
 refine wp_seq ?_
 obtain ⟨r562, hr562, he⟩ := bindE he
 refine wp_region_lit ?_
 refine s_val (v := (.pointer (some ⟨g553, 1, none⟩))) (won rfl) rfl rfl (x_field rfl fa_28x1 (ev (t := 1) rfl rfl)) ?_
 refine s_val (v := v0x1) (won rfl) rfl rfl (x_load rfl ty1x26 (ev (t := 8) rfl rfl) (seg_cell (o' := 0) (j := 1) hm555 (k := 0) rfl rfl rfl)) ?_
 refine s_val (v := (.int .i64 (a0.Owner.length : Int))) (won rfl) rfl rfl (x_len rfl slt_26 (ev (t := 9) rfl rfl) (H0x1).sl) ?_
 refine s_call (won rfl) rfl rfl (x_call rfl rfl cl_58 (map_lit (map_cons (ev (t := 10) rfl rfl) (map_cons rfl (map_cons rfl map_nil))))) (impl_inRange_ok (hR := (cat [])) (hF := cat [sg g553 28 (0, 0) [] [v0x0, v0x1] [], hF]) (a0.Owner.length : Int) 1 32  (Mem.one hm555) hr562) ?_
 rintro e w563 ⟨rfl, hm564⟩
 refine ⟨_, rfl, ?_⟩
 replace hm564 : Mem w0 w563 (cat [sg g553 28 (0, 0) [] [v0x0, v0x1] [], hF]) := Mem.un hm564
 refine s_val (v := (.bool (!r562))) (won rfl) rfl rfl (x_not rfl (ev (t := 11) rfl rfl)) ?_
 refine s_val (v := (.bool (!r562))) (won rfl) rfl rfl (x_move rfl (ev (t := 12) rfl rfl)) ?_
 refine s_cval (p := (!(!r562))) (v := (.pointer (some ⟨g553, 0, none⟩))) (won_f (j := 5) (t := 13) (q := (!r562)) rfl rfl rfl rfl rfl) rfl rfl (fun hp => (x_field rfl fa_28x0 (ev (t := 1) rfl rfl))) ?_
 refine s_cval (p := (!(!r562))) (v := v0x0) (won_f (j := 5) (t := 13) (q := (!r562)) rfl rfl rfl rfl rfl) rfl rfl (fun hp => (x_load rfl ty1x26 (ev (t := 14) rfl (Eq.trans (b := cv (!(!r562)) (.pointer (some ⟨g553, 0, none⟩))) rfl (on_c hp))) (seg_cell (o' := 0) (j := 0) hm564 (k := 0) rfl rfl rfl))) ?_
 refine s_cval (p := (!(!r562))) (v := (.int .i64 (a0.Free.length : Int))) (won_f (j := 5) (t := 13) (q := (!r562)) rfl rfl rfl rfl rfl) rfl rfl (fun hp => (x_len rfl slt_26 (ev (t := 15) rfl (Eq.trans (b := cv (!(!r562)) v0x0) rfl (on_c hp))) (H0x0).sl)) ?_
 refine s_cval (p := (!(!r562))) (v := (.pointer (some ⟨g553, 1, none⟩))) (won_f (j := 5) (t := 13) (q := (!r562)) rfl rfl rfl rfl rfl) rfl rfl (fun hp => (x_field rfl fa_28x1 (ev (t := 1) rfl rfl))) ?_
 refine s_cval (p := (!(!r562))) (v := v0x1) (won_f (j := 5) (t := 13) (q := (!r562)) rfl rfl rfl rfl rfl) rfl rfl (fun hp => (x_load rfl ty1x26 (ev (t := 17) rfl (Eq.trans (b := cv (!(!r562)) (.pointer (some ⟨g553, 1, none⟩))) rfl (on_c hp))) (seg_cell (o' := 0) (j := 1) hm564 (k := 0) rfl rfl rfl))) ?_
 refine s_cval (p := (!(!r562))) (v := (.int .i64 (a0.Owner.length : Int))) (won_f (j := 5) (t := 13) (q := (!r562)) rfl rfl rfl rfl rfl) rfl rfl (fun hp => (x_len rfl slt_26 (ev (t := 18) rfl (Eq.trans (b := cv (!(!r562)) v0x1) rfl (on_c hp))) (H0x1).sl)) ?_
 refine s_cval (p := (!(!r562))) (v := (.bool (decide ((a0.Owner.length : Int) < (a0.Free.length : Int))))) (won_f (j := 5) (t := 13) (q := (!r562)) rfl rfl rfl rfl rfl) rfl rfl (fun hp => (x_gtr rfl (ev (t := 16) rfl (Eq.trans (b := cv (!(!r562)) (.int .i64 (a0.Free.length : Int))) rfl (on_c hp))) (ev (t := 19) rfl (Eq.trans (b := cv (!(!r562)) (.int .i64 (a0.Owner.length : Int))) rfl (on_c hp))))) ?_
 refine s_val (v := (.bool ((!r562) || (decide ((a0.Owner.length : Int) < (a0.Free.length : Int)))))) (won rfl) rfl rfl (x_pick_or rfl (ev (t := 13) rfl rfl) rfl (fun hq => ev rfl (Eq.trans (b := cv (!(!r562)) (.bool (decide ((a0.Owner.length : Int) < (a0.Free.length : Int))))) rfl (on_c (not_i hq))))) ?_
 refine wpList_nil ?_
 refine nx ?_
 rcases Bool.eq_false_or_eq_true (((!r562) || (decide ((a0.Owner.length : Int) < (a0.Free.length : Int))))) with hb565 | hb565
 ·
  replace he := bifT he hb565
  refine c_true rfl (p := ((!r562) || (decide ((a0.Owner.length : Int) < (a0.Free.length : Int))))) rfl rfl hb565 ?_
  refine wp_seq ?_
  refine wp_region_lit ?_
  refine s_val (v := (.bool false)) (won rfl) rfl rfl (x_assign rfl rfl) ?_
  refine wpList_nil ?_
  have hm566 : Mem w0 w563 (cat [hF]) := Mem.pick [1] rfl hm564
  refine nx ?_
  refine wp_ret ?_
  refine xr ?_
  obtain rfl := Option.some.inj he
  refine r_ret (v := (.bool false)) (rv_one rfl (RVs.tmp (v := (.bool false)) rfl rfl RVs.nil)) rfl ?_
  exact ⟨rfl, Mem.pick [0] rfl hm566⟩
 ·
  replace he := bifF he hb565
  refine c_false rfl (p := ((!r562) || (decide ((a0.Owner.length : Int) < (a0.Free.length : Int))))) rfl rfl hb565 ?_
  refine wp_skip ?_
  refine nx ?_
  refine wp_seq ?_
  refine wp_region_lit ?_
  refine s_exv (won rfl) rfl rfl (e_arr (d := FK.bool) (a := false) (n := 32) rfl zt_105 (by kernel_rfl) (by decide) hm564) ?_
  rintro p568 w570 ⟨H569, hm571⟩
  replace hm571 : Mem w0 w570 (cat [p568.2, sg g553 28 (0, 0) [] [v0x0, v0x1] [], hF]) := hm571
  refine wpList_nil ?_
  refine nx ?_
  obtain ⟨l768, hT770, hk769⟩ := bindE he
  replace he := hT770
  refine wp_seqJ (fun a w => ∃ (s767 : ((List Bool))) (h764 : Hp) (f : Nat → Value), l768 = Fl.go s767 ∧ a = fr 68 f ∧ f 1 = (.pointer (some ⟨g553, 0, none⟩)) ∧ f 3 = (.pointer (some (slA p568.1))) ∧ OwF 105 FK.bool p568.1 s767 h764 ∧ Mem w0 w (cat [sg g553 28 (0, 0) [] [v0x0, v0x1] [], h764, hF])) ?_ ?_
  ·
   refine wp_seq ?_
   refine wp_region_lit ?_
   refine s_val (v := (.pointer (some ⟨g553, 0, none⟩))) (won rfl) rfl rfl (x_field rfl fa_28x0 (ev (t := 1) rfl rfl)) ?_
   refine s_val (v := v0x0) (won rfl) rfl rfl (x_load rfl ty1x26 (ev (t := 22) rfl rfl) (seg_cell (o' := 0) (j := 0) hm571 (k := 1) rfl rfl rfl)) ?_
   refine s_val (v := (.int .i64 (a0.Free.length : Int))) (won rfl) rfl rfl (x_len rfl slt_26 (ev (t := 23) rfl rfl) (H0x0).sl) ?_
   refine s_val (v := (.int .i64 0)) (won rfl) rfl rfl (x_move rfl rfl) ?_
   refine wpList_nil ?_
   refine nx ?_
   refine wp_block ?_
   refine wp_fuel (I := fun k => fun a w => ∃ (s861 : (List Bool)) (s867 : Int) (h862 : Hp) (f : Nat → Value), impl_PoolOK_l1 F a0 k s861 s867 = some l768 ∧ a = fr 68 f ∧ f 1 = (.pointer (some ⟨g553, 0, none⟩)) ∧ f 3 = (.pointer (some (slA p568.1))) ∧ f 23 = v0x0 ∧ f 24 = (.int .i64 (a0.Free.length : Int)) ∧ f 25 = (.int .i64 s867) ∧ OwF 105 FK.bool p568.1 s861 h862 ∧ Mem w0 w (cat [sg g553 28 (0, 0) [] [v0x0, v0x1] [], h862, hF])) F _ _ ⟨(List.replicate 32 false), 0, p568.2, _, he, rfl, rfl, rfl, rfl, rfl, rfl, H569, Mem.pick [1, 0, 2] rfl hm571⟩ ?_ ?_
   ·
    rintro a w ⟨s861, s867, h862, f, he, rfl, q860, q864, q865, q866, q868, H863, hm914⟩
    rw [impl_PoolOK_l1] at he; exact none_no he
   ·
    rintro k a w ⟨s861, s867, h862, f, he, rfl, q860, q864, q865, q866, q868, H863, hm916⟩
    rw [impl_PoolOK_l1] at he
    refine wp_seq ?_
    refine wp_region_lit ?_
    refine s_val (v := (.bool (decide (s867 < (a0.Free.length : Int))))) (won rfl) rfl rfl (x_lss rfl (ev (t := 25) (v := (.int .i64 s867)) rfl q868) (ev (t := 24) (v := (.int .i64 (a0.Free.length : Int))) rfl q866)) ?_
    refine wpList_nil ?_
    refine nx ?_
    refine wp_seq ?_
    rcases Bool.eq_false_or_eq_true ((decide (s867 < (a0.Free.length : Int)))) with hb918 | hb918
    ·
     replace he := bifT he hb918
     refine c_true rfl (p := (decide (s867 < (a0.Free.length : Int)))) rfl rfl hb918 ?_
     refine wp_skip ?_
     refine nx ?_
     refine wp_seq ?_
     refine wp_block ?_
     refine wp_seq ?_
     obtain ⟨hg940, he⟩ := gdE he
     refine wp_region_lit ?_
     refine s_val (v := (.pointer (some ((slA v0x0).add (Int.toNat s867 * 1))))) (won rfl) rfl rfl (x_index (d := (FK.int .i64)) rfl slt_26 (ev (t := 23) (v := v0x0) rfl q865) (ev (t := 25) (v := (.int .i64 s867)) rfl q868) H0x0 hg940.1 hg940.2) ?_
     refine s_val (v := (.int .i64 (ix a0.Free s867))) (won rfl) rfl rfl (x_load rfl ty1x3 (ev (t := 27) rfl rfl) (RdF.cell0 H0x0 hm916 (Sub.trans hs (Sub.at_ (k := 2) rfl)) hg940.1 hg940.2 rfl)) ?_
     refine s_val (v := (.int .i64 (ix a0.Free s867))) (won rfl) rfl rfl (x_assign rfl (ev (t := 28) rfl rfl)) ?_
     refine wpList_nil ?_
     refine nx ?_
     refine wp_seq ?_
     refine wp_seq ?_
     obtain ⟨r948, hr948, he⟩ := bindE he
     obtain ⟨hg951, he⟩ := gdE he
     obtain ⟨hg952, he⟩ := gdE he
     refine wp_region_lit ?_
     refine s_val (v := (.int .i64 (ix a0.Free s867))) (won rfl) rfl rfl (x_move rfl (ev (t := 5) rfl rfl)) ?_
     refine s_val (v := (.pointer (some ⟨g553, 1, none⟩))) (won rfl) rfl rfl (x_field rfl fa_28x1 (ev (t := 1) (v := (.pointer (some ⟨g553, 0, none⟩))) rfl q860)) ?_
     refine s_val (v := v0x1) (won rfl) rfl rfl (x_load rfl ty1x26 (ev (t := 30) rfl rfl) (seg_cell (o' := 0) (j := 1) hm916 (k := 0) rfl rfl rfl)) ?_
     refine s_val (v := (.int .i64 (a0.Owner.length : Int))) (won rfl) rfl rfl (x_len rfl slt_26 (ev (t := 31) rfl rfl) (H0x1).sl) ?_
     refine s_val (v := (.int .i64 (IntKind.wrap .i64 ((a0.Owner.length : Int) - 1)))) (won rfl) rfl rfl (x_sub rfl (ev (t := 32) rfl rfl) rfl) ?_
     refine s_call (won rfl) rfl rfl (x_call rfl rfl cl_58 (map_lit (map_cons (ev (t := 29) rfl rfl) (map_cons rfl (map_cons (ev (t := 33) rfl rfl) map_nil))))) (impl_inRange_ok (hR := (cat [])) (hF := cat [sg g553 28 (0, 0) [] [v0x0, v0x1] [], h862, hF]) (ix a0.Free s867) 0 (IntKind.wrap .i64 ((a0.Owner.length : Int) - 1))  (Mem.one hm916) hr948) ?_
     rintro e w949 ⟨rfl, hm950⟩
     refine ⟨_, rfl, ?_⟩
     replace hm950 : Mem w0 w949 (cat [sg g553 28 (0, 0) [] [v0x0, v0x1] [], h862, hF]) := Mem.un hm950
     refine s_val (v := (.bool (!r948))) (won rfl) rfl rfl (x_not rfl (ev (t := 34) rfl rfl)) ?_
     refine s_val (v := (.bool (!r948))) (won rfl) rfl rfl (x_move rfl (ev (t := 35) rfl rfl)) ?_
     refine s_cval (p := (!(!r948))) (v := (.int .i64 (ix a0.Free s867))) (won_f (j := 7) (t := 36) (q := (!r948)) rfl rfl rfl rfl rfl) rfl rfl (fun hp => (x_move rfl (ev (t := 5) rfl rfl))) ?_
     refine s_cval (p := (!(!r948))) (v := (.pointer (some ((slA p568.1).add (Int.toNat (ix a0.Free s867) * 1))))) (won_f (j := 7) (t := 36) (q := (!r948)) rfl rfl rfl rfl rfl) rfl rfl (fun hp => (x_indexA rfl arr_105 (ev (t := 3) (v := (.pointer (some (slA p568.1)))) rfl q864) (ev (t := 37) rfl (Eq.trans (b := cv (!(!r948)) (.int .i64 (ix a0.Free s867))) rfl (on_c hp))) (hg951 hp).1 (by have := (hg951 hp).2; rw [hg952] at this; omega))) ?_
     refine s_cval (p := (!(!r948))) (v := (.bool (ix s861 (ix a0.Free s867)))) (won_f (j := 7) (t := 36) (q := (!r948)) rfl rfl rfl rfl rfl) rfl rfl (fun hp => (x_load rfl ty1x4 (ev (t := 38) rfl (Eq.trans (b := cv (!(!r948)) (.pointer (some ((slA p568.1).add (Int.toNat (ix a0.Free s867) * 1))))) rfl (on_c hp))) (RdF.cell0 (H863.rd w0) hm950 (Sub.at_ (k := 1) rfl) (hg951 hp).1 (hg951 hp).2 rfl))) ?_
     refine s_val (v := (.bool ((!r948) || (ix s861 (ix a0.Free s867))))) (won rfl) rfl rfl (x_pick_or rfl (ev (t := 36) rfl rfl) rfl (fun hq => ev rfl (Eq.trans (b := cv (!(!r948)) (.bool (ix s861 (ix a0.Free s867)))) rfl (on_c (not_i hq))))) ?_
     refine wpList_nil ?_
     refine nx ?_
     rcases Bool.eq_false_or_eq_true (((!r948) || (ix s861 (ix a0.Free s867)))) with hb953 | hb953
     ·
      replace he := bifT he hb953
      refine c_true rfl (p := ((!r948) || (ix s861 (ix a0.Free s867)))) rfl rfl hb953 ?_
      refine wp_seq ?_
      refine wp_region_lit ?_
      refine s_val (v := (.bool false)) (won rfl) rfl rfl (x_assign rfl rfl) ?_
      refine wpList_nil ?_
      have hm954 : Mem w0 w949 (cat [hF]) := Mem.pick [2] rfl hm950
      refine nx ?_
      refine wp_ret ?_
      refine xr ?_
      refine rb ?_
      refine xr ?_
      refine xr ?_
      refine rb ?_
      refine xr ?_
      obtain rfl := Option.some.inj he
      replace he := outE hk769
      obtain rfl := Option.some.inj he
      refine r_ret (v := (.bool false)) (rv_one rfl (RVs.tmp (v := (.bool false)) rfl rfl RVs.nil)) rfl ?_
      exact ⟨rfl, Mem.pick [0] rfl hm954⟩
     ·
      replace he := bifF he hb953
      refine c_false rfl (p := ((!r948) || (ix s861 (ix a0.Free s867)))) rfl rfl hb953 ?_
      refine wp_skip ?_
      refine nx ?_
      obtain ⟨hg955, he⟩ := gdE he
      obtain ⟨hg956, he⟩ := gdE he
      refine wp_region_lit ?_
      refine s_val (v := (.int .i64 (ix a0.Free s867))) (won rfl) rfl rfl (x_move rfl (ev (t := 5) rfl rfl)) ?_
      refine s_val (v := (.pointer (some ((slA p568.1).add (Int.toNat (ix a0.Free s867) * 1))))) (won rfl) rfl rfl (x_indexA rfl arr_105 (ev (t := 3) (v := (.pointer (some (slA p568.1)))) rfl q864) (ev (t := 41) rfl rfl) hg955.1 (by have := hg955.2; rw [hg956] at this; omega)) ?_
      refine s_exw (won rfl) rfl (e_storeF (d := FK.bool) (s := true) (vs := [(.bool true)]) (j := 0) rfl sz_4 (ev (t := 42) rfl rfl) (add_0 _).symm rfl rfl rfl H863 hg955.1 hg955.2 rfl rfl hm950 (k := 1) rfl) ?_
      rintro h957 w959 ⟨H958, hm960⟩
      replace hm960 : Mem w0 w959 (cat [sg g553 28 (0, 0) [] [v0x0, v0x1] [], h957, hF]) := hm960
      refine wpList_nil ?_
      refine nb ?_
      refine nx ?_
      refine wp_region_lit ?_
      refine s_val (v := (.int .i64 (IntKind.wrap .i64 (s867 + 1)))) (won rfl) rfl rfl (x_add rfl (ev (t := 25) (v := (.int .i64 s867)) rfl q868) rfl) ?_
      refine s_val (v := (.int .i64 (IntKind.wrap .i64 (s867 + 1)))) (won rfl) rfl rfl (x_move rfl (ev (t := 43) rfl rfl)) ?_
      refine wpList_nil ?_
      refine nx ?_
      exact ⟨(List.set s861 (Int.toNat (ix a0.Free s867)) true), (IntKind.wrap .i64 (s867 + 1)), h957, _, he, rfl, q860, q864, q865, q866, rfl, H958, Mem.pick [0, 1, 2] rfl hm960⟩
    ·
     replace he := bifF he hb918
     refine c_false rfl (p := (decide (s867 < (a0.Free.length : Int)))) rfl rfl hb918 ?_
     refine wp_exit ?_
     refine xs ?_
     refine xs ?_
     refine xb ?_
     refine nx ?_
     obtain rfl := Option.some.inj he
     exact ⟨s861, h862, _, rfl, rfl, q860, q864, H863, Mem.pick [0, 1, 2] rfl hm916⟩
  ·
   rintro a w ⟨s767, h764, f, rfl, rfl, q762, q766, H765, hm962⟩
   replace he := goE hk769
   obtain ⟨l1032, hT1034, hk1033⟩ := bindE he
   replace he := hT1034
   refine wp_seqJ (fun a w => ∃ (s1031 : (Unit)) (f : Nat → Value), l1032 = Fl.go s1031 ∧ a = fr 68 f ∧ Mem w0 w (cat [hF])) ?_ ?_
   ·
    refine wp_seq ?_
    refine wp_region_lit ?_
    refine s_val (v := (.pointer (some ⟨g553, 1, none⟩))) (won rfl) rfl rfl (x_field rfl fa_28x1 (ev (t := 1) (v := (.pointer (some ⟨g553, 0, none⟩))) rfl q762)) ?_
    refine s_val (v := v0x1) (won rfl) rfl rfl (x_load rfl ty1x26 (ev (t := 44) rfl rfl) (seg_cell (o' := 0) (j := 1) hm962 (k := 0) rfl rfl rfl)) ?_
    refine s_val (v := (.int .i64 (a0.Owner.length : Int))) (won rfl) rfl rfl (x_len rfl slt_26 (ev (t := 45) rfl rfl) (H0x1).sl) ?_
    refine s_val (v := (.int .i64 0)) (won rfl) rfl rfl (x_move rfl rfl) ?_
    refine wpList_nil ?_
    have hm1035 : Mem w0 w (cat [h764, hF]) := Mem.pick [1, 2] rfl hm962
    refine nx ?_
    refine wp_block ?_
    refine wp_fuel (I := fun k => fun a w => ∃ (s1061 : Int) (f : Nat → Value), impl_PoolOK_l2 F a0 s767 k s1061 = some l1032 ∧ a = fr 68 f ∧ f 3 = (.pointer (some (slA p568.1))) ∧ f 45 = v0x1 ∧ f 46 = (.int .i64 (a0.Owner.length : Int)) ∧ f 47 = (.int .i64 s1061) ∧ Mem w0 w (cat [h764, hF])) F _ _ ⟨0, _, he, rfl, q766, rfl, rfl, rfl, Mem.pick [0, 1] rfl hm1035⟩ ?_ ?_
    ·
     rintro a w ⟨s1061, f, he, rfl, q1058, q1059, q1060, q1062, hm1082⟩
     rw [impl_PoolOK_l2] at he; exact none_no he
    ·
     rintro k a w ⟨s1061, f, he, rfl, q1058, q1059, q1060, q1062, hm1084⟩
     rw [impl_PoolOK_l2] at he
     refine wp_seq ?_
     refine wp_region_lit ?_
     refine s_val (v := (.bool (decide (s1061 < (a0.Owner.length : Int))))) (won rfl) rfl rfl (x_lss rfl (ev (t := 47) (v := (.int .i64 s1061)) rfl q1062) (ev (t := 46) (v := (.int .i64 (a0.Owner.length : Int))) rfl q1060)) ?_
     refine wpList_nil ?_
     refine nx ?_
     refine wp_seq ?_
     rcases Bool.eq_false_or_eq_true ((decide (s1061 < (a0.Owner.length : Int)))) with hb1086 | hb1086
     ·
      replace he := bifT he hb1086
      refine c_true rfl (p := (decide (s1061 < (a0.Owner.length : Int)))) rfl rfl hb1086 ?_
      refine wp_skip ?_
      refine nx ?_
      refine wp_seq ?_
      refine wp_block ?_
      refine wp_seq ?_
      obtain ⟨hg1095, he⟩ := gdE he
      refine wp_region_lit ?_
      refine s_val (v := (.int .i64 s1061)) (won rfl) rfl rfl (x_move rfl (ev (t := 47) (v := (.int .i64 s1061)) rfl q1062)) ?_
      refine s_val (v := (.pointer (some ((slA v0x1).add (Int.toNat s1061 * 1))))) (won rfl) rfl rfl (x_index (d := (FK.int .i64)) rfl slt_26 (ev (t := 45) (v := v0x1) rfl q1059) (ev (t := 47) (v := (.int .i64 s1061)) rfl q1062) H0x1 hg1095.1 hg1095.2) ?_
      refine s_val (v := (.int .i64 (ix a0.Owner s1061))) (won rfl) rfl rfl (x_load rfl ty1x3 (ev (t := 50) rfl rfl) (RdF.cell0 H0x1 hm1084 (Sub.trans hs (Sub.at_ (k := 1) rfl)) hg1095.1 hg1095.2 rfl)) ?_
      refine s_val (v := (.int .i64 s1061)) (won rfl) rfl rfl (x_assign rfl (ev (t := 49) rfl rfl)) ?_
      refine s_val (v := (.int .i64 (ix a0.Owner s1061))) (won rfl) rfl rfl (x_assign rfl (ev (t := 51) rfl rfl)) ?_
      refine wpList_nil ?_
      refine nx ?_
      refine wp_seq ?_
      obtain ⟨hg1096, he⟩ := gdE he
      obtain ⟨hg1097, he⟩ := gdE he
      obtain ⟨r1098, hr1098, he⟩ := bindE he
      refine wp_region_lit ?_
      refine s_val (v := (.int .i64 s1061)) (won rfl) rfl rfl (x_move rfl (ev (t := 6) rfl rfl)) ?_
      refine s_val (v := (.pointer (some ((slA p568.1).add (Int.toNat s1061 * 1))))) (won rfl) rfl rfl (x_indexA rfl arr_105 (ev (t := 3) (v := (.pointer (some (slA p568.1)))) rfl q1058) (ev (t := 52) rfl rfl) hg1096.1 (by have := hg1096.2; rw [hg1097] at this; omega)) ?_
      refine s_val (v := (.bool (ix s767 s1061))) (won rfl) rfl rfl (x_load rfl ty1x4 (ev (t := 53) rfl rfl) (RdF.cell0 (H765.rd w0) hm1084 (Sub.at_ (k := 0) rfl) hg1096.1 hg1096.2 rfl)) ?_
      refine s_val (v := (.int .i64 (ix a0.Owner s1061))) (won rfl) rfl rfl (x_move rfl (ev (t := 7) rfl rfl)) ?_
      refine s_val (v := (.bool (decide ((ix a0.Owner s1061) = (-1))))) (won rfl) rfl rfl (x_eql rfl (ev (t := 55) rfl rfl) rfl) ?_
      refine s_val (v := (.bool (!((ix s767 s1061) == (decide ((ix a0.Owner s1061) = (-1))))))) (won rfl) rfl rfl (x_bneq rfl un_4 (ev (t := 54) rfl rfl) (ev (t := 56) rfl rfl)) ?_
      refine s_val (v := (.bool (!((ix s767 s1061) == (decide ((ix a0.Owner s1061) = (-1))))))) (won rfl) rfl rfl (x_move rfl (ev (t := 57) rfl rfl)) ?_
      refine s_cval (p := (!(!((ix s767 s1061) == (decide ((ix a0.Owner s1061) = (-1))))))) (v := (.int .i64 (ix a0.Owner s1061))) (won_f (j := 6) (t := 58) (q := (!((ix s767 s1061) == (decide ((ix a0.Owner s1061) = (-1)))))) rfl rfl rfl rfl rfl) rfl rfl (fun hp => (x_move rfl (ev (t := 7) rfl rfl))) ?_
      refine s_cval (p := (!(!((ix s767 s1061) == (decide ((ix a0.Owner s1061) = (-1))))))) (v := (.bool (!decide ((ix a0.Owner s1061) = (-1))))) (won_f (j := 6) (t := 58) (q := (!((ix s767 s1061) == (decide ((ix a0.Owner s1061) = (-1)))))) rfl rfl rfl rfl rfl) rfl rfl (fun hp => (x_neq rfl (ev (t := 59) rfl (Eq.trans (b := cv (!(!((ix s767 s1061) == (decide ((ix a0.Owner s1061) = (-1)))))) (.int .i64 (ix a0.Owner s1061))) rfl (on_c hp))) rfl)) ?_
      refine s_cval (p := (!(!((ix s767 s1061) == (decide ((ix a0.Owner s1061) = (-1))))))) (v := (.bool (!decide ((ix a0.Owner s1061) = (-1))))) (won_f (j := 6) (t := 58) (q := (!((ix s767 s1061) == (decide ((ix a0.Owner s1061) = (-1)))))) rfl rfl rfl rfl rfl) rfl rfl (fun hp => (x_move rfl (ev (t := 60) rfl (Eq.trans (b := cv (!(!((ix s767 s1061) == (decide ((ix a0.Owner s1061) = (-1)))))) (.bool (!decide ((ix a0.Owner s1061) = (-1))))) rfl (on_c hp))))) ?_
      refine s_cval (p := ((!(!((ix s767 s1061) == (decide ((ix a0.Owner s1061) = (-1)))))) && (!decide ((ix a0.Owner s1061) = (-1))))) (v := (.int .i64 (ix a0.Owner s1061))) (won_ct (j := 9) (t := 61) (p := (!(!((ix s767 s1061) == (decide ((ix a0.Owner s1061) = (-1))))))) (q := (!decide ((ix a0.Owner s1061) = (-1)))) rfl rfl rfl rfl rfl) rfl rfl (fun hp => (x_move rfl (ev (t := 7) rfl rfl))) ?_
      refine s_ccall (p := ((!(!((ix s767 s1061) == (decide ((ix a0.Owner s1061) = (-1)))))) && (!decide ((ix a0.Owner s1061) = (-1))))) (v := (.bool r1098)) (J := fun w' => Mem w0 w' (cat [h764, hF])) (won_ct (j := 9) (t := 61) (p := (!(!((ix s767 s1061) == (decide ((ix a0.Owner s1061) = (-1))))))) (q := (!decide ((ix a0.Owner s1061) = (-1)))) rfl rfl rfl rfl rfl) rfl rfl (fun hp => (x_call rfl rfl cl_64 (map_lit (map_cons (ev (t := 62) rfl (Eq.trans (b := cv ((!(!((ix s767 s1061) == (decide ((ix a0.Owner s1061) = (-1)))))) && (!decide ((ix a0.Owner s1061) = (-1)))) (.int .i64 (ix a0.Owner s1061))) rfl (on_c hp))) map_nil)))) (fun hp => ((impl_isOwner_ok (hR := (cat [])) (hF := cat [h764, hF]) (ix a0.Owner s1061)  (Mem.one hm1084) (bifT hr1098 hp))).mono fun e w2 h => ⟨h.1, Mem.un h.2⟩) hm1084 ?_
      intro w1099 hm1100
      refine s_cval (p := ((!(!((ix s767 s1061) == (decide ((ix a0.Owner s1061) = (-1)))))) && (!decide ((ix a0.Owner s1061) = (-1))))) (v := (.bool (!r1098))) (won_ct (j := 9) (t := 61) (p := (!(!((ix s767 s1061) == (decide ((ix a0.Owner s1061) = (-1))))))) (q := (!decide ((ix a0.Owner s1061) = (-1)))) rfl rfl rfl rfl rfl) rfl rfl (fun hp => (x_not rfl (ev (t := 63) rfl (Eq.trans (b := cv ((!(!((ix s767 s1061) == (decide ((ix a0.Owner s1061) = (-1)))))) && (!decide ((ix a0.Owner s1061) = (-1)))) (.bool r1098)) rfl (on_c hp))))) ?_
      refine s_cval (p := (!(!((ix s767 s1061) == (decide ((ix a0.Owner s1061) = (-1))))))) (v := (.bool ((!decide ((ix a0.Owner s1061) = (-1))) && (!r1098)))) (won_f (j := 6) (t := 58) (q := (!((ix s767 s1061) == (decide ((ix a0.Owner s1061) = (-1)))))) rfl rfl rfl rfl rfl) rfl rfl (fun hp => (x_pick_and rfl (ev (t := 61) rfl (Eq.trans (b := cv (!(!((ix s767 s1061) == (decide ((ix a0.Owner s1061) = (-1)))))) (.bool (!decide ((ix a0.Owner s1061) = (-1))))) rfl (on_c hp))) (fun hq => ev rfl (Eq.trans (b := cv ((!(!((ix s767 s1061) == (decide ((ix a0.Owner s1061) = (-1)))))) && (!decide ((ix a0.Owner s1061) = (-1)))) (.bool (!r1098))) rfl (on_c (and_i hp hq)))) rfl)) ?_
      refine s_val (v := (.bool ((!((ix s767 s1061) == (decide ((ix a0.Owner s1061) = (-1))))) || ((!decide ((ix a0.Owner s1061) = (-1))) && (!r1098))))) (won rfl) rfl rfl (x_pick_or rfl (ev (t := 58) rfl rfl) rfl (fun hq => ev rfl (Eq.trans (b := cv (!(!((ix s767 s1061) == (decide ((ix a0.Owner s1061) = (-1)))))) (.bool ((!decide ((ix a0.Owner s1061) = (-1))) && (!r1098)))) rfl (on_c (not_i hq))))) ?_
      refine wpList_nil ?_
      refine nx ?_
      rcases Bool.eq_false_or_eq_true (((!((ix s767 s1061) == (decide ((ix a0.Owner s1061) = (-1))))) || ((!decide ((ix a0.Owner s1061) = (-1))) && (!r1098)))) with hb1101 | hb1101
      ·
       replace he := bifT he hb1101
       refine c_true rfl (p := ((!((ix s767 s1061) == (decide ((ix a0.Owner s1061) = (-1))))) || ((!decide ((ix a0.Owner s1061) = (-1))) && (!r1098)))) rfl rfl hb1101 ?_
       refine wp_seq ?_
       refine wp_region_lit ?_
       refine s_val (v := (.bool false)) (won rfl) rfl rfl (x_assign rfl rfl) ?_
       refine wpList_nil ?_
       have hm1102 : Mem w0 w1099 (cat [hF]) := Mem.pick [1] rfl hm1100
       refine nx ?_
       refine wp_ret ?_
       refine rb ?_
       refine xr ?_
       refine xr ?_
       refine rb ?_
       refine xr ?_
       obtain rfl := Option.some.inj he
       replace he := outE hk1033
       obtain rfl := Option.some.inj he
       refine r_ret (v := (.bool false)) (rv_one rfl (RVs.tmp (v := (.bool false)) rfl rfl RVs.nil)) rfl ?_
       exact ⟨rfl, Mem.pick [0] rfl hm1102⟩
      ·
       replace he := bifF he hb1101
       refine c_false rfl (p := ((!((ix s767 s1061) == (decide ((ix a0.Owner s1061) = (-1))))) || ((!decide ((ix a0.Owner s1061) = (-1))) && (!r1098)))) rfl rfl hb1101 ?_
       refine wp_skip ?_
       refine nb ?_
       refine nx ?_
       refine wp_region_lit ?_
       refine s_val (v := (.int .i64 (IntKind.wrap .i64 (s1061 + 1)))) (won rfl) rfl rfl (x_add rfl (ev (t := 47) (v := (.int .i64 s1061)) rfl q1062) rfl) ?_
       refine s_val (v := (.int .i64 (IntKind.wrap .i64 (s1061 + 1)))) (won rfl) rfl rfl (x_move rfl (ev (t := 67) rfl rfl)) ?_
       refine wpList_nil ?_
       refine nx ?_
       exact ⟨(IntKind.wrap .i64 (s1061 + 1)), _, he, rfl, q1058, q1059, q1060, rfl, Mem.pick [0, 1] rfl hm1100⟩
     ·
      replace he := bifF he hb1086
      refine c_false rfl (p := (decide (s1061 < (a0.Owner.length : Int)))) rfl rfl hb1086 ?_
      refine wp_exit ?_
      refine xs ?_
      refine xs ?_
      refine xb ?_
      refine nx ?_
      obtain rfl := Option.some.inj he
      exact ⟨(), _, rfl, rfl, Mem.pick [1] rfl hm1084⟩
   ·
    rintro a w ⟨s1031, f, rfl, rfl, hm1104⟩
    replace he := goE hk1033
    refine wp_seq ?_
    refine wp_region_lit ?_
    refine s_val (v := (.bool true)) (won rfl) rfl rfl (x_assign rfl rfl) ?_
    refine wpList_nil ?_
    refine nx ?_
    refine wp_ret ?_
    obtain rfl := Option.some.inj he
    refine r_ret (v := (.bool true)) (rv_one rfl (RVs.tmp (v := (.bool true)) rfl rfl RVs.nil)) rfl ?_
    exact ⟨rfl, Mem.pick [0] rfl hm1104⟩
end Go.Proofs.Ytpkdolmbhfmjcaa.FnExactPoolStep
