/- What functions of the program compute, and their walks: printed. -/
import Derived.Test.YtpkdolmbhfmjcaaFnExactRingStepT
set_option linter.unusedVariables false
set_option linter.unusedSimpArgs false
set_option linter.unusedSectionVars false
namespace Go.Proofs.Ytpkdolmbhfmjcaa.FnExactRingStep
open Go.RowKit Go.Proofs.Gw
attribute [local irreducible] wpList DG wpQuiet wl
def laws_szIntS (a0 : (List Int)) (a1 : Int) : Option (Int) := (bif (decide ((IntKind.wrap .i64 (a1 - (a0.length : Int))) < 0)) then (some (-1)) else (some (IntKind.wrap .i64 (a1 - (a0.length : Int)))))
set_option maxHeartbeats 400000 in
set_option maxRecDepth 100000 in
theorem laws_szIntS_ok {w0 w : World} {hR hF : Hp} {v0x0 : Value} (a0 : (List Int)) (a1 : Int) {r : (Int)} (H0x0 : RdF w0 (FK.int .i64) v0x0 a0 hR) (hs : Sub hR hF) (hm : Mem w0 w (cat [hF])) (he : laws_szIntS a0 a1 = some r) :
    Calls Try.prog 66 #[v0x0, (.int .i64 a1)] w (fun e w' => e = .returned (.int .i64 r) ∧ Mem w0 w' (cat [hF])) := by
 refine calls_fr (n := 12) Try.func66 rfl rfl rfl ?_
 unfold laws_szIntS at he
 refine wp_seq ?_
 refine wp_region_lit ?_
 refine s_val (v := (.int .i64 0)) (won rfl) rfl rfl (x_assign rfl rfl) ?_
 refine wpList_nil ?_
 refine nx ?_
 refine wp_seq ?_
 refine wp_region_lit ?_
 refine s_val (v := (.int .i64 a1)) (won rfl) rfl rfl (x_move rfl (ev (t := 1) rfl rfl)) ?_
 refine s_val (v := v0x0) (won rfl) rfl rfl (x_move rfl (ev (t := 0) rfl rfl)) ?_
 refine s_val (v := (.int .i64 (a0.length : Int))) (won rfl) rfl rfl (x_len rfl slt_26 (ev (t := 6) rfl rfl) (H0x0).sl) ?_
 refine s_val (v := (.int .i64 (IntKind.wrap .i64 (a1 - (a0.length : Int))))) (won rfl) rfl rfl (x_sub rfl (ev (t := 5) rfl rfl) (ev (t := 7) rfl rfl)) ?_
 refine s_val (v := (.int .i64 (IntKind.wrap .i64 (a1 - (a0.length : Int))))) (won rfl) rfl rfl (x_assign rfl (ev (t := 8) rfl rfl)) ?_
 refine wpList_nil ?_
 refine nx ?_
 refine wp_seq ?_
 refine wp_seq ?_
 refine wp_region_lit ?_
 refine s_val (v := (.int .i64 (IntKind.wrap .i64 (a1 - (a0.length : Int))))) (won rfl) rfl rfl (x_move rfl (ev (t := 1) rfl rfl)) ?_
 refine s_val (v := (.bool (decide ((IntKind.wrap .i64 (a1 - (a0.length : Int))) < 0)))) (won rfl) rfl rfl (x_lss rfl (ev (t := 9) rfl rfl) rfl) ?_
 refine wpList_nil ?_
 refine nx ?_
 rcases Bool.eq_false_or_eq_true ((decide ((IntKind.wrap .i64 (a1 - (a0.length : Int))) < 0))) with hb4 | hb4
 ·
  replace he := bifT he hb4
  refine c_true rfl (p := (decide ((IntKind.wrap .i64 (a1 - (a0.length : Int))) < 0))) rfl rfl hb4 ?_
  refine wp_seq ?_
  refine wp_region_lit ?_
  refine s_val (v := (.int .i64 (-1))) (won rfl) rfl rfl (x_assign rfl rfl) ?_
  refine wpList_nil ?_
  refine nx ?_
  refine wp_ret ?_
  refine xr ?_
  obtain rfl := Option.some.inj he
  refine r_ret (v := (.int .i64 (-1))) (rv_one rfl (RVs.tmp (v := (.int .i64 (-1))) rfl rfl RVs.nil)) rfl ?_
  exact ⟨rfl, Mem.pick [0] rfl hm⟩
 ·
  replace he := bifF he hb4
  refine c_false rfl (p := (decide ((IntKind.wrap .i64 (a1 - (a0.length : Int))) < 0))) rfl rfl hb4 ?_
  refine wp_skip ?_
  refine nx ?_
  refine wp_seq ?_
  refine wp_region_lit ?_
  refine s_val (v := (.int .i64 (IntKind.wrap .i64 (a1 - (a0.length : Int))))) (won rfl) rfl rfl (x_move rfl (ev (t := 1) rfl rfl)) ?_
  refine s_val (v := (.int .i64 (IntKind.wrap .i64 (a1 - (a0.length : Int))))) (won rfl) rfl rfl (x_assign rfl (ev (t := 11) rfl rfl)) ?_
  refine wpList_nil ?_
  refine nx ?_
  refine wp_ret ?_
  obtain rfl := Option.some.inj he
  refine r_ret (v := (.int .i64 (IntKind.wrap .i64 (a1 - (a0.length : Int))))) (rv_one rfl (RVs.tmp (v := (.int .i64 (IntKind.wrap .i64 (a1 - (a0.length : Int))))) rfl rfl RVs.nil)) rfl ?_
  exact ⟨rfl, Mem.pick [0] rfl hm⟩
def laws_szRing (a0 : impl_Ring) (a1 : Int) : Option (Int) := (laws_szIntS a0.Posted a1).bind fun r22 => (bif (decide (r22 < 0)) then (some (-1)) else (laws_szIntS a0.Done r22).bind fun r29 => (bif (decide (r29 < 0)) then (some (-1)) else (some r29)))
set_option maxHeartbeats 400000 in
set_option maxRecDepth 100000 in
theorem laws_szRing_ok {w0 w : World} {hR hF : Hp} {v0x2 : Value} {v0x3 : Value} (a0 : impl_Ring) (a1 : Int) {r : (Int)} (H0x2 : RdF w0 (FK.int .i64) v0x2 a0.Posted hR) (H0x3 : RdF w0 (FK.int .i64) v0x3 a0.Done hR) (hs : Sub hR hF) (hm : Mem w0 w (cat [hF])) (he : laws_szRing a0 a1 = some r) :
    Calls Try.prog 38 #[(.agg #[(.int .i64 a0.Size), (.bool a0.Up), v0x2, v0x3, (.int .i64 a0.Lost), (.int .i64 a0.Pending), (.int .i64 a0.Every), (.int .i64 a0.Signals)]), (.int .i64 a1)] w (fun e w' => e = .returned (.int .i64 r) ∧ Mem w0 w' (cat [hF])) := by
 refine calls_fr (n := 18) Try.func38 rfl rfl rfl ?_
 unfold laws_szRing at he
 refine wp_seq ?_
 refine wp_region_lit ?_
 refine s_exv (won rfl) rfl rfl (e_box (vs := [(.int .i64 a0.Size), (.bool a0.Up), v0x2, v0x3, (.int .i64 a0.Lost), (.int .i64 a0.Pending), (.int .i64 a0.Every), (.int .i64 a0.Signals)]) rfl (ev (t := 0) rfl rfl) rfl hm) ?_
 rintro g18 w19 hm20
 refine s_val (v := (.int .i64 0)) (won rfl) rfl rfl (x_assign rfl rfl) ?_
 refine wpList_nil ?_
 refine nx ?_
 refine wp_seq ?_
 obtain ⟨r22, hr22, he⟩ := bindE he
 refine wp_region_lit ?_
 refine s_val (v := (.pointer (some ⟨g18, 2, none⟩))) (won rfl) rfl rfl (x_field rfl fa_75x2 (ev (t := 2) rfl rfl)) ?_
 refine s_val (v := v0x2) (won rfl) rfl rfl (x_load rfl ty1x26 (ev (t := 5) rfl rfl) (seg_cell (o' := 0) (j := 2) hm20 (k := 0) rfl rfl rfl)) ?_
 refine s_val (v := (.int .i64 a1)) (won rfl) rfl rfl (x_move rfl (ev (t := 1) rfl rfl)) ?_
 refine s_call (won rfl) rfl rfl (x_call rfl rfl cl_66 (map_lit (map_cons (ev (t := 6) rfl rfl) (map_cons (ev (t := 7) rfl rfl) map_nil)))) (laws_szIntS_ok (hR := (cat [hR])) (hF := cat [sg g18 75 (0, 0) [] [(.int .i64 a0.Size), (.bool a0.Up), v0x2, v0x3, (.int .i64 a0.Lost), (.int .i64 a0.Pending), (.int .i64 a0.Every), (.int .i64 a0.Signals)] [], hF]) a0.Posted a1 (H0x2.mono (Sub.at_ (k := 0) rfl)) (subc (Sub.trans hs (Sub.at_ (k := 1) rfl)) subn) (Mem.one hm20) hr22) ?_
 rintro e w23 ⟨rfl, hm24⟩
 refine ⟨_, rfl, ?_⟩
 replace hm24 : Mem w0 w23 (cat [sg g18 75 (0, 0) [] [(.int .i64 a0.Size), (.bool a0.Up), v0x2, v0x3, (.int .i64 a0.Lost), (.int .i64 a0.Pending), (.int .i64 a0.Every), (.int .i64 a0.Signals)] [], hF]) := Mem.un hm24
 refine s_val (v := (.int .i64 r22)) (won rfl) rfl rfl (x_assign rfl (ev (t := 8) rfl rfl)) ?_
 refine wpList_nil ?_
 refine nx ?_
 refine wp_seq ?_
 refine wp_seq ?_
 refine wp_region_lit ?_
 refine s_val (v := (.int .i64 r22)) (won rfl) rfl rfl (x_move rfl (ev (t := 1) rfl rfl)) ?_
 refine s_val (v := (.bool (decide (r22 < 0)))) (won rfl) rfl rfl (x_lss rfl (ev (t := 9) rfl rfl) rfl) ?_
 refine wpList_nil ?_
 refine nx ?_
 rcases Bool.eq_false_or_eq_true ((decide (r22 < 0))) with hb27 | hb27
 ·
  replace he := bifT he hb27
  refine c_true rfl (p := (decide (r22 < 0))) rfl rfl hb27 ?_
  refine wp_seq ?_
  refine wp_region_lit ?_
  refine s_val (v := (.int .i64 (-1))) (won rfl) rfl rfl (x_assign rfl rfl) ?_
  refine wpList_nil ?_
  have hm28 : Mem w0 w23 (cat [hF]) := Mem.pick [1] rfl hm24
  refine nx ?_
  refine wp_ret ?_
  refine xr ?_
  obtain rfl := Option.some.inj he
  refine r_ret (v := (.int .i64 (-1))) (rv_one rfl (RVs.tmp (v := (.int .i64 (-1))) rfl rfl RVs.nil)) rfl ?_
  exact ⟨rfl, Mem.pick [0] rfl hm28⟩
 ·
  replace he := bifF he hb27
  refine c_false rfl (p := (decide (r22 < 0))) rfl rfl hb27 ?_
  refine wp_skip ?_
  refine nx ?_
  refine wp_seq ?_
  obtain ⟨r29, hr29, he⟩ := bindE he
  refine wp_region_lit ?_
  refine s_val (v := (.pointer (some ⟨g18, 3, none⟩))) (won rfl) rfl rfl (x_field rfl fa_75x3 (ev (t := 2) rfl rfl)) ?_
  refine s_val (v := v0x3) (won rfl) rfl rfl (x_load rfl ty1x26 (ev (t := 11) rfl rfl) (seg_cell (o' := 0) (j := 3) hm24 (k := 0) rfl rfl rfl)) ?_
  refine s_val (v := (.int .i64 r22)) (won rfl) rfl rfl (x_move rfl (ev (t := 1) rfl rfl)) ?_
  refine s_call (won rfl) rfl rfl (x_call rfl rfl cl_66 (map_lit (map_cons (ev (t := 12) rfl rfl) (map_cons (ev (t := 13) rfl rfl) map_nil)))) (laws_szIntS_ok (hR := (cat [hR])) (hF := cat [sg g18 75 (0, 0) [] [(.int .i64 a0.Size), (.bool a0.Up), v0x2, v0x3, (.int .i64 a0.Lost), (.int .i64 a0.Pending), (.int .i64 a0.Every), (.int .i64 a0.Signals)] [], hF]) a0.Done r22 (H0x3.mono (Sub.at_ (k := 0) rfl)) (subc (Sub.trans hs (Sub.at_ (k := 1) rfl)) subn) (Mem.one hm24) hr29) ?_
  rintro e w30 ⟨rfl, hm31⟩
  refine ⟨_, rfl, ?_⟩
  replace hm31 : Mem w0 w30 (cat [sg g18 75 (0, 0) [] [(.int .i64 a0.Size), (.bool a0.Up), v0x2, v0x3, (.int .i64 a0.Lost), (.int .i64 a0.Pending), (.int .i64 a0.Every), (.int .i64 a0.Signals)] [], hF]) := Mem.un hm31
  refine s_val (v := (.int .i64 r29)) (won rfl) rfl rfl (x_assign rfl (ev (t := 14) rfl rfl)) ?_
  refine wpList_nil ?_
  have hm32 : Mem w0 w30 (cat [hF]) := Mem.pick [1] rfl hm31
  refine nx ?_
  refine wp_seq ?_
  refine wp_seq ?_
  refine wp_region_lit ?_
  refine s_val (v := (.int .i64 r29)) (won rfl) rfl rfl (x_move rfl (ev (t := 1) rfl rfl)) ?_
  refine s_val (v := (.bool (decide (r29 < 0)))) (won rfl) rfl rfl (x_lss rfl (ev (t := 15) rfl rfl) rfl) ?_
  refine wpList_nil ?_
  refine nx ?_
  rcases Bool.eq_false_or_eq_true ((decide (r29 < 0))) with hb34 | hb34
  ·
   replace he := bifT he hb34
   refine c_true rfl (p := (decide (r29 < 0))) rfl rfl hb34 ?_
   refine wp_seq ?_
   refine wp_region_lit ?_
   refine s_val (v := (.int .i64 (-1))) (won rfl) rfl rfl (x_assign rfl rfl) ?_
   refine wpList_nil ?_
   refine nx ?_
   refine wp_ret ?_
   refine xr ?_
   obtain rfl := Option.some.inj he
   refine r_ret (v := (.int .i64 (-1))) (rv_one rfl (RVs.tmp (v := (.int .i64 (-1))) rfl rfl RVs.nil)) rfl ?_
   exact ⟨rfl, Mem.pick [0] rfl hm32⟩
  ·
   replace he := bifF he hb34
   refine c_false rfl (p := (decide (r29 < 0))) rfl rfl hb34 ?_
   refine wp_skip ?_
   refine nx ?_
   refine wp_seq ?_
   refine wp_region_lit ?_
   refine s_val (v := (.int .i64 r29)) (won rfl) rfl rfl (x_move rfl (ev (t := 1) rfl rfl)) ?_
   refine s_val (v := (.int .i64 r29)) (won rfl) rfl rfl (x_assign rfl (ev (t := 17) rfl rfl)) ?_
   refine wpList_nil ?_
   refine nx ?_
   refine wp_ret ?_
   obtain rfl := Option.some.inj he
   refine r_ret (v := (.int .i64 r29)) (rv_one rfl (RVs.tmp (v := (.int .i64 r29)) rfl rfl RVs.nil)) rfl ?_
   exact ⟨rfl, Mem.pick [0] rfl hm32⟩
def laws_toIntS_l1 (F : Nat) (a0 : (List Int)) : Nat → (List Int) → Int → Option ((List Int))
  | 0, _, _ => none
  | k + 1, s297, s301 => (bif (decide (s301 < (a0.length : Int))) then gd ((0 : Int) ≤ s301 ∧ s301 < (a0.length : Int)) (gd ((0 : Int) ≤ s301 ∧ s301 < (s297.length : Int)) (laws_toIntS_l1 F a0 k (List.set s297 (Int.toNat s301) (ix a0 s301)) (IntKind.wrap .i64 (s301 + 1)))) else (some s297))
def laws_toIntS (F : Nat) (a0 : (List Int)) : Option ((List Int)) := gd ((0 : Int) ≤ (a0.length : Int) ∧ (Int.toNat (a0.length : Int)) * 8 ≤ 140737488355328) ((laws_toIntS_l1 F a0 F (List.replicate (Int.toNat (a0.length : Int)) 0) 0 : Option ((List Int))).bind fun (s256 : ((List Int))) => (some s256))
set_option maxHeartbeats 400000 in
set_option maxRecDepth 100000 in
theorem laws_toIntS_ok (F : Nat) {w0 w : World} {hR hF : Hp} {v0x0 : Value} (a0 : (List Int)) {r : ((List Int))} (H0x0 : RdF w0 (FK.int .i64) v0x0 a0 hR) (hs : Sub hR hF) (hm : Mem w0 w (cat [hF])) (he : laws_toIntS F a0 = some r) :
    Calls Try.prog 68 #[v0x0] w (fun e w' => ∃ (v'0 : Value) (h'0 : Hp), e = .returned v'0 ∧ OwF 3 (FK.int .i64) v'0 r h'0 ∧ Mem w0 w' (cat [h'0, hF])) := by
 refine calls_fr (n := 22) Try.func68 rfl rfl rfl ?_
 unfold laws_toIntS at he
 refine wp_seq ?_
 refine wp_region_lit ?_
 refine s_val (v := (.slice none 0 0)) (won rfl) rfl rfl (x_assign rfl rfl) ?_
 refine wpList_nil ?_
 refine nx ?_
 refine wp_seq ?_
 obtain ⟨hg170, he⟩ := gdE he
 refine wp_region_lit ?_
 refine s_val (v := v0x0) (won rfl) rfl rfl (x_move rfl (ev (t := 0) rfl rfl)) ?_
 refine s_val (v := (.int .i64 (a0.length : Int))) (won rfl) rfl rfl (x_len rfl slt_26 (ev (t := 5) rfl rfl) (H0x0).sl) ?_
 refine s_exv (won rfl) rfl rfl (e_make (d := (FK.int .i64)) (a := 0) rfl slt_26 rfl (ev (t := 6) rfl rfl) (ev (t := 6) rfl rfl) hg170.1 hg170.2 (by have := hg170; omega) hm) ?_
 rintro p172 w174 ⟨H173, hm175⟩
 replace hm175 : Mem w0 w174 (cat [p172.2, hF]) := hm175
 refine s_val (v := p172.1) (won rfl) rfl rfl (x_assign rfl (ev (t := 7) rfl rfl)) ?_
 refine wpList_nil ?_
 refine nx ?_
 obtain ⟨s256, hT258, hk257⟩ := bindE he
 replace he := hT258
 refine wp_seqJ (fun a w => ∃ (h253 : Hp) (f : Nat → Value), a = fr 22 f ∧ f 3 = p172.1 ∧ OwF 3 (FK.int .i64) p172.1 s256 h253 ∧ Mem w0 w (cat [h253, hF])) ?_ ?_
 ·
  refine wp_seq ?_
  refine wp_region_lit ?_
  refine s_val (v := (.int .i64 0)) (won rfl) rfl rfl (x_assign rfl rfl) ?_
  refine wpList_nil ?_
  refine nx ?_
  refine wp_block ?_
  refine wp_fuel (I := fun k => fun a w => ∃ (s297 : (List Int)) (s301 : Int) (h298 : Hp) (f : Nat → Value), laws_toIntS_l1 F a0 k s297 s301 = some s256 ∧ a = fr 22 f ∧ f 0 = v0x0 ∧ f 3 = p172.1 ∧ f 4 = (.int .i64 s301) ∧ OwF 3 (FK.int .i64) p172.1 s297 h298 ∧ Mem w0 w (cat [h298, hF])) F _ _ ⟨(List.replicate (Int.toNat (a0.length : Int)) 0), 0, p172.2, _, he, rfl, rfl, rfl, rfl, H173, Mem.pick [0, 1] rfl hm175⟩ ?_ ?_
  ·
   rintro a w ⟨s297, s301, h298, f, he, rfl, q296, q300, q302, H299, hm318⟩
   rw [laws_toIntS_l1] at he; exact none_no he
  ·
   rintro k a w ⟨s297, s301, h298, f, he, rfl, q296, q300, q302, H299, hm320⟩
   rw [laws_toIntS_l1] at he
   refine wp_seq ?_
   refine wp_seq ?_
   refine wp_region_lit ?_
   refine s_val (v := (.int .i64 s301)) (won rfl) rfl rfl (x_move rfl (ev (t := 4) (v := (.int .i64 s301)) rfl q302)) ?_
   refine s_val (v := v0x0) (won rfl) rfl rfl (x_move rfl (ev (t := 0) (v := v0x0) rfl q296)) ?_
   refine s_val (v := (.int .i64 (a0.length : Int))) (won rfl) rfl rfl (x_len rfl slt_26 (ev (t := 9) rfl rfl) (H0x0).sl) ?_
   refine s_val (v := (.bool (decide (s301 < (a0.length : Int))))) (won rfl) rfl rfl (x_lss rfl (ev (t := 8) rfl rfl) (ev (t := 10) rfl rfl)) ?_
   refine wpList_nil ?_
   refine nx ?_
   rcases Bool.eq_false_or_eq_true ((decide (s301 < (a0.length : Int)))) with hb322 | hb322
   ·
    replace he := bifT he hb322
    refine c_true rfl (p := (decide (s301 < (a0.length : Int)))) rfl rfl hb322 ?_
    refine wp_skip ?_
    refine nx ?_
    refine wp_seq ?_
    refine wp_block ?_
    obtain ⟨hg329, he⟩ := gdE he
    obtain ⟨hg330, he⟩ := gdE he
    refine wp_region_lit ?_
    refine s_val (v := p172.1) (won rfl) rfl rfl (x_move rfl (ev (t := 3) (v := p172.1) rfl q300)) ?_
    refine s_val (v := (.int .i64 s301)) (won rfl) rfl rfl (x_move rfl (ev (t := 4) (v := (.int .i64 s301)) rfl q302)) ?_
    refine s_val (v := v0x0) (won rfl) rfl rfl (x_move rfl (ev (t := 0) (v := v0x0) rfl q296)) ?_
    refine s_val (v := (.int .i64 s301)) (won rfl) rfl rfl (x_move rfl (ev (t := 4) (v := (.int .i64 s301)) rfl q302)) ?_
    refine s_val (v := (.pointer (some ((slA v0x0).add (Int.toNat s301 * 1))))) (won rfl) rfl rfl (x_index (d := (FK.int .i64)) rfl slt_26 (ev (t := 16) rfl rfl) (ev (t := 17) rfl rfl) H0x0 hg329.1 hg329.2) ?_
    refine s_val (v := (.int .i64 (ix a0 s301))) (won rfl) rfl rfl (x_load rfl ty1x3 (ev (t := 18) rfl rfl) (RdF.cell0 H0x0 hm320 (Sub.trans hs (Sub.at_ (k := 1) rfl)) hg329.1 hg329.2 rfl)) ?_
    refine s_val (v := (.pointer (some ((slA p172.1).add (Int.toNat s301 * 1))))) (won rfl) rfl rfl (x_index (d := (FK.int .i64)) rfl slt_26 (ev (t := 14) rfl rfl) (ev (t := 15) rfl rfl) (H299.rd w0) hg330.1 hg330.2) ?_
    refine s_exw (won rfl) rfl (e_storeF (d := (FK.int .i64)) (s := (ix a0 s301)) (vs := [(.int .i64 (ix a0 s301))]) (j := 0) rfl sz_3 (ev (t := 20) rfl rfl) (add_0 _).symm (ev (t := 19) rfl rfl) rfl rfl H299 hg330.1 hg330.2 rfl rfl hm320 (k := 0) rfl) ?_
    rintro h331 w333 ⟨H332, hm334⟩
    replace hm334 : Mem w0 w333 (cat [h331, hF]) := hm334
    refine wpList_nil ?_
    refine nb ?_
    refine nx ?_
    refine wp_region_lit ?_
    refine s_val (v := (.int .i64 s301)) (won rfl) rfl rfl (x_move rfl (ev (t := 4) (v := (.int .i64 s301)) rfl q302)) ?_
    refine s_val (v := (.int .i64 (IntKind.wrap .i64 (s301 + 1)))) (won rfl) rfl rfl (x_add rfl (ev (t := 12) rfl rfl) rfl) ?_
    refine s_val (v := (.int .i64 (IntKind.wrap .i64 (s301 + 1)))) (won rfl) rfl rfl (x_assign rfl (ev (t := 13) rfl rfl)) ?_
    refine wpList_nil ?_
    refine nx ?_
    exact ⟨(List.set s297 (Int.toNat s301) (ix a0 s301)), (IntKind.wrap .i64 (s301 + 1)), h331, _, he, rfl, q296, q300, rfl, H332, Mem.pick [0, 1] rfl hm334⟩
   ·
    replace he := bifF he hb322
    refine c_false rfl (p := (decide (s301 < (a0.length : Int)))) rfl rfl hb322 ?_
    refine wp_exit ?_
    refine xs ?_
    refine xs ?_
    refine xb ?_
    refine nx ?_
    obtain rfl := Option.some.inj he
    exact ⟨h298, _, rfl, q300, H299, Mem.pick [0, 1] rfl hm320⟩
 ·
  rintro a w ⟨h253, f, rfl, q255, H254, hm336⟩
  replace he := hk257
  refine wp_seq ?_
  refine wp_region_lit ?_
  refine s_val (v := p172.1) (won rfl) rfl rfl (x_move rfl (ev (t := 3) (v := p172.1) rfl q255)) ?_
  refine s_val (v := p172.1) (won rfl) rfl rfl (x_assign rfl (ev (t := 21) rfl rfl)) ?_
  refine wpList_nil ?_
  refine nx ?_
  refine wp_ret ?_
  obtain rfl := Option.some.inj he
  refine r_ret (v := p172.1) (rv_one rfl (RVs.tmp (v := p172.1) rfl rfl RVs.nil)) rfl ?_
  exact ⟨p172.1, h253, rfl, H254, Mem.pick [0, 1] rfl hm336⟩
def laws_toRing (F : Nat) (a0 : impl_Ring) : Option (impl_Ring) := (laws_toIntS F a0.Posted).bind fun r71 => (laws_toIntS F a0.Done).bind fun r80 => (some (impl_Ring.mk a0.Size a0.Up r71 r80 a0.Lost a0.Pending a0.Every a0.Signals))
set_option maxHeartbeats 400000 in
set_option maxRecDepth 100000 in
theorem laws_toRing_ok (F : Nat) {w0 w : World} {hR hF : Hp} {v0x2 : Value} {v0x3 : Value} (a0 : impl_Ring) {r : (impl_Ring)} (H0x2 : RdF w0 (FK.int .i64) v0x2 a0.Posted hR) (H0x3 : RdF w0 (FK.int .i64) v0x3 a0.Done hR) (hs : Sub hR hF) (hm : Mem w0 w (cat [hF])) (he : laws_toRing F a0 = some r) :
    Calls Try.prog 40 #[(.agg #[(.int .i64 a0.Size), (.bool a0.Up), v0x2, v0x3, (.int .i64 a0.Lost), (.int .i64 a0.Pending), (.int .i64 a0.Every), (.int .i64 a0.Signals)])] w (fun e w' => ∃ (v'0 : Value) (h'0 : Hp) (v'1 : Value) (h'1 : Hp), e = .returned (.agg #[(.int .i64 r.Size), (.bool r.Up), v'0, v'1, (.int .i64 r.Lost), (.int .i64 r.Pending), (.int .i64 r.Every), (.int .i64 r.Signals)]) ∧ OwF 3 (FK.int .i64) v'0 r.Posted h'0 ∧ OwF 3 (FK.int .i64) v'1 r.Done h'1 ∧ Mem w0 w' (cat [h'0, h'1, hF])) := by
 refine calls_fr (n := 31) Try.func40 rfl rfl rfl ?_
 unfold laws_toRing at he
 refine wp_seq ?_
 refine wp_region_lit ?_
 refine s_exv (won rfl) rfl rfl (e_box (vs := [(.int .i64 a0.Size), (.bool a0.Up), v0x2, v0x3, (.int .i64 a0.Lost), (.int .i64 a0.Pending), (.int .i64 a0.Every), (.int .i64 a0.Signals)]) rfl (ev (t := 0) rfl rfl) rfl hm) ?_
 rintro g51 w52 hm53
 refine s_exv (won rfl) rfl rfl (e_alloc (vs := [(.int .i64 0), (.bool false), (.slice none 0 0), (.slice none 0 0), (.int .i64 0), (.int .i64 0), (.int .i64 0), (.int .i64 0)]) rfl zt_65 rfl hm53) ?_
 rintro g57 w58 hm59
 refine wpList_nil ?_
 refine nx ?_
 refine wp_seq ?_
 refine wp_region_lit ?_
 refine s_exv (won rfl) rfl rfl (e_alloc (vs := [(.int .i64 0), (.bool false), (.slice none 0 0), (.slice none 0 0), (.int .i64 0), (.int .i64 0), (.int .i64 0), (.int .i64 0)]) rfl zt_65 rfl hm59) ?_
 rintro g63 w64 hm65
 refine wpList_nil ?_
 refine nx ?_
 refine wp_seq ?_
 refine wp_region_lit ?_
 refine s_val (v := (.pointer (some ⟨g51, 0, none⟩))) (won rfl) rfl rfl (x_field rfl fa_75x0 (ev (t := 1) rfl rfl)) ?_
 refine s_val (v := (.int .i64 a0.Size)) (won rfl) rfl rfl (x_load rfl ty1x3 (ev (t := 4) rfl rfl) (seg_cell (o' := 0) (j := 0) hm65 (k := 2) rfl rfl rfl)) ?_
 refine s_val (v := (.pointer (some ⟨g63, 0, none⟩))) (won rfl) rfl rfl (x_field rfl fa_65x0 (ev (t := 3) rfl rfl)) ?_
 refine s_exs (won rfl) rfl (e_store (vs := [(.int .i64 a0.Size)]) (o' := 0) (j := 0) rfl sz_3 (ev (t := 6) rfl rfl) (ev (t := 5) rfl rfl) rfl rfl hm65 (k := 0) rfl rfl rfl) ?_
 intro w67 hm68
 replace hm68 : Mem w0 w67 (cat [sg g63 65 (0, 0) [] [(.int .i64 a0.Size), (.bool false), (.slice none 0 0), (.slice none 0 0), (.int .i64 0), (.int .i64 0), (.int .i64 0), (.int .i64 0)] [], sg g57 65 (0, 0) [] [(.int .i64 0), (.bool false), (.slice none 0 0), (.slice none 0 0), (.int .i64 0), (.int .i64 0), (.int .i64 0), (.int .i64 0)] [], sg g51 75 (0, 0) [] [(.int .i64 a0.Size), (.bool a0.Up), v0x2, v0x3, (.int .i64 a0.Lost), (.int .i64 a0.Pending), (.int .i64 a0.Every), (.int .i64 a0.Signals)] [], hF]) := hm68
 refine wpList_nil ?_
 refine nx ?_
 refine wp_seq ?_
 refine wp_region_lit ?_
 refine s_val (v := (.pointer (some ⟨g51, 1, none⟩))) (won rfl) rfl rfl (x_field rfl fa_75x1 (ev (t := 1) rfl rfl)) ?_
 refine s_val (v := (.bool a0.Up)) (won rfl) rfl rfl (x_load rfl ty1x4 (ev (t := 7) rfl rfl) (seg_cell (o' := 0) (j := 1) hm68 (k := 2) rfl rfl rfl)) ?_
 refine s_val (v := (.pointer (some ⟨g63, 1, none⟩))) (won rfl) rfl rfl (x_field rfl fa_65x1 (ev (t := 3) rfl rfl)) ?_
 refine s_exs (won rfl) rfl (e_store (vs := [(.bool a0.Up)]) (o' := 0) (j := 1) rfl sz_4 (ev (t := 9) rfl rfl) (ev (t := 8) rfl rfl) rfl rfl hm68 (k := 0) rfl rfl rfl) ?_
 intro w69 hm70
 replace hm70 : Mem w0 w69 (cat [sg g63 65 (0, 0) [] [(.int .i64 a0.Size), (.bool a0.Up), (.slice none 0 0), (.slice none 0 0), (.int .i64 0), (.int .i64 0), (.int .i64 0), (.int .i64 0)] [], sg g57 65 (0, 0) [] [(.int .i64 0), (.bool false), (.slice none 0 0), (.slice none 0 0), (.int .i64 0), (.int .i64 0), (.int .i64 0), (.int .i64 0)] [], sg g51 75 (0, 0) [] [(.int .i64 a0.Size), (.bool a0.Up), v0x2, v0x3, (.int .i64 a0.Lost), (.int .i64 a0.Pending), (.int .i64 a0.Every), (.int .i64 a0.Signals)] [], hF]) := hm70
 refine wpList_nil ?_
 refine nx ?_
 refine wp_seq ?_
 obtain ⟨r71, hr71, he⟩ := bindE he
 refine wp_region_lit ?_
 refine s_val (v := (.pointer (some ⟨g51, 2, none⟩))) (won rfl) rfl rfl (x_field rfl fa_75x2 (ev (t := 1) rfl rfl)) ?_
 refine s_val (v := v0x2) (won rfl) rfl rfl (x_load rfl ty1x26 (ev (t := 10) rfl rfl) (seg_cell (o' := 0) (j := 2) hm70 (k := 2) rfl rfl rfl)) ?_
 refine s_call (won rfl) rfl rfl (x_call rfl rfl cl_68 (map_lit (map_cons (ev (t := 11) rfl rfl) map_nil))) (laws_toIntS_ok F (hR := (cat [hR])) (hF := cat [sg g63 65 (0, 0) [] [(.int .i64 a0.Size), (.bool a0.Up), (.slice none 0 0), (.slice none 0 0), (.int .i64 0), (.int .i64 0), (.int .i64 0), (.int .i64 0)] [], sg g57 65 (0, 0) [] [(.int .i64 0), (.bool false), (.slice none 0 0), (.slice none 0 0), (.int .i64 0), (.int .i64 0), (.int .i64 0), (.int .i64 0)] [], sg g51 75 (0, 0) [] [(.int .i64 a0.Size), (.bool a0.Up), v0x2, v0x3, (.int .i64 a0.Lost), (.int .i64 a0.Pending), (.int .i64 a0.Every), (.int .i64 a0.Signals)] [], hF]) a0.Posted (H0x2.mono (Sub.at_ (k := 0) rfl)) (subc (Sub.trans hs (Sub.at_ (k := 3) rfl)) subn) (Mem.one hm70) hr71) ?_
 rintro e w76 ⟨v73, h75, rfl, H74, hm77⟩
 refine ⟨_, rfl, ?_⟩
 replace hm77 : Mem w0 w76 (cat [h75, sg g63 65 (0, 0) [] [(.int .i64 a0.Size), (.bool a0.Up), (.slice none 0 0), (.slice none 0 0), (.int .i64 0), (.int .i64 0), (.int .i64 0), (.int .i64 0)] [], sg g57 65 (0, 0) [] [(.int .i64 0), (.bool false), (.slice none 0 0), (.slice none 0 0), (.int .i64 0), (.int .i64 0), (.int .i64 0), (.int .i64 0)] [], sg g51 75 (0, 0) [] [(.int .i64 a0.Size), (.bool a0.Up), v0x2, v0x3, (.int .i64 a0.Lost), (.int .i64 a0.Pending), (.int .i64 a0.Every), (.int .i64 a0.Signals)] [], hF]) := Mem.ung [h75] [sg g63 65 (0, 0) [] [(.int .i64 a0.Size), (.bool a0.Up), (.slice none 0 0), (.slice none 0 0), (.int .i64 0), (.int .i64 0), (.int .i64 0), (.int .i64 0)] [], sg g57 65 (0, 0) [] [(.int .i64 0), (.bool false), (.slice none 0 0), (.slice none 0 0), (.int .i64 0), (.int .i64 0), (.int .i64 0), (.int .i64 0)] [], sg g51 75 (0, 0) [] [(.int .i64 a0.Size), (.bool a0.Up), v0x2, v0x3, (.int .i64 a0.Lost), (.int .i64 a0.Pending), (.int .i64 a0.Every), (.int .i64 a0.Signals)] [], hF] hm77
 refine s_val (v := (.pointer (some ⟨g63, 2, none⟩))) (won rfl) rfl rfl (x_field rfl fa_65x2 (ev (t := 3) rfl rfl)) ?_
 refine s_exs (won rfl) rfl (e_store (vs := [v73]) (o' := 0) (j := 2) rfl sz_26 (ev (t := 13) rfl rfl) (ev (t := 12) rfl rfl) (IsSl.cells (H74).sl) (one_cons (IsSl.one (H74).sl) one_nil) hm77 (k := 1) rfl rfl rfl) ?_
 intro w78 hm79
 replace hm79 : Mem w0 w78 (cat [h75, sg g63 65 (0, 0) [] [(.int .i64 a0.Size), (.bool a0.Up), v73, (.slice none 0 0), (.int .i64 0), (.int .i64 0), (.int .i64 0), (.int .i64 0)] [], sg g57 65 (0, 0) [] [(.int .i64 0), (.bool false), (.slice none 0 0), (.slice none 0 0), (.int .i64 0), (.int .i64 0), (.int .i64 0), (.int .i64 0)] [], sg g51 75 (0, 0) [] [(.int .i64 a0.Size), (.bool a0.Up), v0x2, v0x3, (.int .i64 a0.Lost), (.int .i64 a0.Pending), (.int .i64 a0.Every), (.int .i64 a0.Signals)] [], hF]) := hm79
 refine wpList_nil ?_
 refine nx ?_
 refine wp_seq ?_
 obtain ⟨r80, hr80, he⟩ := bindE he
 refine wp_region_lit ?_
 refine s_val (v := (.pointer (some ⟨g51, 3, none⟩))) (won rfl) rfl rfl (x_field rfl fa_75x3 (ev (t := 1) rfl rfl)) ?_
 refine s_val (v := v0x3) (won rfl) rfl rfl (x_load rfl ty1x26 (ev (t := 14) rfl rfl) (seg_cell (o' := 0) (j := 3) hm79 (k := 3) rfl rfl rfl)) ?_
 refine s_call (won rfl) rfl rfl (x_call rfl rfl cl_68 (map_lit (map_cons (ev (t := 15) rfl rfl) map_nil))) (laws_toIntS_ok F (hR := (cat [hR])) (hF := cat [h75, sg g63 65 (0, 0) [] [(.int .i64 a0.Size), (.bool a0.Up), v73, (.slice none 0 0), (.int .i64 0), (.int .i64 0), (.int .i64 0), (.int .i64 0)] [], sg g57 65 (0, 0) [] [(.int .i64 0), (.bool false), (.slice none 0 0), (.slice none 0 0), (.int .i64 0), (.int .i64 0), (.int .i64 0), (.int .i64 0)] [], sg g51 75 (0, 0) [] [(.int .i64 a0.Size), (.bool a0.Up), v0x2, v0x3, (.int .i64 a0.Lost), (.int .i64 a0.Pending), (.int .i64 a0.Every), (.int .i64 a0.Signals)] [], hF]) a0.Done (H0x3.mono (Sub.at_ (k := 0) rfl)) (subc (Sub.trans hs (Sub.at_ (k := 4) rfl)) subn) (Mem.one hm79) hr80) ?_
 rintro e w85 ⟨v82, h84, rfl, H83, hm86⟩
 refine ⟨_, rfl, ?_⟩
 replace hm86 : Mem w0 w85 (cat [h84, h75, sg g63 65 (0, 0) [] [(.int .i64 a0.Size), (.bool a0.Up), v73, (.slice none 0 0), (.int .i64 0), (.int .i64 0), (.int .i64 0), (.int .i64 0)] [], sg g57 65 (0, 0) [] [(.int .i64 0), (.bool false), (.slice none 0 0), (.slice none 0 0), (.int .i64 0), (.int .i64 0), (.int .i64 0), (.int .i64 0)] [], sg g51 75 (0, 0) [] [(.int .i64 a0.Size), (.bool a0.Up), v0x2, v0x3, (.int .i64 a0.Lost), (.int .i64 a0.Pending), (.int .i64 a0.Every), (.int .i64 a0.Signals)] [], hF]) := Mem.ung [h84] [h75, sg g63 65 (0, 0) [] [(.int .i64 a0.Size), (.bool a0.Up), v73, (.slice none 0 0), (.int .i64 0), (.int .i64 0), (.int .i64 0), (.int .i64 0)] [], sg g57 65 (0, 0) [] [(.int .i64 0), (.bool false), (.slice none 0 0), (.slice none 0 0), (.int .i64 0), (.int .i64 0), (.int .i64 0), (.int .i64 0)] [], sg g51 75 (0, 0) [] [(.int .i64 a0.Size), (.bool a0.Up), v0x2, v0x3, (.int .i64 a0.Lost), (.int .i64 a0.Pending), (.int .i64 a0.Every), (.int .i64 a0.Signals)] [], hF] hm86
 refine s_val (v := (.pointer (some ⟨g63, 3, none⟩))) (won rfl) rfl rfl (x_field rfl fa_65x3 (ev (t := 3) rfl rfl)) ?_
 refine s_exs (won rfl) rfl (e_store (vs := [v82]) (o' := 0) (j := 3) rfl sz_26 (ev (t := 17) rfl rfl) (ev (t := 16) rfl rfl) (IsSl.cells (H83).sl) (one_cons (IsSl.one (H83).sl) one_nil) hm86 (k := 2) rfl rfl rfl) ?_
 intro w87 hm88
 replace hm88 : Mem w0 w87 (cat [h84, h75, sg g63 65 (0, 0) [] [(.int .i64 a0.Size), (.bool a0.Up), v73, v82, (.int .i64 0), (.int .i64 0), (.int .i64 0), (.int .i64 0)] [], sg g57 65 (0, 0) [] [(.int .i64 0), (.bool false), (.slice none 0 0), (.slice none 0 0), (.int .i64 0), (.int .i64 0), (.int .i64 0), (.int .i64 0)] [], sg g51 75 (0, 0) [] [(.int .i64 a0.Size), (.bool a0.Up), v0x2, v0x3, (.int .i64 a0.Lost), (.int .i64 a0.Pending), (.int .i64 a0.Every), (.int .i64 a0.Signals)] [], hF]) := hm88
 refine wpList_nil ?_
 refine nx ?_
 refine wp_seq ?_
 refine wp_region_lit ?_
 refine s_val (v := (.pointer (some ⟨g51, 4, none⟩))) (won rfl) rfl rfl (x_field rfl fa_75x4 (ev (t := 1) rfl rfl)) ?_
 refine s_val (v := (.int .i64 a0.Lost)) (won rfl) rfl rfl (x_load rfl ty1x3 (ev (t := 18) rfl rfl) (seg_cell (o' := 0) (j := 4) hm88 (k := 4) rfl rfl rfl)) ?_
 refine s_val (v := (.pointer (some ⟨g63, 4, none⟩))) (won rfl) rfl rfl (x_field rfl fa_65x4 (ev (t := 3) rfl rfl)) ?_
 refine s_exs (won rfl) rfl (e_store (vs := [(.int .i64 a0.Lost)]) (o' := 0) (j := 4) rfl sz_3 (ev (t := 20) rfl rfl) (ev (t := 19) rfl rfl) rfl rfl hm88 (k := 2) rfl rfl rfl) ?_
 intro w89 hm90
 replace hm90 : Mem w0 w89 (cat [h84, h75, sg g63 65 (0, 0) [] [(.int .i64 a0.Size), (.bool a0.Up), v73, v82, (.int .i64 a0.Lost), (.int .i64 0), (.int .i64 0), (.int .i64 0)] [], sg g57 65 (0, 0) [] [(.int .i64 0), (.bool false), (.slice none 0 0), (.slice none 0 0), (.int .i64 0), (.int .i64 0), (.int .i64 0), (.int .i64 0)] [], sg g51 75 (0, 0) [] [(.int .i64 a0.Size), (.bool a0.Up), v0x2, v0x3, (.int .i64 a0.Lost), (.int .i64 a0.Pending), (.int .i64 a0.Every), (.int .i64 a0.Signals)] [], hF]) := hm90
 refine wpList_nil ?_
 refine nx ?_
 refine wp_seq ?_
 refine wp_region_lit ?_
 refine s_val (v := (.pointer (some ⟨g51, 5, none⟩))) (won rfl) rfl rfl (x_field rfl fa_75x5 (ev (t := 1) rfl rfl)) ?_
 refine s_val (v := (.int .i64 a0.Pending)) (won rfl) rfl rfl (x_load rfl ty1x3 (ev (t := 21) rfl rfl) (seg_cell (o' := 0) (j := 5) hm90 (k := 4) rfl rfl rfl)) ?_
 refine s_val (v := (.pointer (some ⟨g63, 5, none⟩))) (won rfl) rfl rfl (x_field rfl fa_65x5 (ev (t := 3) rfl rfl)) ?_
 refine s_exs (won rfl) rfl (e_store (vs := [(.int .i64 a0.Pending)]) (o' := 0) (j := 5) rfl sz_3 (ev (t := 23) rfl rfl) (ev (t := 22) rfl rfl) rfl rfl hm90 (k := 2) rfl rfl rfl) ?_
 intro w91 hm92
 replace hm92 : Mem w0 w91 (cat [h84, h75, sg g63 65 (0, 0) [] [(.int .i64 a0.Size), (.bool a0.Up), v73, v82, (.int .i64 a0.Lost), (.int .i64 a0.Pending), (.int .i64 0), (.int .i64 0)] [], sg g57 65 (0, 0) [] [(.int .i64 0), (.bool false), (.slice none 0 0), (.slice none 0 0), (.int .i64 0), (.int .i64 0), (.int .i64 0), (.int .i64 0)] [], sg g51 75 (0, 0) [] [(.int .i64 a0.Size), (.bool a0.Up), v0x2, v0x3, (.int .i64 a0.Lost), (.int .i64 a0.Pending), (.int .i64 a0.Every), (.int .i64 a0.Signals)] [], hF]) := hm92
 refine wpList_nil ?_
 refine nx ?_
 refine wp_seq ?_
 refine wp_region_lit ?_
 refine s_val (v := (.pointer (some ⟨g51, 6, none⟩))) (won rfl) rfl rfl (x_field rfl fa_75x6 (ev (t := 1) rfl rfl)) ?_
 refine s_val (v := (.int .i64 a0.Every)) (won rfl) rfl rfl (x_load rfl ty1x3 (ev (t := 24) rfl rfl) (seg_cell (o' := 0) (j := 6) hm92 (k := 4) rfl rfl rfl)) ?_
 refine s_val (v := (.pointer (some ⟨g63, 6, none⟩))) (won rfl) rfl rfl (x_field rfl fa_65x6 (ev (t := 3) rfl rfl)) ?_
 refine s_exs (won rfl) rfl (e_store (vs := [(.int .i64 a0.Every)]) (o' := 0) (j := 6) rfl sz_3 (ev (t := 26) rfl rfl) (ev (t := 25) rfl rfl) rfl rfl hm92 (k := 2) rfl rfl rfl) ?_
 intro w93 hm94
 replace hm94 : Mem w0 w93 (cat [h84, h75, sg g63 65 (0, 0) [] [(.int .i64 a0.Size), (.bool a0.Up), v73, v82, (.int .i64 a0.Lost), (.int .i64 a0.Pending), (.int .i64 a0.Every), (.int .i64 0)] [], sg g57 65 (0, 0) [] [(.int .i64 0), (.bool false), (.slice none 0 0), (.slice none 0 0), (.int .i64 0), (.int .i64 0), (.int .i64 0), (.int .i64 0)] [], sg g51 75 (0, 0) [] [(.int .i64 a0.Size), (.bool a0.Up), v0x2, v0x3, (.int .i64 a0.Lost), (.int .i64 a0.Pending), (.int .i64 a0.Every), (.int .i64 a0.Signals)] [], hF]) := hm94
 refine wpList_nil ?_
 refine nx ?_
 refine wp_seq ?_
 refine wp_region_lit ?_
 refine s_val (v := (.pointer (some ⟨g51, 7, none⟩))) (won rfl) rfl rfl (x_field rfl fa_75x7 (ev (t := 1) rfl rfl)) ?_
 refine s_val (v := (.int .i64 a0.Signals)) (won rfl) rfl rfl (x_load rfl ty1x3 (ev (t := 27) rfl rfl) (seg_cell (o' := 0) (j := 7) hm94 (k := 4) rfl rfl rfl)) ?_
 refine s_val (v := (.pointer (some ⟨g63, 7, none⟩))) (won rfl) rfl rfl (x_field rfl fa_65x7 (ev (t := 3) rfl rfl)) ?_
 refine s_exs (won rfl) rfl (e_store (vs := [(.int .i64 a0.Signals)]) (o' := 0) (j := 7) rfl sz_3 (ev (t := 29) rfl rfl) (ev (t := 28) rfl rfl) rfl rfl hm94 (k := 2) rfl rfl rfl) ?_
 intro w95 hm96
 replace hm96 : Mem w0 w95 (cat [h84, h75, sg g63 65 (0, 0) [] [(.int .i64 a0.Size), (.bool a0.Up), v73, v82, (.int .i64 a0.Lost), (.int .i64 a0.Pending), (.int .i64 a0.Every), (.int .i64 a0.Signals)] [], sg g57 65 (0, 0) [] [(.int .i64 0), (.bool false), (.slice none 0 0), (.slice none 0 0), (.int .i64 0), (.int .i64 0), (.int .i64 0), (.int .i64 0)] [], sg g51 75 (0, 0) [] [(.int .i64 a0.Size), (.bool a0.Up), v0x2, v0x3, (.int .i64 a0.Lost), (.int .i64 a0.Pending), (.int .i64 a0.Every), (.int .i64 a0.Signals)] [], hF]) := hm96
 refine wpList_nil ?_
 have hm97 : Mem w0 w95 (cat [h84, h75, sg g63 65 (0, 0) [] [(.int .i64 a0.Size), (.bool a0.Up), v73, v82, (.int .i64 a0.Lost), (.int .i64 a0.Pending), (.int .i64 a0.Every), (.int .i64 a0.Signals)] [], sg g57 65 (0, 0) [] [(.int .i64 0), (.bool false), (.slice none 0 0), (.slice none 0 0), (.int .i64 0), (.int .i64 0), (.int .i64 0), (.int .i64 0)] [], hF]) := Mem.pick [0, 1, 2, 3, 5] rfl hm96
 refine nx ?_
 refine wp_seq ?_
 refine wp_region_lit ?_
 refine s_val (v := (.agg #[(.int .i64 a0.Size), (.bool a0.Up), v73, v82, (.int .i64 a0.Lost), (.int .i64 a0.Pending), (.int .i64 a0.Every), (.int .i64 a0.Signals)])) (won rfl) rfl rfl (x_loadN (vs := [(.int .i64 a0.Size), (.bool a0.Up), v73, v82, (.int .i64 a0.Lost), (.int .i64 a0.Pending), (.int .i64 a0.Every), (.int .i64 a0.Signals)]) rfl tyN_65 (ev (t := 3) rfl rfl) (seg_cells (o' := 0) (j := 0) hm97 (k := 2) rfl rfl rfl)) ?_
 refine s_exs (won rfl) rfl (e_store (vs := [(.int .i64 a0.Size), (.bool a0.Up), v73, v82, (.int .i64 a0.Lost), (.int .i64 a0.Pending), (.int .i64 a0.Every), (.int .i64 a0.Signals)]) (o' := 0) (j := 0) rfl sz_65 (ev (t := 2) rfl rfl) (ev (t := 30) rfl rfl) rfl (one_cons rfl (one_cons rfl (one_cons (IsSl.one (H74).sl) (one_cons (IsSl.one (H83).sl) (one_cons rfl (one_cons rfl (one_cons rfl (one_cons rfl one_nil)))))))) hm97 (k := 3) rfl rfl rfl) ?_
 intro w98 hm99
 replace hm99 : Mem w0 w98 (cat [h84, h75, sg g63 65 (0, 0) [] [(.int .i64 a0.Size), (.bool a0.Up), v73, v82, (.int .i64 a0.Lost), (.int .i64 a0.Pending), (.int .i64 a0.Every), (.int .i64 a0.Signals)] [], sg g57 65 (0, 0) [] [(.int .i64 a0.Size), (.bool a0.Up), v73, v82, (.int .i64 a0.Lost), (.int .i64 a0.Pending), (.int .i64 a0.Every), (.int .i64 a0.Signals)] [], hF]) := hm99
 refine wpList_nil ?_
 have hm100 : Mem w0 w98 (cat [h84, h75, sg g57 65 (0, 0) [] [(.int .i64 a0.Size), (.bool a0.Up), v73, v82, (.int .i64 a0.Lost), (.int .i64 a0.Pending), (.int .i64 a0.Every), (.int .i64 a0.Signals)] [], hF]) := Mem.pick [0, 1, 3, 4] rfl hm99
 refine nx ?_
 refine wp_ret ?_
 obtain rfl := Option.some.inj he
 refine r_ret (v := (.agg #[(.int .i64 a0.Size), (.bool a0.Up), v73, v82, (.int .i64 a0.Lost), (.int .i64 a0.Pending), (.int .i64 a0.Every), (.int .i64 a0.Signals)])) (rv_one rfl (RVs.cell (cs := [(.int .i64 a0.Size), (.bool a0.Up), v73, v82, (.int .i64 a0.Lost), (.int .i64 a0.Pending), (.int .i64 a0.Every), (.int .i64 a0.Signals)]) rfl rfl tyN_65 (seg_cells (o' := 0) (j := 0) hm100 (k := 2) rfl rfl rfl) RVs.nil)) rfl ?_
 exact ⟨v73, h75, v82, h84, rfl, H74, H83, Mem.pick [1, 0, 3] rfl hm100⟩
def laws_toRingAct (a0 : impl_RingAct) : Option (impl_RingAct) := (some a0)
set_option maxHeartbeats 400000 in
set_option maxRecDepth 100000 in
theorem laws_toRingAct_ok {w0 w : World} {hR hF : Hp} (a0 : impl_RingAct) {r : (impl_RingAct)} (hm : Mem w0 w (cat [hF])) (he : laws_toRingAct a0 = some r) :
    Calls Try.prog 41 #[(.agg #[(.int .i64 a0.Kind), (.int .i64 a0.N)])] w (fun e w' => e = .returned (.agg #[(.int .i64 r.Kind), (.int .i64 r.N)]) ∧ Mem w0 w' (cat [hF])) := by
 refine calls_fr (n := 11) Try.func41 rfl rfl rfl ?_
 unfold laws_toRingAct at he
 refine wp_seq ?_
 refine wp_region_lit ?_
 refine s_exv (won rfl) rfl rfl (e_box (vs := [(.int .i64 a0.Kind), (.int .i64 a0.N)]) rfl (ev (t := 0) rfl rfl) rfl hm) ?_
 rintro g21 w22 hm23
 refine s_exv (won rfl) rfl rfl (e_alloc (vs := [(.int .i64 0), (.int .i64 0)]) rfl zt_74 rfl hm23) ?_
 rintro g25 w26 hm27
 refine wpList_nil ?_
 refine nx ?_
 refine wp_seq ?_
 refine wp_region_lit ?_
 refine s_exv (won rfl) rfl rfl (e_alloc (vs := [(.int .i64 0), (.int .i64 0)]) rfl zt_74 rfl hm27) ?_
 rintro g29 w30 hm31
 refine wpList_nil ?_
 refine nx ?_
 refine wp_seq ?_
 refine wp_region_lit ?_
 refine s_val (v := (.pointer (some ⟨g21, 0, none⟩))) (won rfl) rfl rfl (x_field rfl fa_76x0 (ev (t := 1) rfl rfl)) ?_
 refine s_val (v := (.int .i64 a0.Kind)) (won rfl) rfl rfl (x_load rfl ty1x3 (ev (t := 4) rfl rfl) (seg_cell (o' := 0) (j := 0) hm31 (k := 2) rfl rfl rfl)) ?_
 refine s_val (v := (.pointer (some ⟨g29, 0, none⟩))) (won rfl) rfl rfl (x_field rfl fa_74x0 (ev (t := 3) rfl rfl)) ?_
 refine s_exs (won rfl) rfl (e_store (vs := [(.int .i64 a0.Kind)]) (o' := 0) (j := 0) rfl sz_3 (ev (t := 6) rfl rfl) (ev (t := 5) rfl rfl) rfl rfl hm31 (k := 0) rfl rfl rfl) ?_
 intro w33 hm34
 replace hm34 : Mem w0 w33 (cat [sg g29 74 (0, 0) [] [(.int .i64 a0.Kind), (.int .i64 0)] [], sg g25 74 (0, 0) [] [(.int .i64 0), (.int .i64 0)] [], sg g21 76 (0, 0) [] [(.int .i64 a0.Kind), (.int .i64 a0.N)] [], hF]) := hm34
 refine wpList_nil ?_
 refine nx ?_
 refine wp_seq ?_
 refine wp_region_lit ?_
 refine s_val (v := (.pointer (some ⟨g21, 1, none⟩))) (won rfl) rfl rfl (x_field rfl fa_76x1 (ev (t := 1) rfl rfl)) ?_
 refine s_val (v := (.int .i64 a0.N)) (won rfl) rfl rfl (x_load rfl ty1x3 (ev (t := 7) rfl rfl) (seg_cell (o' := 0) (j := 1) hm34 (k := 2) rfl rfl rfl)) ?_
 refine s_val (v := (.pointer (some ⟨g29, 1, none⟩))) (won rfl) rfl rfl (x_field rfl fa_74x1 (ev (t := 3) rfl rfl)) ?_
 refine s_exs (won rfl) rfl (e_store (vs := [(.int .i64 a0.N)]) (o' := 0) (j := 1) rfl sz_3 (ev (t := 9) rfl rfl) (ev (t := 8) rfl rfl) rfl rfl hm34 (k := 0) rfl rfl rfl) ?_
 intro w35 hm36
 replace hm36 : Mem w0 w35 (cat [sg g29 74 (0, 0) [] [(.int .i64 a0.Kind), (.int .i64 a0.N)] [], sg g25 74 (0, 0) [] [(.int .i64 0), (.int .i64 0)] [], sg g21 76 (0, 0) [] [(.int .i64 a0.Kind), (.int .i64 a0.N)] [], hF]) := hm36
 refine wpList_nil ?_
 have hm37 : Mem w0 w35 (cat [sg g29 74 (0, 0) [] [(.int .i64 a0.Kind), (.int .i64 a0.N)] [], sg g25 74 (0, 0) [] [(.int .i64 0), (.int .i64 0)] [], hF]) := Mem.pick [0, 1, 3] rfl hm36
 refine nx ?_
 refine wp_seq ?_
 refine wp_region_lit ?_
 refine s_val (v := (.agg #[(.int .i64 a0.Kind), (.int .i64 a0.N)])) (won rfl) rfl rfl (x_loadN (vs := [(.int .i64 a0.Kind), (.int .i64 a0.N)]) rfl tyN_74 (ev (t := 3) rfl rfl) (seg_cells (o' := 0) (j := 0) hm37 (k := 0) rfl rfl rfl)) ?_
 refine s_exs (won rfl) rfl (e_store (vs := [(.int .i64 a0.Kind), (.int .i64 a0.N)]) (o' := 0) (j := 0) rfl sz_74 (ev (t := 2) rfl rfl) (ev (t := 10) rfl rfl) rfl rfl hm37 (k := 1) rfl rfl rfl) ?_
 intro w38 hm39
 replace hm39 : Mem w0 w38 (cat [sg g29 74 (0, 0) [] [(.int .i64 a0.Kind), (.int .i64 a0.N)] [], sg g25 74 (0, 0) [] [(.int .i64 a0.Kind), (.int .i64 a0.N)] [], hF]) := hm39
 refine wpList_nil ?_
 have hm40 : Mem w0 w38 (cat [sg g25 74 (0, 0) [] [(.int .i64 a0.Kind), (.int .i64 a0.N)] [], hF]) := Mem.pick [1, 2] rfl hm39
 refine nx ?_
 refine wp_ret ?_
 obtain rfl := Option.some.inj he
 refine r_ret (v := (.agg #[(.int .i64 a0.Kind), (.int .i64 a0.N)])) (rv_one rfl (RVs.cell (cs := [(.int .i64 a0.Kind), (.int .i64 a0.N)]) rfl rfl tyN_74 (seg_cells (o' := 0) (j := 0) hm40 (k := 0) rfl rfl rfl) RVs.nil)) rfl ?_
 exact ⟨rfl, Mem.pick [1] rfl hm40⟩
def spec_l01In (a0 : Int) (a1 : Int) (a2 : Int) : Option (Bool) := (some ((decide (a1 ≤ a0)) && (decide (a0 ≤ a2))))
set_option maxHeartbeats 400000 in
set_option maxRecDepth 100000 in
theorem spec_l01In_ok {w0 w : World} {hR hF : Hp} (a0 : Int) (a1 : Int) (a2 : Int) {r : (Bool)} (hm : Mem w0 w (cat [hF])) (he : spec_l01In a0 a1 a2 = some r) :
    Calls Try.prog 87 #[(.int .i64 a0), (.int .i64 a1), (.int .i64 a2)] w (fun e w' => e = .returned (.bool r) ∧ Mem w0 w' (cat [hF])) := by
 refine calls_fr (n := 15) Try.func87 rfl rfl rfl ?_
 unfold spec_l01In at he
 refine wp_seq ?_
 refine wp_region_lit ?_
 refine s_val (v := (.bool false)) (won rfl) rfl rfl (x_assign rfl rfl) ?_
 refine wpList_nil ?_
 refine nx ?_
 refine wp_seq ?_
 refine wp_region_lit ?_
 refine s_val (v := (.int .i64 a0)) (won rfl) rfl rfl (x_move rfl (ev (t := 0) rfl rfl)) ?_
 refine s_val (v := (.int .i64 a1)) (won rfl) rfl rfl (x_move rfl (ev (t := 1) rfl rfl)) ?_
 refine s_val (v := (.bool (decide (a1 ≤ a0)))) (won rfl) rfl rfl (x_geq rfl (ev (t := 7) rfl rfl) (ev (t := 8) rfl rfl)) ?_
 refine s_val (v := (.bool (decide (a1 ≤ a0)))) (won rfl) rfl rfl (x_move rfl (ev (t := 9) rfl rfl)) ?_
 refine s_cval (p := (decide (a1 ≤ a0))) (v := (.int .i64 a0)) (won_t (j := 3) (t := 10) (q := (decide (a1 ≤ a0))) rfl rfl rfl rfl rfl) rfl rfl (fun hp => (x_move rfl (ev (t := 0) rfl rfl))) ?_
 refine s_cval (p := (decide (a1 ≤ a0))) (v := (.int .i64 a2)) (won_t (j := 3) (t := 10) (q := (decide (a1 ≤ a0))) rfl rfl rfl rfl rfl) rfl rfl (fun hp => (x_move rfl (ev (t := 2) rfl rfl))) ?_
 refine s_cval (p := (decide (a1 ≤ a0))) (v := (.bool (decide (a0 ≤ a2)))) (won_t (j := 3) (t := 10) (q := (decide (a1 ≤ a0))) rfl rfl rfl rfl rfl) rfl rfl (fun hp => (x_leq rfl (ev (t := 11) rfl (Eq.trans (b := cv (decide (a1 ≤ a0)) (.int .i64 a0)) rfl (on_c hp))) (ev (t := 12) rfl (Eq.trans (b := cv (decide (a1 ≤ a0)) (.int .i64 a2)) rfl (on_c hp))))) ?_
 refine s_val (v := (.bool ((decide (a1 ≤ a0)) && (decide (a0 ≤ a2))))) (won rfl) rfl rfl (x_pick_and rfl (ev (t := 10) rfl rfl) (fun hq => ev rfl (Eq.trans (b := cv (decide (a1 ≤ a0)) (.bool (decide (a0 ≤ a2)))) rfl (on_c hq))) rfl) ?_
 refine s_val (v := (.bool ((decide (a1 ≤ a0)) && (decide (a0 ≤ a2))))) (won rfl) rfl rfl (x_assign rfl (ev (t := 14) rfl rfl)) ?_
 refine wpList_nil ?_
 refine nx ?_
 refine wp_ret ?_
 obtain rfl := Option.some.inj he
 refine r_ret (v := (.bool ((decide (a1 ≤ a0)) && (decide (a0 ≤ a2))))) (rv_one rfl (RVs.tmp (v := (.bool ((decide (a1 ≤ a0)) && (decide (a0 ≤ a2))))) rfl rfl RVs.nil)) rfl ?_
 exact ⟨rfl, Mem.pick [0] rfl hm⟩
def spec_RingOK_l2 (F : Nat) (a0 : impl_Ring) (s1555 : Int) : Nat → Int → Option (Fl (Fl (Bool) (Unit)) (Unit))
  | 0, _ => none
  | k + 1, s1805 => (bif (decide (s1805 < s1555)) then gd ((0 : Int) ≤ s1805 ∧ s1805 < (((([] : List Int) ++ a0.Posted) ++ a0.Done).length : Int)) (gd ((0 : Int) ≤ s1555 ∧ s1555 < (((([] : List Int) ++ a0.Posted) ++ a0.Done).length : Int)) ((bif (decide ((ix ((([] : List Int) ++ a0.Posted) ++ a0.Done) s1805) = (ix ((([] : List Int) ++ a0.Posted) ++ a0.Done) s1555))) then (some (Fl.out (Fl.out false))) else spec_RingOK_l2 F a0 s1555 k (IntKind.wrap .i64 (s1805 + 1))))) else (some (Fl.go ())))
def spec_RingOK_l1 (F : Nat) (a0 : impl_Ring) : Nat → Int → Option (Fl (Bool) (Unit))
  | 0, _ => none
  | k + 1, s1555 => (bif (decide (s1555 < (((([] : List Int) ++ a0.Posted) ++ a0.Done).length : Int))) then (gd ((0 : Int) ≤ s1555 ∧ s1555 < (((([] : List Int) ++ a0.Posted) ++ a0.Done).length : Int)) ((spec_l01In (ix ((([] : List Int) ++ a0.Posted) ++ a0.Done) s1555) 0 999).bind fun r1781 => (bif (!r1781) then (some (Fl.out (Fl.out false))) else spec_RingOK_l2 F a0 s1555 F 0)) : Option (Fl (Fl (Bool) (Unit)) (Unit))).bind fun l1771 => l1771.on fun (s1770 : (Unit)) => spec_RingOK_l1 F a0 k (IntKind.wrap .i64 (s1555 + 1)) else (some (Fl.go ())))
def spec_RingOK (F : Nat) (a0 : impl_Ring) : Option (Bool) := (spec_l01In a0.Size 1 16).bind fun r943 => (bif (!(!r943)) then spec_l01In a0.Every 1 16 else some false).bind fun r946 => (bif (!(((!r943) || (!r946)) || (decide (a0.Size < (IntKind.wrap .i64 ((a0.Posted.length : Int) + (a0.Done.length : Int))))))) then spec_l01In a0.Lost 0 1000000000 else some false).bind fun r949 => (bif (!((((!r943) || (!r946)) || (decide (a0.Size < (IntKind.wrap .i64 ((a0.Posted.length : Int) + (a0.Done.length : Int)))))) || (!r949))) then spec_l01In a0.Signals 0 1000000000 else some false).bind fun r952 => (bif (!(((((!r943) || (!r946)) || (decide (a0.Size < (IntKind.wrap .i64 ((a0.Posted.length : Int) + (a0.Done.length : Int)))))) || (!r949)) || (!r952))) then spec_l01In a0.Pending 0 (IntKind.wrap .i64 (a0.Every - 1)) else some false).bind fun r955 => (bif (((((((!r943) || (!r946)) || (decide (a0.Size < (IntKind.wrap .i64 ((a0.Posted.length : Int) + (a0.Done.length : Int)))))) || (!r949)) || (!r952)) || (!r955)) || (decide ((a0.Done.length : Int) < a0.Pending))) then (some false) else gd ((([] : List Int).length + a0.Posted.length) * 8 ≤ 140737488355328) (gd (((([] : List Int) ++ a0.Posted).length + a0.Done.length) * 8 ≤ 140737488355328) ((spec_RingOK_l1 F a0 F 0 : Option (Fl (Bool) (Unit))).bind fun l1409 => l1409.on fun (s1408 : (Unit)) => (some true))))
set_option maxHeartbeats 400000 in
set_option maxRecDepth 100000 in
theorem spec_RingOK_ok (F : Nat) {w0 w : World} {hR hF : Hp} {v0x2 : Value} {v0x3 : Value} (a0 : impl_Ring) {r : (Bool)} (H0x2 : RdF w0 (FK.int .i64) v0x2 a0.Posted hR) (H0x3 : RdF w0 (FK.int .i64) v0x3 a0.Done hR) (hs : Sub hR hF) (hm : Mem w0 w (cat [hF])) (he : spec_RingOK F a0 = some r) :
    Calls Try.prog 80 #[(.agg #[(.int .i64 a0.Size), (.bool a0.Up), v0x2, v0x3, (.int .i64 a0.Lost), (.int .i64 a0.Pending), (.int .i64 a0.Every), (.int .i64 a0.Signals)])] w (fun e w' => e = .returned (.bool r) ∧ Mem w0 w' (cat [hF])) := by
 refine calls_fr (n := 90) Try.func80 rfl rfl rfl ?_
 unfold spec_RingOK at he
 refine wp_seq ?_
 refine wp_region_lit ?_
 refine s_exv (won rfl) rfl rfl (e_box (vs := [(.int .i64 a0.Size), (.bool a0.Up), v0x2, v0x3, (.int .i64 a0.Lost), (.int .i64 a0.Pending), (.int .i64 a0.Every), (.int .i64 a0.Signals)]) rfl (ev (t := 0) rfl rfl) rfl hm) ?_
 rintro g922 w923 hm924
 refine s_val (v := (.bool false)) (won rfl) rfl rfl (x_assign rfl rfl) ?_
 refine wpList_nil ?_
 refine nx ?_
 refine wp_seq ?_
 refine wp_seq ?_
 obtain ⟨r943, hr943, he⟩ := bindE he
 obtain ⟨r946, hr946, he⟩ := bindE he
 obtain ⟨r949, hr949, he⟩ := bindE he
 obtain ⟨r952, hr952, he⟩ := bindE he
 obtain ⟨r955, hr955, he⟩ := bindE he
 refine wp_region_lit ?_
 refine s_val (v := (.pointer (some ⟨g922, 0, none⟩))) (won rfl) rfl rfl (x_field rfl fa_65x0 (ev (t := 1) rfl rfl)) ?_
 refine s_val (v := (.int .i64 a0.Size)) (won rfl) rfl rfl (x_load rfl ty1x3 (ev (t := 6) rfl rfl) (seg_cell (o' := 0) (j := 0) hm924 (k := 0) rfl rfl rfl)) ?_
 refine s_call (won rfl) rfl rfl (x_call rfl rfl cl_87 (map_lit (map_cons (ev (t := 7) rfl rfl) (map_cons rfl (map_cons rfl map_nil))))) (spec_l01In_ok (hR := (cat [])) (hF := cat [sg g922 65 (0, 0) [] [(.int .i64 a0.Size), (.bool a0.Up), v0x2, v0x3, (.int .i64 a0.Lost), (.int .i64 a0.Pending), (.int .i64 a0.Every), (.int .i64 a0.Signals)] [], hF]) a0.Size 1 16  (Mem.one hm924) hr943) ?_
 rintro e w944 ⟨rfl, hm945⟩
 refine ⟨_, rfl, ?_⟩
 replace hm945 : Mem w0 w944 (cat [sg g922 65 (0, 0) [] [(.int .i64 a0.Size), (.bool a0.Up), v0x2, v0x3, (.int .i64 a0.Lost), (.int .i64 a0.Pending), (.int .i64 a0.Every), (.int .i64 a0.Signals)] [], hF]) := Mem.un hm945
 refine s_val (v := (.bool (!r943))) (won rfl) rfl rfl (x_not rfl (ev (t := 8) rfl rfl)) ?_
 refine s_val (v := (.bool (!r943))) (won rfl) rfl rfl (x_move rfl (ev (t := 9) rfl rfl)) ?_
 refine s_cval (p := (!(!r943))) (v := (.pointer (some ⟨g922, 6, none⟩))) (won_f (j := 4) (t := 10) (q := (!r943)) rfl rfl rfl rfl rfl) rfl rfl (fun hp => (x_field rfl fa_65x6 (ev (t := 1) rfl rfl))) ?_
 refine s_cval (p := (!(!r943))) (v := (.int .i64 a0.Every)) (won_f (j := 4) (t := 10) (q := (!r943)) rfl rfl rfl rfl rfl) rfl rfl (fun hp => (x_load rfl ty1x3 (ev (t := 11) rfl (Eq.trans (b := cv (!(!r943)) (.pointer (some ⟨g922, 6, none⟩))) rfl (on_c hp))) (seg_cell (o' := 0) (j := 6) hm945 (k := 0) rfl rfl rfl))) ?_
 refine s_ccall (p := (!(!r943))) (v := (.bool r946)) (J := fun w' => Mem w0 w' (cat [sg g922 65 (0, 0) [] [(.int .i64 a0.Size), (.bool a0.Up), v0x2, v0x3, (.int .i64 a0.Lost), (.int .i64 a0.Pending), (.int .i64 a0.Every), (.int .i64 a0.Signals)] [], hF])) (won_f (j := 4) (t := 10) (q := (!r943)) rfl rfl rfl rfl rfl) rfl rfl (fun hp => (x_call rfl rfl cl_87 (map_lit (map_cons (ev (t := 12) rfl (Eq.trans (b := cv (!(!r943)) (.int .i64 a0.Every)) rfl (on_c hp))) (map_cons rfl (map_cons rfl map_nil)))))) (fun hp => ((spec_l01In_ok (hR := (cat [])) (hF := cat [sg g922 65 (0, 0) [] [(.int .i64 a0.Size), (.bool a0.Up), v0x2, v0x3, (.int .i64 a0.Lost), (.int .i64 a0.Pending), (.int .i64 a0.Every), (.int .i64 a0.Signals)] [], hF]) a0.Every 1 16  (Mem.one hm945) (bifT hr946 hp))).mono fun e w2 h => ⟨h.1, Mem.un h.2⟩) hm945 ?_
 intro w947 hm948
 refine s_cval (p := (!(!r943))) (v := (.bool (!r946))) (won_f (j := 4) (t := 10) (q := (!r943)) rfl rfl rfl rfl rfl) rfl rfl (fun hp => (x_not rfl (ev (t := 13) rfl (Eq.trans (b := cv (!(!r943)) (.bool r946)) rfl (on_c hp))))) ?_
 refine s_val (v := (.bool ((!r943) || (!r946)))) (won rfl) rfl rfl (x_pick_or rfl (ev (t := 10) rfl rfl) rfl (fun hq => ev rfl (Eq.trans (b := cv (!(!r943)) (.bool (!r946))) rfl (on_c (not_i hq))))) ?_
 refine s_val (v := (.bool ((!r943) || (!r946)))) (won rfl) rfl rfl (x_move rfl (ev (t := 15) rfl rfl)) ?_
 refine s_cval (p := (!((!r943) || (!r946)))) (v := (.pointer (some ⟨g922, 2, none⟩))) (won_f (j := 10) (t := 16) (q := ((!r943) || (!r946))) rfl rfl rfl rfl rfl) rfl rfl (fun hp => (x_field rfl fa_65x2 (ev (t := 1) rfl rfl))) ?_
 refine s_cval (p := (!((!r943) || (!r946)))) (v := v0x2) (won_f (j := 10) (t := 16) (q := ((!r943) || (!r946))) rfl rfl rfl rfl rfl) rfl rfl (fun hp => (x_load rfl ty1x26 (ev (t := 17) rfl (Eq.trans (b := cv (!((!r943) || (!r946))) (.pointer (some ⟨g922, 2, none⟩))) rfl (on_c hp))) (seg_cell (o' := 0) (j := 2) hm948 (k := 0) rfl rfl rfl))) ?_
 refine s_cval (p := (!((!r943) || (!r946)))) (v := (.int .i64 (a0.Posted.length : Int))) (won_f (j := 10) (t := 16) (q := ((!r943) || (!r946))) rfl rfl rfl rfl rfl) rfl rfl (fun hp => (x_len rfl slt_26 (ev (t := 18) rfl (Eq.trans (b := cv (!((!r943) || (!r946))) v0x2) rfl (on_c hp))) (H0x2).sl)) ?_
 refine s_cval (p := (!((!r943) || (!r946)))) (v := (.pointer (some ⟨g922, 3, none⟩))) (won_f (j := 10) (t := 16) (q := ((!r943) || (!r946))) rfl rfl rfl rfl rfl) rfl rfl (fun hp => (x_field rfl fa_65x3 (ev (t := 1) rfl rfl))) ?_
 refine s_cval (p := (!((!r943) || (!r946)))) (v := v0x3) (won_f (j := 10) (t := 16) (q := ((!r943) || (!r946))) rfl rfl rfl rfl rfl) rfl rfl (fun hp => (x_load rfl ty1x26 (ev (t := 20) rfl (Eq.trans (b := cv (!((!r943) || (!r946))) (.pointer (some ⟨g922, 3, none⟩))) rfl (on_c hp))) (seg_cell (o' := 0) (j := 3) hm948 (k := 0) rfl rfl rfl))) ?_
 refine s_cval (p := (!((!r943) || (!r946)))) (v := (.int .i64 (a0.Done.length : Int))) (won_f (j := 10) (t := 16) (q := ((!r943) || (!r946))) rfl rfl rfl rfl rfl) rfl rfl (fun hp => (x_len rfl slt_26 (ev (t := 21) rfl (Eq.trans (b := cv (!((!r943) || (!r946))) v0x3) rfl (on_c hp))) (H0x3).sl)) ?_
 refine s_cval (p := (!((!r943) || (!r946)))) (v := (.int .i64 (IntKind.wrap .i64 ((a0.Posted.length : Int) + (a0.Done.length : Int))))) (won_f (j := 10) (t := 16) (q := ((!r943) || (!r946))) rfl rfl rfl rfl rfl) rfl rfl (fun hp => (x_add rfl (ev (t := 19) rfl (Eq.trans (b := cv (!((!r943) || (!r946))) (.int .i64 (a0.Posted.length : Int))) rfl (on_c hp))) (ev (t := 22) rfl (Eq.trans (b := cv (!((!r943) || (!r946))) (.int .i64 (a0.Done.length : Int))) rfl (on_c hp))))) ?_
 refine s_cval (p := (!((!r943) || (!r946)))) (v := (.pointer (some ⟨g922, 0, none⟩))) (won_f (j := 10) (t := 16) (q := ((!r943) || (!r946))) rfl rfl rfl rfl rfl) rfl rfl (fun hp => (x_field rfl fa_65x0 (ev (t := 1) rfl rfl))) ?_
 refine s_cval (p := (!((!r943) || (!r946)))) (v := (.int .i64 a0.Size)) (won_f (j := 10) (t := 16) (q := ((!r943) || (!r946))) rfl rfl rfl rfl rfl) rfl rfl (fun hp => (x_load rfl ty1x3 (ev (t := 24) rfl (Eq.trans (b := cv (!((!r943) || (!r946))) (.pointer (some ⟨g922, 0, none⟩))) rfl (on_c hp))) (seg_cell (o' := 0) (j := 0) hm948 (k := 0) rfl rfl rfl))) ?_
 refine s_cval (p := (!((!r943) || (!r946)))) (v := (.bool (decide (a0.Size < (IntKind.wrap .i64 ((a0.Posted.length : Int) + (a0.Done.length : Int))))))) (won_f (j := 10) (t := 16) (q := ((!r943) || (!r946))) rfl rfl rfl rfl rfl) rfl rfl (fun hp => (x_gtr rfl (ev (t := 23) rfl (Eq.trans (b := cv (!((!r943) || (!r946))) (.int .i64 (IntKind.wrap .i64 ((a0.Posted.length : Int) + (a0.Done.length : Int))))) rfl (on_c hp))) (ev (t := 25) rfl (Eq.trans (b := cv (!((!r943) || (!r946))) (.int .i64 a0.Size)) rfl (on_c hp))))) ?_
 refine s_val (v := (.bool (((!r943) || (!r946)) || (decide (a0.Size < (IntKind.wrap .i64 ((a0.Posted.length : Int) + (a0.Done.length : Int)))))))) (won rfl) rfl rfl (x_pick_or rfl (ev (t := 16) rfl rfl) rfl (fun hq => ev rfl (Eq.trans (b := cv (!((!r943) || (!r946))) (.bool (decide (a0.Size < (IntKind.wrap .i64 ((a0.Posted.length : Int) + (a0.Done.length : Int))))))) rfl (on_c (not_i hq))))) ?_
 refine s_val (v := (.bool (((!r943) || (!r946)) || (decide (a0.Size < (IntKind.wrap .i64 ((a0.Posted.length : Int) + (a0.Done.length : Int)))))))) (won rfl) rfl rfl (x_move rfl (ev (t := 27) rfl rfl)) ?_
 refine s_cval (p := (!(((!r943) || (!r946)) || (decide (a0.Size < (IntKind.wrap .i64 ((a0.Posted.length : Int) + (a0.Done.length : Int)))))))) (v := (.pointer (some ⟨g922, 4, none⟩))) (won_f (j := 22) (t := 28) (q := (((!r943) || (!r946)) || (decide (a0.Size < (IntKind.wrap .i64 ((a0.Posted.length : Int) + (a0.Done.length : Int))))))) rfl rfl rfl rfl rfl) rfl rfl (fun hp => (x_field rfl fa_65x4 (ev (t := 1) rfl rfl))) ?_
 refine s_cval (p := (!(((!r943) || (!r946)) || (decide (a0.Size < (IntKind.wrap .i64 ((a0.Posted.length : Int) + (a0.Done.length : Int)))))))) (v := (.int .i64 a0.Lost)) (won_f (j := 22) (t := 28) (q := (((!r943) || (!r946)) || (decide (a0.Size < (IntKind.wrap .i64 ((a0.Posted.length : Int) + (a0.Done.length : Int))))))) rfl rfl rfl rfl rfl) rfl rfl (fun hp => (x_load rfl ty1x3 (ev (t := 29) rfl (Eq.trans (b := cv (!(((!r943) || (!r946)) || (decide (a0.Size < (IntKind.wrap .i64 ((a0.Posted.length : Int) + (a0.Done.length : Int))))))) (.pointer (some ⟨g922, 4, none⟩))) rfl (on_c hp))) (seg_cell (o' := 0) (j := 4) hm948 (k := 0) rfl rfl rfl))) ?_
 refine s_ccall (p := (!(((!r943) || (!r946)) || (decide (a0.Size < (IntKind.wrap .i64 ((a0.Posted.length : Int) + (a0.Done.length : Int)))))))) (v := (.bool r949)) (J := fun w' => Mem w0 w' (cat [sg g922 65 (0, 0) [] [(.int .i64 a0.Size), (.bool a0.Up), v0x2, v0x3, (.int .i64 a0.Lost), (.int .i64 a0.Pending), (.int .i64 a0.Every), (.int .i64 a0.Signals)] [], hF])) (won_f (j := 22) (t := 28) (q := (((!r943) || (!r946)) || (decide (a0.Size < (IntKind.wrap .i64 ((a0.Posted.length : Int) + (a0.Done.length : Int))))))) rfl rfl rfl rfl rfl) rfl rfl (fun hp => (x_call rfl rfl cl_87 (map_lit (map_cons (ev (t := 30) rfl (Eq.trans (b := cv (!(((!r943) || (!r946)) || (decide (a0.Size < (IntKind.wrap .i64 ((a0.Posted.length : Int) + (a0.Done.length : Int))))))) (.int .i64 a0.Lost)) rfl (on_c hp))) (map_cons rfl (map_cons rfl map_nil)))))) (fun hp => ((spec_l01In_ok (hR := (cat [])) (hF := cat [sg g922 65 (0, 0) [] [(.int .i64 a0.Size), (.bool a0.Up), v0x2, v0x3, (.int .i64 a0.Lost), (.int .i64 a0.Pending), (.int .i64 a0.Every), (.int .i64 a0.Signals)] [], hF]) a0.Lost 0 1000000000  (Mem.one hm948) (bifT hr949 hp))).mono fun e w2 h => ⟨h.1, Mem.un h.2⟩) hm948 ?_
 intro w950 hm951
 refine s_cval (p := (!(((!r943) || (!r946)) || (decide (a0.Size < (IntKind.wrap .i64 ((a0.Posted.length : Int) + (a0.Done.length : Int)))))))) (v := (.bool (!r949))) (won_f (j := 22) (t := 28) (q := (((!r943) || (!r946)) || (decide (a0.Size < (IntKind.wrap .i64 ((a0.Posted.length : Int) + (a0.Done.length : Int))))))) rfl rfl rfl rfl rfl) rfl rfl (fun hp => (x_not rfl (ev (t := 31) rfl (Eq.trans (b := cv (!(((!r943) || (!r946)) || (decide (a0.Size < (IntKind.wrap .i64 ((a0.Posted.length : Int) + (a0.Done.length : Int))))))) (.bool r949)) rfl (on_c hp))))) ?_
 refine s_val (v := (.bool ((((!r943) || (!r946)) || (decide (a0.Size < (IntKind.wrap .i64 ((a0.Posted.length : Int) + (a0.Done.length : Int)))))) || (!r949)))) (won rfl) rfl rfl (x_pick_or rfl (ev (t := 28) rfl rfl) rfl (fun hq => ev rfl (Eq.trans (b := cv (!(((!r943) || (!r946)) || (decide (a0.Size < (IntKind.wrap .i64 ((a0.Posted.length : Int) + (a0.Done.length : Int))))))) (.bool (!r949))) rfl (on_c (not_i hq))))) ?_
 refine s_val (v := (.bool ((((!r943) || (!r946)) || (decide (a0.Size < (IntKind.wrap .i64 ((a0.Posted.length : Int) + (a0.Done.length : Int)))))) || (!r949)))) (won rfl) rfl rfl (x_move rfl (ev (t := 33) rfl rfl)) ?_
 refine s_cval (p := (!((((!r943) || (!r946)) || (decide (a0.Size < (IntKind.wrap .i64 ((a0.Posted.length : Int) + (a0.Done.length : Int)))))) || (!r949)))) (v := (.pointer (some ⟨g922, 7, none⟩))) (won_f (j := 28) (t := 34) (q := ((((!r943) || (!r946)) || (decide (a0.Size < (IntKind.wrap .i64 ((a0.Posted.length : Int) + (a0.Done.length : Int)))))) || (!r949))) rfl rfl rfl rfl rfl) rfl rfl (fun hp => (x_field rfl fa_65x7 (ev (t := 1) rfl rfl))) ?_
 refine s_cval (p := (!((((!r943) || (!r946)) || (decide (a0.Size < (IntKind.wrap .i64 ((a0.Posted.length : Int) + (a0.Done.length : Int)))))) || (!r949)))) (v := (.int .i64 a0.Signals)) (won_f (j := 28) (t := 34) (q := ((((!r943) || (!r946)) || (decide (a0.Size < (IntKind.wrap .i64 ((a0.Posted.length : Int) + (a0.Done.length : Int)))))) || (!r949))) rfl rfl rfl rfl rfl) rfl rfl (fun hp => (x_load rfl ty1x3 (ev (t := 35) rfl (Eq.trans (b := cv (!((((!r943) || (!r946)) || (decide (a0.Size < (IntKind.wrap .i64 ((a0.Posted.length : Int) + (a0.Done.length : Int)))))) || (!r949))) (.pointer (some ⟨g922, 7, none⟩))) rfl (on_c hp))) (seg_cell (o' := 0) (j := 7) hm951 (k := 0) rfl rfl rfl))) ?_
 refine s_ccall (p := (!((((!r943) || (!r946)) || (decide (a0.Size < (IntKind.wrap .i64 ((a0.Posted.length : Int) + (a0.Done.length : Int)))))) || (!r949)))) (v := (.bool r952)) (J := fun w' => Mem w0 w' (cat [sg g922 65 (0, 0) [] [(.int .i64 a0.Size), (.bool a0.Up), v0x2, v0x3, (.int .i64 a0.Lost), (.int .i64 a0.Pending), (.int .i64 a0.Every), (.int .i64 a0.Signals)] [], hF])) (won_f (j := 28) (t := 34) (q := ((((!r943) || (!r946)) || (decide (a0.Size < (IntKind.wrap .i64 ((a0.Posted.length : Int) + (a0.Done.length : Int)))))) || (!r949))) rfl rfl rfl rfl rfl) rfl rfl (fun hp => (x_call rfl rfl cl_87 (map_lit (map_cons (ev (t := 36) rfl (Eq.trans (b := cv (!((((!r943) || (!r946)) || (decide (a0.Size < (IntKind.wrap .i64 ((a0.Posted.length : Int) + (a0.Done.length : Int)))))) || (!r949))) (.int .i64 a0.Signals)) rfl (on_c hp))) (map_cons rfl (map_cons rfl map_nil)))))) (fun hp => ((spec_l01In_ok (hR := (cat [])) (hF := cat [sg g922 65 (0, 0) [] [(.int .i64 a0.Size), (.bool a0.Up), v0x2, v0x3, (.int .i64 a0.Lost), (.int .i64 a0.Pending), (.int .i64 a0.Every), (.int .i64 a0.Signals)] [], hF]) a0.Signals 0 1000000000  (Mem.one hm951) (bifT hr952 hp))).mono fun e w2 h => ⟨h.1, Mem.un h.2⟩) hm951 ?_
 intro w953 hm954
 refine s_cval (p := (!((((!r943) || (!r946)) || (decide (a0.Size < (IntKind.wrap .i64 ((a0.Posted.length : Int) + (a0.Done.length : Int)))))) || (!r949)))) (v := (.bool (!r952))) (won_f (j := 28) (t := 34) (q := ((((!r943) || (!r946)) || (decide (a0.Size < (IntKind.wrap .i64 ((a0.Posted.length : Int) + (a0.Done.length : Int)))))) || (!r949))) rfl rfl rfl rfl rfl) rfl rfl (fun hp => (x_not rfl (ev (t := 37) rfl (Eq.trans (b := cv (!((((!r943) || (!r946)) || (decide (a0.Size < (IntKind.wrap .i64 ((a0.Posted.length : Int) + (a0.Done.length : Int)))))) || (!r949))) (.bool r952)) rfl (on_c hp))))) ?_
 refine s_val (v := (.bool (((((!r943) || (!r946)) || (decide (a0.Size < (IntKind.wrap .i64 ((a0.Posted.length : Int) + (a0.Done.length : Int)))))) || (!r949)) || (!r952)))) (won rfl) rfl rfl (x_pick_or rfl (ev (t := 34) rfl rfl) rfl (fun hq => ev rfl (Eq.trans (b := cv (!((((!r943) || (!r946)) || (decide (a0.Size < (IntKind.wrap .i64 ((a0.Posted.length : Int) + (a0.Done.length : Int)))))) || (!r949))) (.bool (!r952))) rfl (on_c (not_i hq))))) ?_
 refine s_val (v := (.bool (((((!r943) || (!r946)) || (decide (a0.Size < (IntKind.wrap .i64 ((a0.Posted.length : Int) + (a0.Done.length : Int)))))) || (!r949)) || (!r952)))) (won rfl) rfl rfl (x_move rfl (ev (t := 39) rfl rfl)) ?_
 refine s_cval (p := (!(((((!r943) || (!r946)) || (decide (a0.Size < (IntKind.wrap .i64 ((a0.Posted.length : Int) + (a0.Done.length : Int)))))) || (!r949)) || (!r952)))) (v := (.pointer (some ⟨g922, 5, none⟩))) (won_f (j := 34) (t := 40) (q := (((((!r943) || (!r946)) || (decide (a0.Size < (IntKind.wrap .i64 ((a0.Posted.length : Int) + (a0.Done.length : Int)))))) || (!r949)) || (!r952))) rfl rfl rfl rfl rfl) rfl rfl (fun hp => (x_field rfl fa_65x5 (ev (t := 1) rfl rfl))) ?_
 refine s_cval (p := (!(((((!r943) || (!r946)) || (decide (a0.Size < (IntKind.wrap .i64 ((a0.Posted.length : Int) + (a0.Done.length : Int)))))) || (!r949)) || (!r952)))) (v := (.int .i64 a0.Pending)) (won_f (j := 34) (t := 40) (q := (((((!r943) || (!r946)) || (decide (a0.Size < (IntKind.wrap .i64 ((a0.Posted.length : Int) + (a0.Done.length : Int)))))) || (!r949)) || (!r952))) rfl rfl rfl rfl rfl) rfl rfl (fun hp => (x_load rfl ty1x3 (ev (t := 41) rfl (Eq.trans (b := cv (!(((((!r943) || (!r946)) || (decide (a0.Size < (IntKind.wrap .i64 ((a0.Posted.length : Int) + (a0.Done.length : Int)))))) || (!r949)) || (!r952))) (.pointer (some ⟨g922, 5, none⟩))) rfl (on_c hp))) (seg_cell (o' := 0) (j := 5) hm954 (k := 0) rfl rfl rfl))) ?_
 refine s_cval (p := (!(((((!r943) || (!r946)) || (decide (a0.Size < (IntKind.wrap .i64 ((a0.Posted.length : Int) + (a0.Done.length : Int)))))) || (!r949)) || (!r952)))) (v := (.pointer (some ⟨g922, 6, none⟩))) (won_f (j := 34) (t := 40) (q := (((((!r943) || (!r946)) || (decide (a0.Size < (IntKind.wrap .i64 ((a0.Posted.length : Int) + (a0.Done.length : Int)))))) || (!r949)) || (!r952))) rfl rfl rfl rfl rfl) rfl rfl (fun hp => (x_field rfl fa_65x6 (ev (t := 1) rfl rfl))) ?_
 refine s_cval (p := (!(((((!r943) || (!r946)) || (decide (a0.Size < (IntKind.wrap .i64 ((a0.Posted.length : Int) + (a0.Done.length : Int)))))) || (!r949)) || (!r952)))) (v := (.int .i64 a0.Every)) (won_f (j := 34) (t := 40) (q := (((((!r943) || (!r946)) || (decide (a0.Size < (IntKind.wrap .i64 ((a0.Posted.length : Int) + (a0.Done.length : Int)))))) || (!r949)) || (!r952))) rfl rfl rfl rfl rfl) rfl rfl (fun hp => (x_load rfl ty1x3 (ev (t := 43) rfl (Eq.trans (b := cv (!(((((!r943) || (!r946)) || (decide (a0.Size < (IntKind.wrap .i64 ((a0.Posted.length : Int) + (a0.Done.length : Int)))))) || (!r949)) || (!r952))) (.pointer (some ⟨g922, 6, none⟩))) rfl (on_c hp))) (seg_cell (o' := 0) (j := 6) hm954 (k := 0) rfl rfl rfl))) ?_
 refine s_cval (p := (!(((((!r943) || (!r946)) || (decide (a0.Size < (IntKind.wrap .i64 ((a0.Posted.length : Int) + (a0.Done.length : Int)))))) || (!r949)) || (!r952)))) (v := (.int .i64 (IntKind.wrap .i64 (a0.Every - 1)))) (won_f (j := 34) (t := 40) (q := (((((!r943) || (!r946)) || (decide (a0.Size < (IntKind.wrap .i64 ((a0.Posted.length : Int) + (a0.Done.length : Int)))))) || (!r949)) || (!r952))) rfl rfl rfl rfl rfl) rfl rfl (fun hp => (x_sub rfl (ev (t := 44) rfl (Eq.trans (b := cv (!(((((!r943) || (!r946)) || (decide (a0.Size < (IntKind.wrap .i64 ((a0.Posted.length : Int) + (a0.Done.length : Int)))))) || (!r949)) || (!r952))) (.int .i64 a0.Every)) rfl (on_c hp))) rfl)) ?_
 refine s_ccall (p := (!(((((!r943) || (!r946)) || (decide (a0.Size < (IntKind.wrap .i64 ((a0.Posted.length : Int) + (a0.Done.length : Int)))))) || (!r949)) || (!r952)))) (v := (.bool r955)) (J := fun w' => Mem w0 w' (cat [sg g922 65 (0, 0) [] [(.int .i64 a0.Size), (.bool a0.Up), v0x2, v0x3, (.int .i64 a0.Lost), (.int .i64 a0.Pending), (.int .i64 a0.Every), (.int .i64 a0.Signals)] [], hF])) (won_f (j := 34) (t := 40) (q := (((((!r943) || (!r946)) || (decide (a0.Size < (IntKind.wrap .i64 ((a0.Posted.length : Int) + (a0.Done.length : Int)))))) || (!r949)) || (!r952))) rfl rfl rfl rfl rfl) rfl rfl (fun hp => (x_call rfl rfl cl_87 (map_lit (map_cons (ev (t := 42) rfl (Eq.trans (b := cv (!(((((!r943) || (!r946)) || (decide (a0.Size < (IntKind.wrap .i64 ((a0.Posted.length : Int) + (a0.Done.length : Int)))))) || (!r949)) || (!r952))) (.int .i64 a0.Pending)) rfl (on_c hp))) (map_cons rfl (map_cons (ev (t := 45) rfl (Eq.trans (b := cv (!(((((!r943) || (!r946)) || (decide (a0.Size < (IntKind.wrap .i64 ((a0.Posted.length : Int) + (a0.Done.length : Int)))))) || (!r949)) || (!r952))) (.int .i64 (IntKind.wrap .i64 (a0.Every - 1)))) rfl (on_c hp))) map_nil)))))) (fun hp => ((spec_l01In_ok (hR := (cat [])) (hF := cat [sg g922 65 (0, 0) [] [(.int .i64 a0.Size), (.bool a0.Up), v0x2, v0x3, (.int .i64 a0.Lost), (.int .i64 a0.Pending), (.int .i64 a0.Every), (.int .i64 a0.Signals)] [], hF]) a0.Pending 0 (IntKind.wrap .i64 (a0.Every - 1))  (Mem.one hm954) (bifT hr955 hp))).mono fun e w2 h => ⟨h.1, Mem.un h.2⟩) hm954 ?_
 intro w956 hm957
 refine s_cval (p := (!(((((!r943) || (!r946)) || (decide (a0.Size < (IntKind.wrap .i64 ((a0.Posted.length : Int) + (a0.Done.length : Int)))))) || (!r949)) || (!r952)))) (v := (.bool (!r955))) (won_f (j := 34) (t := 40) (q := (((((!r943) || (!r946)) || (decide (a0.Size < (IntKind.wrap .i64 ((a0.Posted.length : Int) + (a0.Done.length : Int)))))) || (!r949)) || (!r952))) rfl rfl rfl rfl rfl) rfl rfl (fun hp => (x_not rfl (ev (t := 46) rfl (Eq.trans (b := cv (!(((((!r943) || (!r946)) || (decide (a0.Size < (IntKind.wrap .i64 ((a0.Posted.length : Int) + (a0.Done.length : Int)))))) || (!r949)) || (!r952))) (.bool r955)) rfl (on_c hp))))) ?_
 refine s_val (v := (.bool ((((((!r943) || (!r946)) || (decide (a0.Size < (IntKind.wrap .i64 ((a0.Posted.length : Int) + (a0.Done.length : Int)))))) || (!r949)) || (!r952)) || (!r955)))) (won rfl) rfl rfl (x_pick_or rfl (ev (t := 40) rfl rfl) rfl (fun hq => ev rfl (Eq.trans (b := cv (!(((((!r943) || (!r946)) || (decide (a0.Size < (IntKind.wrap .i64 ((a0.Posted.length : Int) + (a0.Done.length : Int)))))) || (!r949)) || (!r952))) (.bool (!r955))) rfl (on_c (not_i hq))))) ?_
 refine s_val (v := (.bool ((((((!r943) || (!r946)) || (decide (a0.Size < (IntKind.wrap .i64 ((a0.Posted.length : Int) + (a0.Done.length : Int)))))) || (!r949)) || (!r952)) || (!r955)))) (won rfl) rfl rfl (x_move rfl (ev (t := 48) rfl rfl)) ?_
 refine s_cval (p := (!((((((!r943) || (!r946)) || (decide (a0.Size < (IntKind.wrap .i64 ((a0.Posted.length : Int) + (a0.Done.length : Int)))))) || (!r949)) || (!r952)) || (!r955)))) (v := (.pointer (some ⟨g922, 5, none⟩))) (won_f (j := 43) (t := 49) (q := ((((((!r943) || (!r946)) || (decide (a0.Size < (IntKind.wrap .i64 ((a0.Posted.length : Int) + (a0.Done.length : Int)))))) || (!r949)) || (!r952)) || (!r955))) rfl rfl rfl rfl rfl) rfl rfl (fun hp => (x_field rfl fa_65x5 (ev (t := 1) rfl rfl))) ?_
 refine s_cval (p := (!((((((!r943) || (!r946)) || (decide (a0.Size < (IntKind.wrap .i64 ((a0.Posted.length : Int) + (a0.Done.length : Int)))))) || (!r949)) || (!r952)) || (!r955)))) (v := (.int .i64 a0.Pending)) (won_f (j := 43) (t := 49) (q := ((((((!r943) || (!r946)) || (decide (a0.Size < (IntKind.wrap .i64 ((a0.Posted.length : Int) + (a0.Done.length : Int)))))) || (!r949)) || (!r952)) || (!r955))) rfl rfl rfl rfl rfl) rfl rfl (fun hp => (x_load rfl ty1x3 (ev (t := 50) rfl (Eq.trans (b := cv (!((((((!r943) || (!r946)) || (decide (a0.Size < (IntKind.wrap .i64 ((a0.Posted.length : Int) + (a0.Done.length : Int)))))) || (!r949)) || (!r952)) || (!r955))) (.pointer (some ⟨g922, 5, none⟩))) rfl (on_c hp))) (seg_cell (o' := 0) (j := 5) hm957 (k := 0) rfl rfl rfl))) ?_
 refine s_cval (p := (!((((((!r943) || (!r946)) || (decide (a0.Size < (IntKind.wrap .i64 ((a0.Posted.length : Int) + (a0.Done.length : Int)))))) || (!r949)) || (!r952)) || (!r955)))) (v := (.pointer (some ⟨g922, 3, none⟩))) (won_f (j := 43) (t := 49) (q := ((((((!r943) || (!r946)) || (decide (a0.Size < (IntKind.wrap .i64 ((a0.Posted.length : Int) + (a0.Done.length : Int)))))) || (!r949)) || (!r952)) || (!r955))) rfl rfl rfl rfl rfl) rfl rfl (fun hp => (x_field rfl fa_65x3 (ev (t := 1) rfl rfl))) ?_
 refine s_cval (p := (!((((((!r943) || (!r946)) || (decide (a0.Size < (IntKind.wrap .i64 ((a0.Posted.length : Int) + (a0.Done.length : Int)))))) || (!r949)) || (!r952)) || (!r955)))) (v := v0x3) (won_f (j := 43) (t := 49) (q := ((((((!r943) || (!r946)) || (decide (a0.Size < (IntKind.wrap .i64 ((a0.Posted.length : Int) + (a0.Done.length : Int)))))) || (!r949)) || (!r952)) || (!r955))) rfl rfl rfl rfl rfl) rfl rfl (fun hp => (x_load rfl ty1x26 (ev (t := 52) rfl (Eq.trans (b := cv (!((((((!r943) || (!r946)) || (decide (a0.Size < (IntKind.wrap .i64 ((a0.Posted.length : Int) + (a0.Done.length : Int)))))) || (!r949)) || (!r952)) || (!r955))) (.pointer (some ⟨g922, 3, none⟩))) rfl (on_c hp))) (seg_cell (o' := 0) (j := 3) hm957 (k := 0) rfl rfl rfl))) ?_
 refine s_cval (p := (!((((((!r943) || (!r946)) || (decide (a0.Size < (IntKind.wrap .i64 ((a0.Posted.length : Int) + (a0.Done.length : Int)))))) || (!r949)) || (!r952)) || (!r955)))) (v := (.int .i64 (a0.Done.length : Int))) (won_f (j := 43) (t := 49) (q := ((((((!r943) || (!r946)) || (decide (a0.Size < (IntKind.wrap .i64 ((a0.Posted.length : Int) + (a0.Done.length : Int)))))) || (!r949)) || (!r952)) || (!r955))) rfl rfl rfl rfl rfl) rfl rfl (fun hp => (x_len rfl slt_26 (ev (t := 53) rfl (Eq.trans (b := cv (!((((((!r943) || (!r946)) || (decide (a0.Size < (IntKind.wrap .i64 ((a0.Posted.length : Int) + (a0.Done.length : Int)))))) || (!r949)) || (!r952)) || (!r955))) v0x3) rfl (on_c hp))) (H0x3).sl)) ?_
 refine s_cval (p := (!((((((!r943) || (!r946)) || (decide (a0.Size < (IntKind.wrap .i64 ((a0.Posted.length : Int) + (a0.Done.length : Int)))))) || (!r949)) || (!r952)) || (!r955)))) (v := (.bool (decide ((a0.Done.length : Int) < a0.Pending)))) (won_f (j := 43) (t := 49) (q := ((((((!r943) || (!r946)) || (decide (a0.Size < (IntKind.wrap .i64 ((a0.Posted.length : Int) + (a0.Done.length : Int)))))) || (!r949)) || (!r952)) || (!r955))) rfl rfl rfl rfl rfl) rfl rfl (fun hp => (x_gtr rfl (ev (t := 51) rfl (Eq.trans (b := cv (!((((((!r943) || (!r946)) || (decide (a0.Size < (IntKind.wrap .i64 ((a0.Posted.length : Int) + (a0.Done.length : Int)))))) || (!r949)) || (!r952)) || (!r955))) (.int .i64 a0.Pending)) rfl (on_c hp))) (ev (t := 54) rfl (Eq.trans (b := cv (!((((((!r943) || (!r946)) || (decide (a0.Size < (IntKind.wrap .i64 ((a0.Posted.length : Int) + (a0.Done.length : Int)))))) || (!r949)) || (!r952)) || (!r955))) (.int .i64 (a0.Done.length : Int))) rfl (on_c hp))))) ?_
 refine s_val (v := (.bool (((((((!r943) || (!r946)) || (decide (a0.Size < (IntKind.wrap .i64 ((a0.Posted.length : Int) + (a0.Done.length : Int)))))) || (!r949)) || (!r952)) || (!r955)) || (decide ((a0.Done.length : Int) < a0.Pending))))) (won rfl) rfl rfl (x_pick_or rfl (ev (t := 49) rfl rfl) rfl (fun hq => ev rfl (Eq.trans (b := cv (!((((((!r943) || (!r946)) || (decide (a0.Size < (IntKind.wrap .i64 ((a0.Posted.length : Int) + (a0.Done.length : Int)))))) || (!r949)) || (!r952)) || (!r955))) (.bool (decide ((a0.Done.length : Int) < a0.Pending)))) rfl (on_c (not_i hq))))) ?_
 refine wpList_nil ?_
 refine nx ?_
 rcases Bool.eq_false_or_eq_true ((((((((!r943) || (!r946)) || (decide (a0.Size < (IntKind.wrap .i64 ((a0.Posted.length : Int) + (a0.Done.length : Int)))))) || (!r949)) || (!r952)) || (!r955)) || (decide ((a0.Done.length : Int) < a0.Pending)))) with hb958 | hb958
 ·
  replace he := bifT he hb958
  refine c_true rfl (p := (((((((!r943) || (!r946)) || (decide (a0.Size < (IntKind.wrap .i64 ((a0.Posted.length : Int) + (a0.Done.length : Int)))))) || (!r949)) || (!r952)) || (!r955)) || (decide ((a0.Done.length : Int) < a0.Pending)))) rfl rfl hb958 ?_
  refine wp_seq ?_
  refine wp_region_lit ?_
  refine s_val (v := (.bool false)) (won rfl) rfl rfl (x_assign rfl rfl) ?_
  refine wpList_nil ?_
  have hm959 : Mem w0 w956 (cat [hF]) := Mem.pick [1] rfl hm957
  refine nx ?_
  refine wp_ret ?_
  refine xr ?_
  obtain rfl := Option.some.inj he
  refine r_ret (v := (.bool false)) (rv_one rfl (RVs.tmp (v := (.bool false)) rfl rfl RVs.nil)) rfl ?_
  exact ⟨rfl, Mem.pick [0] rfl hm959⟩
 ·
  replace he := bifF he hb958
  refine c_false rfl (p := (((((((!r943) || (!r946)) || (decide (a0.Size < (IntKind.wrap .i64 ((a0.Posted.length : Int) + (a0.Done.length : Int)))))) || (!r949)) || (!r952)) || (!r955)) || (decide ((a0.Done.length : Int) < a0.Pending)))) rfl rfl hb958 ?_
  refine wp_skip ?_
  refine nx ?_
  refine wp_seq ?_
  obtain ⟨hg966, he⟩ := gdE he
  obtain ⟨hg972, he⟩ := gdE he
  refine wp_fit [(1, 0), (2, 0), (4, 0), (5, 0), (0, 2), (3, 2), (6, 2), (7, 1)] (fun w' => Mem w0 w' (cat [sg g922 65 (0, 0) [] [(.int .i64 a0.Size), (.bool a0.Up), v0x2, v0x3, (.int .i64 a0.Lost), (.int .i64 a0.Pending), (.int .i64 a0.Every), (.int .i64 a0.Signals)] [], hF])) mixed (by kernel_rfl) (Mem.drew (Mem.pick [0, 1] rfl hm957)) ?_
  have hm960 := Mem.drew hm957
  refine z_q (v := (.pointer (some ⟨g922, 2, none⟩))) rfl (won rfl) rfl rfl (fun wq hq => (x_field rfl fa_65x2 (ev (t := 1) rfl rfl))) ?_
  refine z_q (v := v0x2) rfl (won rfl) rfl rfl (fun wq hq => (x_load rfl ty1x26 (ev (t := 58) rfl rfl) (seg_cell (o' := 0) (j := 2) hq (k := 0) rfl rfl rfl))) ?_
  refine z_q (v := (.pointer (some ⟨g922, 3, none⟩))) rfl (won rfl) rfl rfl (fun wq hq => (x_field rfl fa_65x3 (ev (t := 1) rfl rfl))) ?_
  refine z_q (v := v0x3) rfl (won rfl) rfl rfl (fun wq hq => (x_load rfl ty1x26 (ev (t := 61) rfl rfl) (seg_cell (o' := 0) (j := 3) hq (k := 0) rfl rfl rfl))) ?_
  refine z_exv rfl (won rfl) rfl rfl (e_litp (cells := []) (ps := []) rfl slt_26 (pmap_lit pmap_nil) (fun w1 => run_bslice0 slt_26) hm960) ?_
  rintro g963 w961 hm962
  have H964 : OwF 3 (FK.int .i64) (.slice (some ⟨g963, 0, none⟩) 0 0) ([] : List Int) (sg g963 3 (0, 0) [] (encs (FK.int .i64) ([] : List Int)) []) := OwF.lit g963 ([] : List Int) 0 rfl (by decide)
  replace hm962 : Mem w0 w961 (cat [(sg g963 3 (0, 0) [] (encs (FK.int .i64) ([] : List Int)) []), sg g922 65 (0, 0) [] [(.int .i64 a0.Size), (.bool a0.Up), v0x2, v0x3, (.int .i64 a0.Lost), (.int .i64 a0.Pending), (.int .i64 a0.Every), (.int .i64 a0.Signals)] [], hF]) := hm962
  refine ⟨Mem.pick [1, 2] rfl hm962, ?_⟩
  refine z_exv rfl (won rfl) rfl rfl (e_append (bytes := 8) rfl slt_26 rfl (ev (t := 57) rfl rfl) (ev (t := 59) rfl rfl) H964 (k := 0) rfl H0x2 (Sub.trans hs (Sub.at_ (k := 2) rfl)) hm962 hg966 (len63 hg966 rfl)) ?_
  rintro p968 w970 ⟨H969, hm971⟩
  replace hm971 : Mem w0 w970 (cat [p968.2, sg g922 65 (0, 0) [] [(.int .i64 a0.Size), (.bool a0.Up), v0x2, v0x3, (.int .i64 a0.Lost), (.int .i64 a0.Pending), (.int .i64 a0.Every), (.int .i64 a0.Signals)] [], hF]) := hm971
  refine ⟨Mem.pick [1, 2] rfl hm971, ?_⟩
  refine z_exv rfl (won rfl) rfl rfl (e_append (bytes := 8) rfl slt_26 rfl (ev (t := 60) rfl rfl) (ev (t := 62) rfl rfl) H969 (k := 0) rfl H0x3 (Sub.trans hs (Sub.at_ (k := 2) rfl)) hm971 hg972 (len63 hg972 rfl)) ?_
  rintro p974 w976 ⟨H975, hm977⟩
  replace hm977 : Mem w0 w976 (cat [p974.2, sg g922 65 (0, 0) [] [(.int .i64 a0.Size), (.bool a0.Up), v0x2, v0x3, (.int .i64 a0.Lost), (.int .i64 a0.Pending), (.int .i64 a0.Every), (.int .i64 a0.Signals)] [], hF]) := hm977
  refine ⟨Mem.pick [1, 2] rfl hm977, ?_⟩
  refine z_r (v := p974.1) rfl (won rfl) rfl rfl ((x_assign rfl (ev (t := 63) rfl rfl))) ?_
  refine z_nil ?_
  have hm978 : Mem w0 w976 (cat [p974.2, hF]) := Mem.pick [0, 2] rfl hm977
  refine nx ?_
  obtain ⟨l1409, hT1411, hk1410⟩ := bindE he
  replace he := hT1411
  refine wp_seqJ (fun a w => ∃ (s1408 : (Unit)) (f : Nat → Value), l1409 = Fl.go s1408 ∧ a = fr 90 f ∧ Mem w0 w (cat [hF])) ?_ ?_
  ·
   refine wp_seq ?_
   refine wp_region_lit ?_
   refine s_val (v := (.int .i64 0)) (won rfl) rfl rfl (x_assign rfl rfl) ?_
   refine wpList_nil ?_
   refine nx ?_
   refine wp_block ?_
   refine wp_fuel (I := fun k => fun a w => ∃ (s1555 : Int) (f : Nat → Value), spec_RingOK_l1 F a0 k s1555 = some l1409 ∧ a = fr 90 f ∧ f 3 = p974.1 ∧ f 4 = (.int .i64 s1555) ∧ Mem w0 w (cat [p974.2, hF])) F _ _ ⟨0, _, he, rfl, rfl, rfl, Mem.pick [0, 1] rfl hm978⟩ ?_ ?_
   ·
    rintro a w ⟨s1555, f, he, rfl, q1554, q1556, hm1698⟩
    rw [spec_RingOK_l1] at he; exact none_no he
   ·
    rintro k a w ⟨s1555, f, he, rfl, q1554, q1556, hm1700⟩
    rw [spec_RingOK_l1] at he
    refine wp_seq ?_
    refine wp_seq ?_
    refine wp_region_lit ?_
    refine s_val (v := (.int .i64 s1555)) (won rfl) rfl rfl (x_move rfl (ev (t := 4) (v := (.int .i64 s1555)) rfl q1556)) ?_
    refine s_val (v := p974.1) (won rfl) rfl rfl (x_move rfl (ev (t := 3) (v := p974.1) rfl q1554)) ?_
    refine s_val (v := (.int .i64 (((([] : List Int) ++ a0.Posted) ++ a0.Done).length : Int))) (won rfl) rfl rfl (x_len rfl slt_26 (ev (t := 65) rfl rfl) (H975).sl) ?_
    refine s_val (v := (.bool (decide (s1555 < (((([] : List Int) ++ a0.Posted) ++ a0.Done).length : Int))))) (won rfl) rfl rfl (x_lss rfl (ev (t := 64) rfl rfl) (ev (t := 66) rfl rfl)) ?_
    refine wpList_nil ?_
    refine nx ?_
    rcases Bool.eq_false_or_eq_true ((decide (s1555 < (((([] : List Int) ++ a0.Posted) ++ a0.Done).length : Int)))) with hb1702 | hb1702
    ·
     replace he := bifT he hb1702
     refine c_true rfl (p := (decide (s1555 < (((([] : List Int) ++ a0.Posted) ++ a0.Done).length : Int)))) rfl rfl hb1702 ?_
     refine wp_skip ?_
     refine nx ?_
     obtain ⟨l1771, hT1773, hk1772⟩ := bindE he
     replace he := hT1773
     refine wp_seqJ (fun a w => ∃ (s1770 : (Unit)) (f : Nat → Value), l1771 = Fl.go s1770 ∧ a = fr 90 f ∧ f 3 = p974.1 ∧ f 4 = (.int .i64 s1555) ∧ Mem w0 w (cat [p974.2, hF])) ?_ ?_
     ·
      refine wp_block ?_
      refine wp_seq ?_
      refine wp_seq ?_
      obtain ⟨hg1780, he⟩ := gdE he
      obtain ⟨r1781, hr1781, he⟩ := bindE he
      refine wp_region_lit ?_
      refine s_val (v := p974.1) (won rfl) rfl rfl (x_move rfl (ev (t := 3) (v := p974.1) rfl q1554)) ?_
      refine s_val (v := (.int .i64 s1555)) (won rfl) rfl rfl (x_move rfl (ev (t := 4) (v := (.int .i64 s1555)) rfl q1556)) ?_
      refine s_val (v := (.pointer (some ((slA p974.1).add (Int.toNat s1555 * 1))))) (won rfl) rfl rfl (x_index (d := (FK.int .i64)) rfl slt_26 (ev (t := 70) rfl rfl) (ev (t := 71) rfl rfl) (H975.rd w0) hg1780.1 hg1780.2) ?_
      refine s_val (v := (.int .i64 (ix ((([] : List Int) ++ a0.Posted) ++ a0.Done) s1555))) (won rfl) rfl rfl (x_load rfl ty1x3 (ev (t := 72) rfl rfl) (RdF.cell0 (H975.rd w0) hm1700 (Sub.at_ (k := 0) rfl) hg1780.1 hg1780.2 rfl)) ?_
      refine s_call (won rfl) rfl rfl (x_call rfl rfl cl_87 (map_lit (map_cons (ev (t := 73) rfl rfl) (map_cons rfl (map_cons rfl map_nil))))) (spec_l01In_ok (hR := (cat [])) (hF := cat [p974.2, hF]) (ix ((([] : List Int) ++ a0.Posted) ++ a0.Done) s1555) 0 999  (Mem.one hm1700) hr1781) ?_
      rintro e w1782 ⟨rfl, hm1783⟩
      refine ⟨_, rfl, ?_⟩
      replace hm1783 : Mem w0 w1782 (cat [p974.2, hF]) := Mem.un hm1783
      refine s_val (v := (.bool (!r1781))) (won rfl) rfl rfl (x_not rfl (ev (t := 74) rfl rfl)) ?_
      refine wpList_nil ?_
      refine nx ?_
      rcases Bool.eq_false_or_eq_true ((!r1781)) with hb1784 | hb1784
      ·
       replace he := bifT he hb1784
       refine c_true rfl (p := (!r1781)) rfl rfl hb1784 ?_
       refine wp_seq ?_
       refine wp_region_lit ?_
       refine s_val (v := (.bool false)) (won rfl) rfl rfl (x_assign rfl rfl) ?_
       refine wpList_nil ?_
       have hm1785 : Mem w0 w1782 (cat [hF]) := Mem.pick [1] rfl hm1783
       refine nx ?_
       refine wp_ret ?_
       refine xr ?_
       refine rb ?_
       refine xr ?_
       refine xr ?_
       refine rb ?_
       refine xr ?_
       obtain rfl := Option.some.inj he
       replace he := outE hk1772
       obtain rfl := Option.some.inj he
       replace he := outE hk1410
       obtain rfl := Option.some.inj he
       refine r_ret (v := (.bool false)) (rv_one rfl (RVs.tmp (v := (.bool false)) rfl rfl RVs.nil)) rfl ?_
       exact ⟨rfl, Mem.pick [0] rfl hm1785⟩
      ·
       replace he := bifF he hb1784
       refine c_false rfl (p := (!r1781)) rfl rfl hb1784 ?_
       refine wp_skip ?_
       refine nx ?_
       refine wp_seq ?_
       refine wp_region_lit ?_
       refine s_val (v := (.int .i64 0)) (won rfl) rfl rfl (x_assign rfl rfl) ?_
       refine wpList_nil ?_
       refine nx ?_
       refine wp_block ?_
       refine wp_fuel (I := fun k => fun a w => ∃ (s1805 : Int) (f : Nat → Value), spec_RingOK_l2 F a0 s1555 k s1805 = some l1771 ∧ a = fr 90 f ∧ f 3 = p974.1 ∧ f 4 = (.int .i64 s1555) ∧ f 5 = (.int .i64 s1805) ∧ Mem w0 w (cat [p974.2, hF])) F _ _ ⟨0, _, he, rfl, q1554, q1556, rfl, Mem.pick [0, 1] rfl hm1783⟩ ?_ ?_
       ·
        rintro a w ⟨s1805, f, he, rfl, q1803, q1804, q1806, hm1822⟩
        rw [spec_RingOK_l2] at he; exact none_no he
       ·
        rintro k a w ⟨s1805, f, he, rfl, q1803, q1804, q1806, hm1824⟩
        rw [spec_RingOK_l2] at he
        refine wp_seq ?_
        refine wp_seq ?_
        refine wp_region_lit ?_
        refine s_val (v := (.int .i64 s1805)) (won rfl) rfl rfl (x_move rfl (ev (t := 5) (v := (.int .i64 s1805)) rfl q1806)) ?_
        refine s_val (v := (.int .i64 s1555)) (won rfl) rfl rfl (x_move rfl (ev (t := 4) (v := (.int .i64 s1555)) rfl q1804)) ?_
        refine s_val (v := (.bool (decide (s1805 < s1555)))) (won rfl) rfl rfl (x_lss rfl (ev (t := 76) rfl rfl) (ev (t := 77) rfl rfl)) ?_
        refine wpList_nil ?_
        refine nx ?_
        rcases Bool.eq_false_or_eq_true ((decide (s1805 < s1555))) with hb1826 | hb1826
        ·
         replace he := bifT he hb1826
         refine c_true rfl (p := (decide (s1805 < s1555))) rfl rfl hb1826 ?_
         refine wp_skip ?_
         refine nx ?_
         refine wp_seq ?_
         refine wp_block ?_
         refine wp_seq ?_
         obtain ⟨hg1833, he⟩ := gdE he
         obtain ⟨hg1834, he⟩ := gdE he
         refine wp_qregion (cat [p974.2, hF]) mixed (by kernel_rfl) hm1824 ?_
         refine q_val (v := p974.1) (won rfl) rfl rfl (fun wq hq => (x_move rfl (ev (t := 3) (v := p974.1) rfl q1803))) ?_
         refine q_val (v := (.int .i64 s1805)) (won rfl) rfl rfl (fun wq hq => (x_move rfl (ev (t := 5) (v := (.int .i64 s1805)) rfl q1806))) ?_
         refine q_val (v := (.pointer (some ((slA p974.1).add (Int.toNat s1805 * 1))))) (won rfl) rfl rfl (fun wq hq => (x_index (d := (FK.int .i64)) rfl slt_26 (ev (t := 81) rfl rfl) (ev (t := 82) rfl rfl) (H975.rd w0) hg1833.1 hg1833.2)) ?_
         refine q_val (v := (.int .i64 (ix ((([] : List Int) ++ a0.Posted) ++ a0.Done) s1805))) (won rfl) rfl rfl (fun wq hq => (x_load rfl ty1x3 (ev (t := 83) rfl rfl) (RdF.cell0 (H975.rd w0) hq (Sub.at_ (k := 0) rfl) hg1833.1 hg1833.2 rfl))) ?_
         refine q_val (v := p974.1) (won rfl) rfl rfl (fun wq hq => (x_move rfl (ev (t := 3) (v := p974.1) rfl q1803))) ?_
         refine q_val (v := (.int .i64 s1555)) (won rfl) rfl rfl (fun wq hq => (x_move rfl (ev (t := 4) (v := (.int .i64 s1555)) rfl q1804))) ?_
         refine q_val (v := (.pointer (some ((slA p974.1).add (Int.toNat s1555 * 1))))) (won rfl) rfl rfl (fun wq hq => (x_index (d := (FK.int .i64)) rfl slt_26 (ev (t := 85) rfl rfl) (ev (t := 86) rfl rfl) (H975.rd w0) hg1834.1 hg1834.2)) ?_
         refine q_val (v := (.int .i64 (ix ((([] : List Int) ++ a0.Posted) ++ a0.Done) s1555))) (won rfl) rfl rfl (fun wq hq => (x_load rfl ty1x3 (ev (t := 87) rfl rfl) (RdF.cell0 (H975.rd w0) hq (Sub.at_ (k := 0) rfl) hg1834.1 hg1834.2 rfl))) ?_
         refine q_val (v := (.bool (decide ((ix ((([] : List Int) ++ a0.Posted) ++ a0.Done) s1805) = (ix ((([] : List Int) ++ a0.Posted) ++ a0.Done) s1555))))) (won rfl) rfl rfl (fun wq hq => (x_eql rfl (ev (t := 84) rfl rfl) (ev (t := 88) rfl rfl))) ?_
         refine wpQuiet_nil ?_
         intro w1835 hm1836
         refine nx ?_
         rcases Bool.eq_false_or_eq_true ((decide ((ix ((([] : List Int) ++ a0.Posted) ++ a0.Done) s1805) = (ix ((([] : List Int) ++ a0.Posted) ++ a0.Done) s1555)))) with hb1837 | hb1837
         ·
          replace he := bifT he hb1837
          refine c_true rfl (p := (decide ((ix ((([] : List Int) ++ a0.Posted) ++ a0.Done) s1805) = (ix ((([] : List Int) ++ a0.Posted) ++ a0.Done) s1555)))) rfl rfl hb1837 ?_
          refine wp_seq ?_
          refine wp_region_lit ?_
          refine s_val (v := (.bool false)) (won rfl) rfl rfl (x_assign rfl rfl) ?_
          refine wpList_nil ?_
          have hm1838 : Mem w0 w1835 (cat [hF]) := Mem.pick [1] rfl hm1836
          refine nx ?_
          refine wp_ret ?_
          refine rb ?_
          refine xr ?_
          refine xr ?_
          refine rb ?_
          refine rb ?_
          refine xr ?_
          refine xr ?_
          refine rb ?_
          refine xr ?_
          obtain rfl := Option.some.inj he
          replace he := outE hk1772
          obtain rfl := Option.some.inj he
          replace he := outE hk1410
          obtain rfl := Option.some.inj he
          refine r_ret (v := (.bool false)) (rv_one rfl (RVs.tmp (v := (.bool false)) rfl rfl RVs.nil)) rfl ?_
          exact ⟨rfl, Mem.pick [0] rfl hm1838⟩
         ·
          replace he := bifF he hb1837
          refine c_false rfl (p := (decide ((ix ((([] : List Int) ++ a0.Posted) ++ a0.Done) s1805) = (ix ((([] : List Int) ++ a0.Posted) ++ a0.Done) s1555)))) rfl rfl hb1837 ?_
          refine wp_skip ?_
          refine nb ?_
          refine nx ?_
          refine wp_region_lit ?_
          refine s_val (v := (.int .i64 s1805)) (won rfl) rfl rfl (x_move rfl (ev (t := 5) (v := (.int .i64 s1805)) rfl q1806)) ?_
          refine s_val (v := (.int .i64 (IntKind.wrap .i64 (s1805 + 1)))) (won rfl) rfl rfl (x_add rfl (ev (t := 79) rfl rfl) rfl) ?_
          refine s_val (v := (.int .i64 (IntKind.wrap .i64 (s1805 + 1)))) (won rfl) rfl rfl (x_assign rfl (ev (t := 80) rfl rfl)) ?_
          refine wpList_nil ?_
          refine nx ?_
          exact ⟨(IntKind.wrap .i64 (s1805 + 1)), _, he, rfl, q1803, q1804, rfl, Mem.pick [0, 1] rfl hm1836⟩
        ·
         replace he := bifF he hb1826
         refine c_false rfl (p := (decide (s1805 < s1555))) rfl rfl hb1826 ?_
         refine wp_exit ?_
         refine xs ?_
         refine xs ?_
         refine xb ?_
         refine nb ?_
         refine nx ?_
         obtain rfl := Option.some.inj he
         exact ⟨(), _, rfl, rfl, q1803, q1804, Mem.pick [0, 1] rfl hm1824⟩
     ·
      rintro a w ⟨s1770, f, rfl, rfl, q1768, q1769, hm1840⟩
      replace he := goE hk1772
      refine wp_region_lit ?_
      refine s_val (v := (.int .i64 s1555)) (won rfl) rfl rfl (x_move rfl (ev (t := 4) (v := (.int .i64 s1555)) rfl q1769)) ?_
      refine s_val (v := (.int .i64 (IntKind.wrap .i64 (s1555 + 1)))) (won rfl) rfl rfl (x_add rfl (ev (t := 68) rfl rfl) rfl) ?_
      refine s_val (v := (.int .i64 (IntKind.wrap .i64 (s1555 + 1)))) (won rfl) rfl rfl (x_assign rfl (ev (t := 69) rfl rfl)) ?_
      refine wpList_nil ?_
      refine nx ?_
      exact ⟨(IntKind.wrap .i64 (s1555 + 1)), _, he, rfl, q1768, rfl, Mem.pick [0, 1] rfl hm1840⟩
    ·
     replace he := bifF he hb1702
     refine c_false rfl (p := (decide (s1555 < (((([] : List Int) ++ a0.Posted) ++ a0.Done).length : Int)))) rfl rfl hb1702 ?_
     refine wp_exit ?_
     refine xs ?_
     refine xs ?_
     refine xb ?_
     refine nx ?_
     obtain rfl := Option.some.inj he
     exact ⟨(), _, rfl, rfl, Mem.pick [1] rfl hm1700⟩
  ·
   rintro a w ⟨s1408, f, rfl, rfl, hm1842⟩
   replace he := goE hk1410
   refine wp_seq ?_
   refine wp_region_lit ?_
   refine s_val (v := (.bool true)) (won rfl) rfl rfl (x_assign rfl rfl) ?_
   refine wpList_nil ?_
   refine nx ?_
   refine wp_ret ?_
   obtain rfl := Option.some.inj he
   refine r_ret (v := (.bool true)) (rv_one rfl (RVs.tmp (v := (.bool true)) rfl rfl RVs.nil)) rfl ?_
   exact ⟨rfl, Mem.pick [0] rfl hm1842⟩
def spec_l13Own (a0 : impl_Ring) : Option (impl_Ring) := gd ((([] : List Int).length + a0.Posted.length) * 8 ≤ 140737488355328) (gd ((([] : List Int).length + a0.Done.length) * 8 ≤ 140737488355328) ((some (impl_Ring.mk a0.Size a0.Up (([] : List Int) ++ a0.Posted) (([] : List Int) ++ a0.Done) a0.Lost a0.Pending a0.Every a0.Signals))))
set_option maxHeartbeats 400000 in
set_option maxRecDepth 100000 in
theorem spec_l13Own_ok {w0 w : World} {hR hF : Hp} {v0x2 : Value} {v0x3 : Value} (a0 : impl_Ring) {r : (impl_Ring)} (H0x2 : RdF w0 (FK.int .i64) v0x2 a0.Posted hR) (H0x3 : RdF w0 (FK.int .i64) v0x3 a0.Done hR) (hs : Sub hR hF) (hm : Mem w0 w (cat [hF])) (he : spec_l13Own a0 = some r) :
    Calls Try.prog 78 #[(.agg #[(.int .i64 a0.Size), (.bool a0.Up), v0x2, v0x3, (.int .i64 a0.Lost), (.int .i64 a0.Pending), (.int .i64 a0.Every), (.int .i64 a0.Signals)])] w (fun e w' => ∃ (v'0 : Value) (h'0 : Hp) (v'1 : Value) (h'1 : Hp), e = .returned (.agg #[(.int .i64 r.Size), (.bool r.Up), v'0, v'1, (.int .i64 r.Lost), (.int .i64 r.Pending), (.int .i64 r.Every), (.int .i64 r.Signals)]) ∧ OwF 3 (FK.int .i64) v'0 r.Posted h'0 ∧ OwF 3 (FK.int .i64) v'1 r.Done h'1 ∧ Mem w0 w' (cat [h'0, h'1, hF])) := by
 refine calls_fr (n := 14) Try.func78 rfl rfl rfl ?_
 unfold spec_l13Own at he
 refine wp_seq ?_
 refine wp_region_lit ?_
 refine s_exv (won rfl) rfl rfl (e_box (vs := [(.int .i64 a0.Size), (.bool a0.Up), v0x2, v0x3, (.int .i64 a0.Lost), (.int .i64 a0.Pending), (.int .i64 a0.Every), (.int .i64 a0.Signals)]) rfl (ev (t := 0) rfl rfl) rfl hm) ?_
 rintro g40 w41 hm42
 refine s_exv (won rfl) rfl rfl (e_alloc (vs := [(.int .i64 0), (.bool false), (.slice none 0 0), (.slice none 0 0), (.int .i64 0), (.int .i64 0), (.int .i64 0), (.int .i64 0)]) rfl zt_65 rfl hm42) ?_
 rintro g46 w47 hm48
 refine wpList_nil ?_
 refine nx ?_
 refine wp_seq ?_
 obtain ⟨hg55, he⟩ := gdE he
 refine wp_region_lit ?_
 refine s_exv (won rfl) rfl rfl (e_litp (cells := []) (ps := []) rfl slt_26 (pmap_lit pmap_nil) (fun w1 => run_bslice0 slt_26) hm48) ?_
 rintro g52 w50 hm51
 have H53 : OwF 3 (FK.int .i64) (.slice (some ⟨g52, 0, none⟩) 0 0) ([] : List Int) (sg g52 3 (0, 0) [] (encs (FK.int .i64) ([] : List Int)) []) := OwF.lit g52 ([] : List Int) 0 rfl (by decide)
 replace hm51 : Mem w0 w50 (cat [(sg g52 3 (0, 0) [] (encs (FK.int .i64) ([] : List Int)) []), sg g46 65 (0, 0) [] [(.int .i64 0), (.bool false), (.slice none 0 0), (.slice none 0 0), (.int .i64 0), (.int .i64 0), (.int .i64 0), (.int .i64 0)] [], sg g40 65 (0, 0) [] [(.int .i64 a0.Size), (.bool a0.Up), v0x2, v0x3, (.int .i64 a0.Lost), (.int .i64 a0.Pending), (.int .i64 a0.Every), (.int .i64 a0.Signals)] [], hF]) := hm51
 refine s_val (v := (.pointer (some ⟨g40, 2, none⟩))) (won rfl) rfl rfl (x_field rfl fa_65x2 (ev (t := 1) rfl rfl)) ?_
 refine s_val (v := v0x2) (won rfl) rfl rfl (x_load rfl ty1x26 (ev (t := 4) rfl rfl) (seg_cell (o' := 0) (j := 2) hm51 (k := 2) rfl rfl rfl)) ?_
 refine s_exv (won rfl) rfl rfl (e_append (bytes := 8) rfl slt_26 rfl (ev (t := 3) rfl rfl) (ev (t := 5) rfl rfl) H53 (k := 0) rfl H0x2 (Sub.trans hs (Sub.at_ (k := 3) rfl)) hm51 hg55 (len63 hg55 rfl)) ?_
 rintro p57 w59 ⟨H58, hm60⟩
 replace hm60 : Mem w0 w59 (cat [p57.2, sg g46 65 (0, 0) [] [(.int .i64 0), (.bool false), (.slice none 0 0), (.slice none 0 0), (.int .i64 0), (.int .i64 0), (.int .i64 0), (.int .i64 0)] [], sg g40 65 (0, 0) [] [(.int .i64 a0.Size), (.bool a0.Up), v0x2, v0x3, (.int .i64 a0.Lost), (.int .i64 a0.Pending), (.int .i64 a0.Every), (.int .i64 a0.Signals)] [], hF]) := hm60
 refine s_val (v := (.pointer (some ⟨g40, 2, none⟩))) (won rfl) rfl rfl (x_field rfl fa_65x2 (ev (t := 1) rfl rfl)) ?_
 refine s_exs (won rfl) rfl (e_store (vs := [p57.1]) (o' := 0) (j := 2) rfl sz_26 (ev (t := 7) rfl rfl) (ev (t := 6) rfl rfl) (IsSl.cells (H58).sl) (one_cons (IsSl.one (H58).sl) one_nil) hm60 (k := 2) rfl rfl rfl) ?_
 intro w61 hm62
 replace hm62 : Mem w0 w61 (cat [p57.2, sg g46 65 (0, 0) [] [(.int .i64 0), (.bool false), (.slice none 0 0), (.slice none 0 0), (.int .i64 0), (.int .i64 0), (.int .i64 0), (.int .i64 0)] [], sg g40 65 (0, 0) [] [(.int .i64 a0.Size), (.bool a0.Up), p57.1, v0x3, (.int .i64 a0.Lost), (.int .i64 a0.Pending), (.int .i64 a0.Every), (.int .i64 a0.Signals)] [], hF]) := hm62
 refine wpList_nil ?_
 refine nx ?_
 refine wp_seq ?_
 obtain ⟨hg68, he⟩ := gdE he
 refine wp_region_lit ?_
 refine s_exv (won rfl) rfl rfl (e_litp (cells := []) (ps := []) rfl slt_26 (pmap_lit pmap_nil) (fun w1 => run_bslice0 slt_26) hm62) ?_
 rintro g65 w63 hm64
 have H66 : OwF 3 (FK.int .i64) (.slice (some ⟨g65, 0, none⟩) 0 0) ([] : List Int) (sg g65 3 (0, 0) [] (encs (FK.int .i64) ([] : List Int)) []) := OwF.lit g65 ([] : List Int) 0 rfl (by decide)
 replace hm64 : Mem w0 w63 (cat [(sg g65 3 (0, 0) [] (encs (FK.int .i64) ([] : List Int)) []), p57.2, sg g46 65 (0, 0) [] [(.int .i64 0), (.bool false), (.slice none 0 0), (.slice none 0 0), (.int .i64 0), (.int .i64 0), (.int .i64 0), (.int .i64 0)] [], sg g40 65 (0, 0) [] [(.int .i64 a0.Size), (.bool a0.Up), p57.1, v0x3, (.int .i64 a0.Lost), (.int .i64 a0.Pending), (.int .i64 a0.Every), (.int .i64 a0.Signals)] [], hF]) := hm64
 refine s_val (v := (.pointer (some ⟨g40, 3, none⟩))) (won rfl) rfl rfl (x_field rfl fa_65x3 (ev (t := 1) rfl rfl)) ?_
 refine s_val (v := v0x3) (won rfl) rfl rfl (x_load rfl ty1x26 (ev (t := 9) rfl rfl) (seg_cell (o' := 0) (j := 3) hm64 (k := 3) rfl rfl rfl)) ?_
 refine s_exv (won rfl) rfl rfl (e_append (bytes := 8) rfl slt_26 rfl (ev (t := 8) rfl rfl) (ev (t := 10) rfl rfl) H66 (k := 0) rfl H0x3 (Sub.trans hs (Sub.at_ (k := 4) rfl)) hm64 hg68 (len63 hg68 rfl)) ?_
 rintro p70 w72 ⟨H71, hm73⟩
 replace hm73 : Mem w0 w72 (cat [p70.2, p57.2, sg g46 65 (0, 0) [] [(.int .i64 0), (.bool false), (.slice none 0 0), (.slice none 0 0), (.int .i64 0), (.int .i64 0), (.int .i64 0), (.int .i64 0)] [], sg g40 65 (0, 0) [] [(.int .i64 a0.Size), (.bool a0.Up), p57.1, v0x3, (.int .i64 a0.Lost), (.int .i64 a0.Pending), (.int .i64 a0.Every), (.int .i64 a0.Signals)] [], hF]) := hm73
 refine s_val (v := (.pointer (some ⟨g40, 3, none⟩))) (won rfl) rfl rfl (x_field rfl fa_65x3 (ev (t := 1) rfl rfl)) ?_
 refine s_exs (won rfl) rfl (e_store (vs := [p70.1]) (o' := 0) (j := 3) rfl sz_26 (ev (t := 12) rfl rfl) (ev (t := 11) rfl rfl) (IsSl.cells (H71).sl) (one_cons (IsSl.one (H71).sl) one_nil) hm73 (k := 3) rfl rfl rfl) ?_
 intro w74 hm75
 replace hm75 : Mem w0 w74 (cat [p70.2, p57.2, sg g46 65 (0, 0) [] [(.int .i64 0), (.bool false), (.slice none 0 0), (.slice none 0 0), (.int .i64 0), (.int .i64 0), (.int .i64 0), (.int .i64 0)] [], sg g40 65 (0, 0) [] [(.int .i64 a0.Size), (.bool a0.Up), p57.1, p70.1, (.int .i64 a0.Lost), (.int .i64 a0.Pending), (.int .i64 a0.Every), (.int .i64 a0.Signals)] [], hF]) := hm75
 refine wpList_nil ?_
 refine nx ?_
 refine wp_seq ?_
 refine wp_region_lit ?_
 refine s_val (v := (.agg #[(.int .i64 a0.Size), (.bool a0.Up), p57.1, p70.1, (.int .i64 a0.Lost), (.int .i64 a0.Pending), (.int .i64 a0.Every), (.int .i64 a0.Signals)])) (won rfl) rfl rfl (x_loadN (vs := [(.int .i64 a0.Size), (.bool a0.Up), p57.1, p70.1, (.int .i64 a0.Lost), (.int .i64 a0.Pending), (.int .i64 a0.Every), (.int .i64 a0.Signals)]) rfl tyN_65 (ev (t := 1) rfl rfl) (seg_cells (o' := 0) (j := 0) hm75 (k := 3) rfl rfl rfl)) ?_
 refine s_exs (won rfl) rfl (e_store (vs := [(.int .i64 a0.Size), (.bool a0.Up), p57.1, p70.1, (.int .i64 a0.Lost), (.int .i64 a0.Pending), (.int .i64 a0.Every), (.int .i64 a0.Signals)]) (o' := 0) (j := 0) rfl sz_65 (ev (t := 2) rfl rfl) (ev (t := 13) rfl rfl) rfl (one_cons rfl (one_cons rfl (one_cons (IsSl.one (H58).sl) (one_cons (IsSl.one (H71).sl) (one_cons rfl (one_cons rfl (one_cons rfl (one_cons rfl one_nil)))))))) hm75 (k := 2) rfl rfl rfl) ?_
 intro w76 hm77
 replace hm77 : Mem w0 w76 (cat [p70.2, p57.2, sg g46 65 (0, 0) [] [(.int .i64 a0.Size), (.bool a0.Up), p57.1, p70.1, (.int .i64 a0.Lost), (.int .i64 a0.Pending), (.int .i64 a0.Every), (.int .i64 a0.Signals)] [], sg g40 65 (0, 0) [] [(.int .i64 a0.Size), (.bool a0.Up), p57.1, p70.1, (.int .i64 a0.Lost), (.int .i64 a0.Pending), (.int .i64 a0.Every), (.int .i64 a0.Signals)] [], hF]) := hm77
 refine wpList_nil ?_
 have hm78 : Mem w0 w76 (cat [p70.2, p57.2, sg g46 65 (0, 0) [] [(.int .i64 a0.Size), (.bool a0.Up), p57.1, p70.1, (.int .i64 a0.Lost), (.int .i64 a0.Pending), (.int .i64 a0.Every), (.int .i64 a0.Signals)] [], hF]) := Mem.pick [0, 1, 2, 4] rfl hm77
 refine nx ?_
 refine wp_ret ?_
 obtain rfl := Option.some.inj he
 refine r_ret (v := (.agg #[(.int .i64 a0.Size), (.bool a0.Up), p57.1, p70.1, (.int .i64 a0.Lost), (.int .i64 a0.Pending), (.int .i64 a0.Every), (.int .i64 a0.Signals)])) (rv_one rfl (RVs.cell (cs := [(.int .i64 a0.Size), (.bool a0.Up), p57.1, p70.1, (.int .i64 a0.Lost), (.int .i64 a0.Pending), (.int .i64 a0.Every), (.int .i64 a0.Signals)]) rfl rfl tyN_65 (seg_cells (o' := 0) (j := 0) hm78 (k := 2) rfl rfl rfl) RVs.nil)) rfl ?_
 exact ⟨p57.1, p57.2, p70.1, p70.2, rfl, H58, H71, Mem.pick [1, 0, 3] rfl hm78⟩
def spec_l13Has_l1 (F : Nat) (a0 : (List Int)) (a1 : Int) : Nat → Int → Option (Fl (Bool) (Unit))
  | 0, _ => none
  | k + 1, s109 => (bif (decide (s109 < (a0.length : Int))) then gd ((0 : Int) ≤ s109 ∧ s109 < (a0.length : Int)) ((bif (decide ((ix a0 s109) = a1)) then (some (Fl.out true)) else spec_l13Has_l1 F a0 a1 k (IntKind.wrap .i64 (s109 + 1)))) else (some (Fl.go ())))
def spec_l13Has (F : Nat) (a0 : (List Int)) (a1 : Int) : Option (Bool) := (spec_l13Has_l1 F a0 a1 F 0 : Option (Fl (Bool) (Unit))).bind fun l95 => l95.on fun (s94 : (Unit)) => (some false)
set_option maxHeartbeats 400000 in
set_option maxRecDepth 100000 in
theorem spec_l13Has_ok (F : Nat) {w0 w : World} {hR hF : Hp} {v0x0 : Value} (a0 : (List Int)) (a1 : Int) {r : (Bool)} (H0x0 : RdF w0 (FK.int .i64) v0x0 a0 hR) (hs : Sub hR hF) (hm : Mem w0 w (cat [hF])) (he : spec_l13Has F a0 a1 = some r) :
    Calls Try.prog 92 #[v0x0, (.int .i64 a1)] w (fun e w' => e = .returned (.bool r) ∧ Mem w0 w' (cat [hF])) := by
 refine calls_fr (n := 18) Try.func92 rfl rfl rfl ?_
 unfold spec_l13Has at he
 refine wp_seq ?_
 refine wp_region_lit ?_
 refine s_val (v := (.bool false)) (won rfl) rfl rfl (x_assign rfl rfl) ?_
 refine wpList_nil ?_
 refine nx ?_
 obtain ⟨l95, hT97, hk96⟩ := bindE he
 replace he := hT97
 refine wp_seqJ (fun a w => ∃ (s94 : (Unit)) (f : Nat → Value), l95 = Fl.go s94 ∧ a = fr 18 f ∧ Mem w0 w (cat [hF])) ?_ ?_
 ·
  refine wp_seq ?_
  refine wp_region_lit ?_
  refine s_val (v := (.int .i64 0)) (won rfl) rfl rfl (x_assign rfl rfl) ?_
  refine wpList_nil ?_
  refine nx ?_
  refine wp_block ?_
  refine wp_fuel (I := fun k => fun a w => ∃ (s109 : Int) (f : Nat → Value), spec_l13Has_l1 F a0 a1 k s109 = some l95 ∧ a = fr 18 f ∧ f 0 = v0x0 ∧ f 1 = (.int .i64 a1) ∧ f 5 = (.int .i64 s109) ∧ Mem w0 w (cat [hF])) F _ _ ⟨0, _, he, rfl, rfl, rfl, rfl, Mem.pick [0] rfl hm⟩ ?_ ?_
  ·
   rintro a w ⟨s109, f, he, rfl, q107, q108, q110, hm118⟩
   rw [spec_l13Has_l1] at he; exact none_no he
  ·
   rintro k a w ⟨s109, f, he, rfl, q107, q108, q110, hm120⟩
   rw [spec_l13Has_l1] at he
   refine wp_seq ?_
   refine wp_seq ?_
   refine wp_region_lit ?_
   refine s_val (v := (.int .i64 s109)) (won rfl) rfl rfl (x_move rfl (ev (t := 5) (v := (.int .i64 s109)) rfl q110)) ?_
   refine s_val (v := v0x0) (won rfl) rfl rfl (x_move rfl (ev (t := 0) (v := v0x0) rfl q107)) ?_
   refine s_val (v := (.int .i64 (a0.length : Int))) (won rfl) rfl rfl (x_len rfl slt_26 (ev (t := 7) rfl rfl) (H0x0).sl) ?_
   refine s_val (v := (.bool (decide (s109 < (a0.length : Int))))) (won rfl) rfl rfl (x_lss rfl (ev (t := 6) rfl rfl) (ev (t := 8) rfl rfl)) ?_
   refine wpList_nil ?_
   refine nx ?_
   rcases Bool.eq_false_or_eq_true ((decide (s109 < (a0.length : Int)))) with hb122 | hb122
   ·
    replace he := bifT he hb122
    refine c_true rfl (p := (decide (s109 < (a0.length : Int)))) rfl rfl hb122 ?_
    refine wp_skip ?_
    refine nx ?_
    refine wp_seq ?_
    refine wp_block ?_
    refine wp_seq ?_
    obtain ⟨hg125, he⟩ := gdE he
    refine wp_region_lit ?_
    refine s_val (v := v0x0) (won rfl) rfl rfl (x_move rfl (ev (t := 0) (v := v0x0) rfl q107)) ?_
    refine s_val (v := (.int .i64 s109)) (won rfl) rfl rfl (x_move rfl (ev (t := 5) (v := (.int .i64 s109)) rfl q110)) ?_
    refine s_val (v := (.pointer (some ((slA v0x0).add (Int.toNat s109 * 1))))) (won rfl) rfl rfl (x_index (d := (FK.int .i64)) rfl slt_26 (ev (t := 12) rfl rfl) (ev (t := 13) rfl rfl) H0x0 hg125.1 hg125.2) ?_
    refine s_val (v := (.int .i64 (ix a0 s109))) (won rfl) rfl rfl (x_load rfl ty1x3 (ev (t := 14) rfl rfl) (RdF.cell0 H0x0 hm120 (Sub.trans hs (Sub.at_ (k := 0) rfl)) hg125.1 hg125.2 rfl)) ?_
    refine s_val (v := (.int .i64 a1)) (won rfl) rfl rfl (x_move rfl (ev (t := 1) (v := (.int .i64 a1)) rfl q108)) ?_
    refine s_val (v := (.bool (decide ((ix a0 s109) = a1)))) (won rfl) rfl rfl (x_eql rfl (ev (t := 15) rfl rfl) (ev (t := 16) rfl rfl)) ?_
    refine wpList_nil ?_
    refine nx ?_
    rcases Bool.eq_false_or_eq_true ((decide ((ix a0 s109) = a1))) with hb126 | hb126
    ·
     replace he := bifT he hb126
     refine c_true rfl (p := (decide ((ix a0 s109) = a1))) rfl rfl hb126 ?_
     refine wp_seq ?_
     refine wp_region_lit ?_
     refine s_val (v := (.bool true)) (won rfl) rfl rfl (x_assign rfl rfl) ?_
     refine wpList_nil ?_
     refine nx ?_
     refine wp_ret ?_
     refine rb ?_
     refine xr ?_
     refine xr ?_
     refine rb ?_
     refine xr ?_
     obtain rfl := Option.some.inj he
     replace he := outE hk96
     obtain rfl := Option.some.inj he
     refine r_ret (v := (.bool true)) (rv_one rfl (RVs.tmp (v := (.bool true)) rfl rfl RVs.nil)) rfl ?_
     exact ⟨rfl, Mem.pick [0] rfl hm120⟩
    ·
     replace he := bifF he hb126
     refine c_false rfl (p := (decide ((ix a0 s109) = a1))) rfl rfl hb126 ?_
     refine wp_skip ?_
     refine nb ?_
     refine nx ?_
     refine wp_region_lit ?_
     refine s_val (v := (.int .i64 s109)) (won rfl) rfl rfl (x_move rfl (ev (t := 5) (v := (.int .i64 s109)) rfl q110)) ?_
     refine s_val (v := (.int .i64 (IntKind.wrap .i64 (s109 + 1)))) (won rfl) rfl rfl (x_add rfl (ev (t := 10) rfl rfl) rfl) ?_
     refine s_val (v := (.int .i64 (IntKind.wrap .i64 (s109 + 1)))) (won rfl) rfl rfl (x_assign rfl (ev (t := 11) rfl rfl)) ?_
     refine wpList_nil ?_
     refine nx ?_
     exact ⟨(IntKind.wrap .i64 (s109 + 1)), _, he, rfl, q107, q108, rfl, Mem.pick [0] rfl hm120⟩
   ·
    replace he := bifF he hb122
    refine c_false rfl (p := (decide (s109 < (a0.length : Int)))) rfl rfl hb122 ?_
    refine wp_exit ?_
    refine xs ?_
    refine xs ?_
    refine xb ?_
    refine nx ?_
    obtain rfl := Option.some.inj he
    exact ⟨(), _, rfl, rfl, Mem.pick [0] rfl hm120⟩
 ·
  rintro a w ⟨s94, f, rfl, rfl, hm128⟩
  replace he := goE hk96
  refine wp_seq ?_
  refine wp_region_lit ?_
  refine s_val (v := (.bool false)) (won rfl) rfl rfl (x_assign rfl rfl) ?_
  refine wpList_nil ?_
  refine nx ?_
  refine wp_ret ?_
  obtain rfl := Option.some.inj he
  refine r_ret (v := (.bool false)) (rv_one rfl (RVs.tmp (v := (.bool false)) rfl rfl RVs.nil)) rfl ?_
  exact ⟨rfl, Mem.pick [0] rfl hm128⟩
end Go.Proofs.Ytpkdolmbhfmjcaa.FnExactRingStep
