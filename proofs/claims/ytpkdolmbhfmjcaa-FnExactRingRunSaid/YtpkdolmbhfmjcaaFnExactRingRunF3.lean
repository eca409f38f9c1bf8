/- What functions of the program compute, and their walks: printed. -/
import Derived.Test.YtpkdolmbhfmjcaaFnExactRingRunT
import Derived.Test.YtpkdolmbhfmjcaaFnExactRingRunF0
import Derived.Test.YtpkdolmbhfmjcaaFnExactRingRunF1
import Derived.Test.YtpkdolmbhfmjcaaFnExactRingRunF2
set_option linter.unusedVariables false
set_option linter.unusedSimpArgs false
set_option linter.unusedSectionVars false
namespace Go.Proofs.Ytpkdolmbhfmjcaa.FnExactRingRun
open Go.RowKit Go.Proofs.Gw
attribute [local irreducible] wpList DG wpQuiet wl
def laws_FnExactRingRun (F : Nat) (a0 : Int) (a1 : Int) (a2 : (List impl_RingAct)) : Option (Bool) := (laws_szRingActS a2 1048576).bind fun r226 => (bif (decide (r226 < 0)) then (some true) else (laws_toRingActS F a2).bind fun r231 => (spec_RingRun F a0 a1 r231).bind fun r238 => (laws_toRingActS F a2).bind fun r262 => (impl_RingRun F a0 a1 r262).bind fun r269 => (laws_eqRing F r269.1 r238.1).bind fun r300 => (bif (!(!r300)) then laws_eqRingReplyS F r269.2.1 r238.2.1 else some false).bind fun r303 => (bif (((!r300) || (!r303)) || (!decide (r269.2.2 = r238.2.2))) then (some false) else (laws_toRingActS F a2).bind fun r321 => (laws_eqRingActS F r262 r321).bind fun r328 => (bif (!r328) then (some false) else (laws_markRingActS F r262 1).bind fun r334 => (bif (!(decide (r334.1 < 0))) then laws_eqRing F r269.1 r238.1 else some false).bind fun r348 => (bif (!((decide (r334.1 < 0)) || (!r348))) then laws_eqRingReplyS F r269.2.1 r238.2.1 else some false).bind fun r351 => (bif ((((decide (r334.1 < 0)) || (!r348)) || (!r351)) || (!decide (r269.2.2 = r238.2.2))) then (some false) else (laws_markRing F r269.1 1).bind fun r356 => (laws_markRingReplyS F r269.2.1 r356.1).bind fun r363 => (laws_heldRing F (impl_Ring.mk r269.1.Size r269.1.Up r356.2.1 r356.2.2 r269.1.Lost r269.1.Pending r269.1.Every r269.1.Signals) 1).bind fun r368 => (bif (decide (r368 < 0)) then (some false) else (laws_heldRingReplyS F r363.2 r368).bind fun r375 => (bif (decide (r375 < 0)) then (some false) else (bif (!decide (r375 = r363.1)) then (some false) else (laws_toRingActS F a2).bind fun r386 => (impl_RingRun F a0 a1 r386).bind fun r393 => (laws_eqRing F r393.1 r238.1).bind fun r426 => (bif (!(!r426)) then laws_eqRingReplyS F r393.2.1 r238.2.1 else some false).bind fun r429 => (bif (((!r426) || (!r429)) || (!decide (r393.2.2 = r238.2.2))) then (some false) else (laws_heldRing F (impl_Ring.mk r269.1.Size r269.1.Up r356.2.1 r356.2.2 r269.1.Lost r269.1.Pending r269.1.Every r269.1.Signals) 1).bind fun r435 => (bif (decide (r435 < 0)) then (some false) else (laws_heldRingReplyS F r363.2 r435).bind fun r443 => (bif (decide (r443 < 0)) then (some false) else (bif (!decide (r443 = r363.1)) then (some false) else (some true))))))))))))
set_option maxHeartbeats 400000 in
set_option maxRecDepth 100000 in
theorem laws_FnExactRingRun_ok (F : Nat) {w0 w : World} {hR hF : Hp} {v2x0 : Value} (a0 : Int) (a1 : Int) (a2 : (List impl_RingAct)) {r : (Bool)} (H2x0 : RdF w0 impl_RingAct.K v2x0 a2 hR) (hs : Sub hR hF) (hm : Mem w0 w (cat [hF])) (he : laws_FnExactRingRun F a0 a1 a2 = some r) :
    Calls Try.prog 8 #[(.int .i64 a0), (.int .i64 a1), v2x0] w (fun e w' => e = .returned (.bool r) ∧ Mem w0 w' (cat [hF])) := by
 refine calls_fr (n := 143) Try.func8 rfl rfl rfl ?_
 unfold laws_FnExactRingRun at he
 refine wp_seq ?_
 refine wp_region_lit ?_
 refine s_val (v := (.bool false)) (won rfl) rfl rfl (x_assign rfl rfl) ?_
 refine wpList_nil ?_
 refine nx ?_
 refine wp_seq ?_
 refine wp_region_lit ?_
 refine s_val (v := (.int .i64 1048576)) (won rfl) rfl rfl (x_assign rfl rfl) ?_
 refine wpList_nil ?_
 refine nx ?_
 refine wp_seq ?_
 obtain ⟨r226, hr226, he⟩ := bindE he
 refine wp_region_lit ?_
 refine s_val (v := v2x0) (won rfl) rfl rfl (x_move rfl (ev (t := 2) rfl rfl)) ?_
 refine s_val (v := (.int .i64 1048576)) (won rfl) rfl rfl (x_move rfl (ev (t := 7) rfl rfl)) ?_
 refine s_call (won rfl) rfl rfl (x_call rfl rfl cl_49 (map_lit (map_cons (ev (t := 21) rfl rfl) (map_cons (ev (t := 22) rfl rfl) map_nil)))) (laws_szRingActS_ok (hR := (cat [hR])) (hF := cat [hF]) a2 1048576 (H2x0.mono (Sub.at_ (k := 0) rfl)) (subc (Sub.trans hs (Sub.at_ (k := 0) rfl)) subn) (Mem.one hm) hr226) ?_
 rintro e w227 ⟨rfl, hm228⟩
 refine ⟨_, rfl, ?_⟩
 replace hm228 : Mem w0 w227 (cat [hF]) := Mem.un hm228
 refine s_val (v := (.int .i64 r226)) (won rfl) rfl rfl (x_assign rfl (ev (t := 23) rfl rfl)) ?_
 refine wpList_nil ?_
 refine nx ?_
 refine wp_seq ?_
 refine wp_seq ?_
 refine wp_region_lit ?_
 refine s_val (v := (.int .i64 r226)) (won rfl) rfl rfl (x_move rfl (ev (t := 7) rfl rfl)) ?_
 refine s_val (v := (.bool (decide (r226 < 0)))) (won rfl) rfl rfl (x_lss rfl (ev (t := 24) rfl rfl) rfl) ?_
 refine wpList_nil ?_
 refine nx ?_
 rcases Bool.eq_false_or_eq_true ((decide (r226 < 0))) with hb230 | hb230
 ·
  replace he := bifT he hb230
  refine c_true rfl (p := (decide (r226 < 0))) rfl rfl hb230 ?_
  refine wp_seq ?_
  refine wp_region_lit ?_
  refine s_val (v := (.bool true)) (won rfl) rfl rfl (x_assign rfl rfl) ?_
  refine wpList_nil ?_
  refine nx ?_
  refine wp_ret ?_
  refine xr ?_
  obtain rfl := Option.some.inj he
  refine r_ret (v := (.bool true)) (rv_one rfl (RVs.tmp (v := (.bool true)) rfl rfl RVs.nil)) rfl ?_
  exact ⟨rfl, Mem.pick [0] rfl hm228⟩
 ·
  replace he := bifF he hb230
  refine c_false rfl (p := (decide (r226 < 0))) rfl rfl hb230 ?_
  refine wp_skip ?_
  refine nx ?_
  refine wp_seq ?_
  obtain ⟨r231, hr231, he⟩ := bindE he
  obtain ⟨r238, hr238, he⟩ := bindE he
  refine wp_region_lit ?_
  refine s_val (v := (.int .i64 a0)) (won rfl) rfl rfl (x_move rfl (ev (t := 0) rfl rfl)) ?_
  refine s_val (v := (.int .i64 a1)) (won rfl) rfl rfl (x_move rfl (ev (t := 1) rfl rfl)) ?_
  refine s_val (v := v2x0) (won rfl) rfl rfl (x_move rfl (ev (t := 2) rfl rfl)) ?_
  refine s_call (won rfl) rfl rfl (x_call rfl rfl cl_50 (map_lit (map_cons (ev (t := 29) rfl rfl) map_nil))) (laws_toRingActS_ok F (hR := (cat [hR])) (hF := cat [hF]) a2 (H2x0.mono (Sub.at_ (k := 0) rfl)) (subc (Sub.trans hs (Sub.at_ (k := 0) rfl)) subn) (Mem.one hm228) hr231) ?_
  rintro e w236 ⟨v233, h235, rfl, H234, hm237⟩
  refine ⟨_, rfl, ?_⟩
  replace hm237 : Mem w0 w236 (cat [h235, hF]) := Mem.ung [h235] [hF] hm237
  refine s_call (won rfl) rfl rfl (x_call rfl rfl cl_35 (map_lit (map_cons (ev (t := 27) rfl rfl) (map_cons (ev (t := 28) rfl rfl) (map_cons (ev (t := 30) rfl rfl) map_nil))))) (spec_RingRun_ok F (hR := (cat [h235])) (hF := cat [h235, hF]) a0 a1 r231 ((H234.rd w0).mono (Sub.at_ (k := 0) rfl)) (subc (Sub.at_ (k := 0) rfl) subn) (Mem.one hm237) hr238) ?_
  rintro e w251 ⟨v240, h242, v244, h246, v248, h250, rfl, H241, H245, H249, hm252⟩
  refine ⟨_, rfl, ?_⟩
  replace hm252 : Mem w0 w251 (cat [h242, h246, h250, h235, hF]) := Mem.ung [h242, h246, h250] [h235, hF] hm252
  refine s_val (v := (.tuple #[(.agg #[(.int .i64 r238.1.Size), (.bool r238.1.Up), v240, v244, (.int .i64 r238.1.Lost), (.int .i64 r238.1.Pending), (.int .i64 r238.1.Every), (.int .i64 r238.1.Signals)]), v248, (.int .i64 r238.2.2)])) (won rfl) rfl rfl (x_move rfl (ev (t := 31) rfl rfl)) ?_
  refine s_val (v := (.agg #[(.int .i64 r238.1.Size), (.bool r238.1.Up), v240, v244, (.int .i64 r238.1.Lost), (.int .i64 r238.1.Pending), (.int .i64 r238.1.Every), (.int .i64 r238.1.Signals)])) (won rfl) rfl rfl (x_extract rfl (ev (t := 26) rfl rfl) rfl) ?_
  refine s_val (v := v248) (won rfl) rfl rfl (x_extract rfl (ev (t := 26) rfl rfl) rfl) ?_
  refine s_val (v := (.int .i64 r238.2.2)) (won rfl) rfl rfl (x_extract rfl (ev (t := 26) rfl rfl) rfl) ?_
  refine s_exv (won rfl) rfl rfl (e_alloc (vs := [(.int .i64 0), (.bool false), (.slice none 0 0), (.slice none 0 0), (.int .i64 0), (.int .i64 0), (.int .i64 0), (.int .i64 0)]) rfl zt_65 rfl hm252) ?_
  rintro g255 w256 hm257
  refine s_exs (won rfl) rfl (e_store (vs := [(.int .i64 r238.1.Size), (.bool r238.1.Up), v240, v244, (.int .i64 r238.1.Lost), (.int .i64 r238.1.Pending), (.int .i64 r238.1.Every), (.int .i64 r238.1.Signals)]) (o' := 0) (j := 0) rfl sz_65 (ev (t := 8) rfl rfl) (ev (t := 32) rfl rfl) rfl (one_cons rfl (one_cons rfl (one_cons (IsSl.one (H241).sl) (one_cons (IsSl.one (H245).sl) (one_cons rfl (one_cons rfl (one_cons rfl (one_cons rfl one_nil)))))))) hm257 (k := 0) rfl rfl rfl) ?_
  intro w259 hm260
  replace hm260 : Mem w0 w259 (cat [sg g255 65 (0, 0) [] [(.int .i64 r238.1.Size), (.bool r238.1.Up), v240, v244, (.int .i64 r238.1.Lost), (.int .i64 r238.1.Pending), (.int .i64 r238.1.Every), (.int .i64 r238.1.Signals)] [], h242, h246, h250, h235, hF]) := hm260
  refine s_val (v := v248) (won rfl) rfl rfl (x_assign rfl (ev (t := 33) rfl rfl)) ?_
  refine s_val (v := (.int .i64 r238.2.2)) (won rfl) rfl rfl (x_assign rfl (ev (t := 34) rfl rfl)) ?_
  refine wpList_nil ?_
  have hm261 : Mem w0 w259 (cat [sg g255 65 (0, 0) [] [(.int .i64 r238.1.Size), (.bool r238.1.Up), v240, v244, (.int .i64 r238.1.Lost), (.int .i64 r238.1.Pending), (.int .i64 r238.1.Every), (.int .i64 r238.1.Signals)] [], h242, h246, h250, hF]) := Mem.pick [0, 1, 2, 3, 5] rfl hm260
  refine nx ?_
  refine wp_seq ?_
  obtain ⟨r262, hr262, he⟩ := bindE he
  refine wp_region_lit ?_
  refine s_val (v := v2x0) (won rfl) rfl rfl (x_move rfl (ev (t := 2) rfl rfl)) ?_
  refine s_call (won rfl) rfl rfl (x_call rfl rfl cl_50 (map_lit (map_cons (ev (t := 35) rfl rfl) map_nil))) (laws_toRingActS_ok F (hR := (cat [hR])) (hF := cat [sg g255 65 (0, 0) [] [(.int .i64 r238.1.Size), (.bool r238.1.Up), v240, v244, (.int .i64 r238.1.Lost), (.int .i64 r238.1.Pending), (.int .i64 r238.1.Every), (.int .i64 r238.1.Signals)] [], h242, h246, h250, hF]) a2 (H2x0.mono (Sub.at_ (k := 0) rfl)) (subc (Sub.trans hs (Sub.at_ (k := 4) rfl)) subn) (Mem.one hm261) hr262) ?_
  rintro e w267 ⟨v264, h266, rfl, H265, hm268⟩
  refine ⟨_, rfl, ?_⟩
  replace hm268 : Mem w0 w267 (cat [h266, sg g255 65 (0, 0) [] [(.int .i64 r238.1.Size), (.bool r238.1.Up), v240, v244, (.int .i64 r238.1.Lost), (.int .i64 r238.1.Pending), (.int .i64 r238.1.Every), (.int .i64 r238.1.Signals)] [], h242, h246, h250, hF]) := Mem.ung [h266] [sg g255 65 (0, 0) [] [(.int .i64 r238.1.Size), (.bool r238.1.Up), v240, v244, (.int .i64 r238.1.Lost), (.int .i64 r238.1.Pending), (.int .i64 r238.1.Every), (.int .i64 r238.1.Signals)] [], h242, h246, h250, hF] hm268
  refine s_val (v := v264) (won rfl) rfl rfl (x_assign rfl (ev (t := 36) rfl rfl)) ?_
  refine wpList_nil ?_
  refine nx ?_
  refine wp_seq ?_
  obtain ⟨r269, hr269, he⟩ := bindE he
  refine wp_region_lit ?_
  refine s_val (v := (.int .i64 a0)) (won rfl) rfl rfl (x_move rfl (ev (t := 0) rfl rfl)) ?_
  refine s_val (v := (.int .i64 a1)) (won rfl) rfl rfl (x_move rfl (ev (t := 1) rfl rfl)) ?_
  refine s_val (v := v264) (won rfl) rfl rfl (x_move rfl (ev (t := 11) rfl rfl)) ?_
  refine s_call (won rfl) rfl rfl (x_call rfl rfl cl_34 (map_lit (map_cons (ev (t := 38) rfl rfl) (map_cons (ev (t := 39) rfl rfl) (map_cons (ev (t := 40) rfl rfl) map_nil))))) (impl_RingRun_ok F (hR := (cat [h266])) (hF := cat [h266, sg g255 65 (0, 0) [] [(.int .i64 r238.1.Size), (.bool r238.1.Up), v240, v244, (.int .i64 r238.1.Lost), (.int .i64 r238.1.Pending), (.int .i64 r238.1.Every), (.int .i64 r238.1.Signals)] [], h242, h246, h250, hF]) a0 a1 r262 ((H265.rd w0).mono (Sub.at_ (k := 0) rfl)) (subc (Sub.at_ (k := 0) rfl) subn) (Mem.one hm268) hr269) ?_
  rintro e w282 ⟨v271, h273, v275, h277, v279, h281, rfl, H272, H276, H280, hm283⟩
  refine ⟨_, rfl, ?_⟩
  replace hm283 : Mem w0 w282 (cat [h273, h277, h281, h266, sg g255 65 (0, 0) [] [(.int .i64 r238.1.Size), (.bool r238.1.Up), v240, v244, (.int .i64 r238.1.Lost), (.int .i64 r238.1.Pending), (.int .i64 r238.1.Every), (.int .i64 r238.1.Signals)] [], h242, h246, h250, hF]) := Mem.ung [h273, h277, h281] [h266, sg g255 65 (0, 0) [] [(.int .i64 r238.1.Size), (.bool r238.1.Up), v240, v244, (.int .i64 r238.1.Lost), (.int .i64 r238.1.Pending), (.int .i64 r238.1.Every), (.int .i64 r238.1.Signals)] [], h242, h246, h250, hF] hm283
  refine s_val (v := (.tuple #[(.agg #[(.int .i64 r269.1.Size), (.bool r269.1.Up), v271, v275, (.int .i64 r269.1.Lost), (.int .i64 r269.1.Pending), (.int .i64 r269.1.Every), (.int .i64 r269.1.Signals)]), v279, (.int .i64 r269.2.2)])) (won rfl) rfl rfl (x_move rfl (ev (t := 41) rfl rfl)) ?_
  refine s_val (v := (.agg #[(.int .i64 r269.1.Size), (.bool r269.1.Up), v271, v275, (.int .i64 r269.1.Lost), (.int .i64 r269.1.Pending), (.int .i64 r269.1.Every), (.int .i64 r269.1.Signals)])) (won rfl) rfl rfl (x_extract rfl (ev (t := 37) rfl rfl) rfl) ?_
  refine s_val (v := v279) (won rfl) rfl rfl (x_extract rfl (ev (t := 37) rfl rfl) rfl) ?_
  refine s_val (v := (.int .i64 r269.2.2)) (won rfl) rfl rfl (x_extract rfl (ev (t := 37) rfl rfl) rfl) ?_
  refine s_exv (won rfl) rfl rfl (e_alloc (vs := [(.int .i64 0), (.bool false), (.slice none 0 0), (.slice none 0 0), (.int .i64 0), (.int .i64 0), (.int .i64 0), (.int .i64 0)]) rfl zt_65 rfl hm283) ?_
  rintro g286 w287 hm288
  refine s_exs (won rfl) rfl (e_store (vs := [(.int .i64 r269.1.Size), (.bool r269.1.Up), v271, v275, (.int .i64 r269.1.Lost), (.int .i64 r269.1.Pending), (.int .i64 r269.1.Every), (.int .i64 r269.1.Signals)]) (o' := 0) (j := 0) rfl sz_65 (ev (t := 12) rfl rfl) (ev (t := 42) rfl rfl) rfl (one_cons rfl (one_cons rfl (one_cons (IsSl.one (H272).sl) (one_cons (IsSl.one (H276).sl) (one_cons rfl (one_cons rfl (one_cons rfl (one_cons rfl one_nil)))))))) hm288 (k := 0) rfl rfl rfl) ?_
  intro w290 hm291
  replace hm291 : Mem w0 w290 (cat [sg g286 65 (0, 0) [] [(.int .i64 r269.1.Size), (.bool r269.1.Up), v271, v275, (.int .i64 r269.1.Lost), (.int .i64 r269.1.Pending), (.int .i64 r269.1.Every), (.int .i64 r269.1.Signals)] [], h273, h277, h281, h266, sg g255 65 (0, 0) [] [(.int .i64 r238.1.Size), (.bool r238.1.Up), v240, v244, (.int .i64 r238.1.Lost), (.int .i64 r238.1.Pending), (.int .i64 r238.1.Every), (.int .i64 r238.1.Signals)] [], h242, h246, h250, hF]) := hm291
  refine s_val (v := v279) (won rfl) rfl rfl (x_assign rfl (ev (t := 43) rfl rfl)) ?_
  refine s_val (v := (.int .i64 r269.2.2)) (won rfl) rfl rfl (x_assign rfl (ev (t := 44) rfl rfl)) ?_
  refine wpList_nil ?_
  refine nx ?_
  refine wp_seq ?_
  refine wp_seq ?_
  obtain ⟨r300, hr300, he⟩ := bindE he
  obtain ⟨r303, hr303, he⟩ := bindE he
  refine wp_region_lit ?_
  refine s_val (v := (.agg #[(.int .i64 r269.1.Size), (.bool r269.1.Up), v271, v275, (.int .i64 r269.1.Lost), (.int .i64 r269.1.Pending), (.int .i64 r269.1.Every), (.int .i64 r269.1.Signals)])) (won rfl) rfl rfl (x_loadN (vs := [(.int .i64 r269.1.Size), (.bool r269.1.Up), v271, v275, (.int .i64 r269.1.Lost), (.int .i64 r269.1.Pending), (.int .i64 r269.1.Every), (.int .i64 r269.1.Signals)]) rfl tyN_65 (ev (t := 12) rfl rfl) (seg_cells (o' := 0) (j := 0) hm291 (k := 0) rfl rfl rfl)) ?_
  refine s_val (v := (.agg #[(.int .i64 r238.1.Size), (.bool r238.1.Up), v240, v244, (.int .i64 r238.1.Lost), (.int .i64 r238.1.Pending), (.int .i64 r238.1.Every), (.int .i64 r238.1.Signals)])) (won rfl) rfl rfl (x_loadN (vs := [(.int .i64 r238.1.Size), (.bool r238.1.Up), v240, v244, (.int .i64 r238.1.Lost), (.int .i64 r238.1.Pending), (.int .i64 r238.1.Every), (.int .i64 r238.1.Signals)]) rfl tyN_65 (ev (t := 8) rfl rfl) (seg_cells (o' := 0) (j := 0) hm291 (k := 5) rfl rfl rfl)) ?_
  refine s_call (won rfl) rfl rfl (x_call rfl rfl cl_43 (map_lit (map_cons (ev (t := 45) rfl rfl) (map_cons (ev (t := 46) rfl rfl) map_nil)))) (laws_eqRing_ok F (hR := (cat [h273, h277, h242, h246])) (hF := cat [sg g286 65 (0, 0) [] [(.int .i64 r269.1.Size), (.bool r269.1.Up), v271, v275, (.int .i64 r269.1.Lost), (.int .i64 r269.1.Pending), (.int .i64 r269.1.Every), (.int .i64 r269.1.Signals)] [], h273, h277, h281, h266, sg g255 65 (0, 0) [] [(.int .i64 r238.1.Size), (.bool r238.1.Up), v240, v244, (.int .i64 r238.1.Lost), (.int .i64 r238.1.Pending), (.int .i64 r238.1.Every), (.int .i64 r238.1.Signals)] [], h242, h246, h250, hF]) r269.1 r238.1 ((H272.rd w0).mono (Sub.at_ (k := 0) rfl)) ((H276.rd w0).mono (Sub.at_ (k := 1) rfl)) ((H241.rd w0).mono (Sub.at_ (k := 2) rfl)) ((H245.rd w0).mono (Sub.at_ (k := 3) rfl)) (subc (Sub.at_ (k := 1) rfl) (subc (Sub.at_ (k := 2) rfl) (subc (Sub.at_ (k := 6) rfl) (subc (Sub.at_ (k := 7) rfl) subn)))) (Mem.one hm291) hr300) ?_
  rintro e w301 ⟨rfl, hm302⟩
  refine ⟨_, rfl, ?_⟩
  replace hm302 : Mem w0 w301 (cat [sg g286 65 (0, 0) [] [(.int .i64 r269.1.Size), (.bool r269.1.Up), v271, v275, (.int .i64 r269.1.Lost), (.int .i64 r269.1.Pending), (.int .i64 r269.1.Every), (.int .i64 r269.1.Signals)] [], h273, h277, h281, h266, sg g255 65 (0, 0) [] [(.int .i64 r238.1.Size), (.bool r238.1.Up), v240, v244, (.int .i64 r238.1.Lost), (.int .i64 r238.1.Pending), (.int .i64 r238.1.Every), (.int .i64 r238.1.Signals)] [], h242, h246, h250, hF]) := Mem.un hm302
  refine s_val (v := (.bool (!r300))) (won rfl) rfl rfl (x_not rfl (ev (t := 47) rfl rfl)) ?_
  refine s_val (v := (.bool (!r300))) (won rfl) rfl rfl (x_move rfl (ev (t := 48) rfl rfl)) ?_
  refine s_cval (p := (!(!r300))) (v := v279) (won_f (j := 4) (t := 49) (q := (!r300)) rfl rfl rfl rfl rfl) rfl rfl (fun hp => (x_move rfl (ev (t := 13) rfl rfl))) ?_
  refine s_cval (p := (!(!r300))) (v := v248) (won_f (j := 4) (t := 49) (q := (!r300)) rfl rfl rfl rfl rfl) rfl rfl (fun hp => (x_move rfl (ev (t := 9) rfl rfl))) ?_
  refine s_ccall (p := (!(!r300))) (v := (.bool r303)) (J := fun w' => Mem w0 w' (cat [sg g286 65 (0, 0) [] [(.int .i64 r269.1.Size), (.bool r269.1.Up), v271, v275, (.int .i64 r269.1.Lost), (.int .i64 r269.1.Pending), (.int .i64 r269.1.Every), (.int .i64 r269.1.Signals)] [], h273, h277, h281, h266, sg g255 65 (0, 0) [] [(.int .i64 r238.1.Size), (.bool r238.1.Up), v240, v244, (.int .i64 r238.1.Lost), (.int .i64 r238.1.Pending), (.int .i64 r238.1.Every), (.int .i64 r238.1.Signals)] [], h242, h246, h250, hF])) (won_f (j := 4) (t := 49) (q := (!r300)) rfl rfl rfl rfl rfl) rfl rfl (fun hp => (x_call rfl rfl cl_51 (map_lit (map_cons (ev (t := 50) rfl (Eq.trans (b := cv (!(!r300)) v279) rfl (on_c hp))) (map_cons (ev (t := 51) rfl (Eq.trans (b := cv (!(!r300)) v248) rfl (on_c hp))) map_nil))))) (fun hp => ((laws_eqRingReplyS_ok F (hR := (cat [h281, h250])) (hF := cat [sg g286 65 (0, 0) [] [(.int .i64 r269.1.Size), (.bool r269.1.Up), v271, v275, (.int .i64 r269.1.Lost), (.int .i64 r269.1.Pending), (.int .i64 r269.1.Every), (.int .i64 r269.1.Signals)] [], h273, h277, h281, h266, sg g255 65 (0, 0) [] [(.int .i64 r238.1.Size), (.bool r238.1.Up), v240, v244, (.int .i64 r238.1.Lost), (.int .i64 r238.1.Pending), (.int .i64 r238.1.Every), (.int .i64 r238.1.Signals)] [], h242, h246, h250, hF]) r269.2.1 r238.2.1 ((H280.rd w0).mono (Sub.at_ (k := 0) rfl)) ((H249.rd w0).mono (Sub.at_ (k := 1) rfl)) (subc (Sub.at_ (k := 3) rfl) (subc (Sub.at_ (k := 8) rfl) subn)) (Mem.one hm302) (bifT hr303 hp))).mono fun e w2 h => ⟨h.1, Mem.un h.2⟩) hm302 ?_
  intro w304 hm305
  refine s_cval (p := (!(!r300))) (v := (.bool (!r303))) (won_f (j := 4) (t := 49) (q := (!r300)) rfl rfl rfl rfl rfl) rfl rfl (fun hp => (x_not rfl (ev (t := 52) rfl (Eq.trans (b := cv (!(!r300)) (.bool r303)) rfl (on_c hp))))) ?_
  refine s_val (v := (.bool ((!r300) || (!r303)))) (won rfl) rfl rfl (x_pick_or rfl (ev (t := 49) rfl rfl) rfl (fun hq => ev rfl (Eq.trans (b := cv (!(!r300)) (.bool (!r303))) rfl (on_c (not_i hq))))) ?_
  refine s_val (v := (.bool ((!r300) || (!r303)))) (won rfl) rfl rfl (x_move rfl (ev (t := 54) rfl rfl)) ?_
  refine s_cval (p := (!((!r300) || (!r303)))) (v := (.int .i64 r269.2.2)) (won_f (j := 10) (t := 55) (q := ((!r300) || (!r303))) rfl rfl rfl rfl rfl) rfl rfl (fun hp => (x_move rfl (ev (t := 14) rfl rfl))) ?_
  refine s_cval (p := (!((!r300) || (!r303)))) (v := (.int .i64 r238.2.2)) (won_f (j := 10) (t := 55) (q := ((!r300) || (!r303))) rfl rfl rfl rfl rfl) rfl rfl (fun hp => (x_move rfl (ev (t := 10) rfl rfl))) ?_
  refine s_cval (p := (!((!r300) || (!r303)))) (v := (.bool (!decide (r269.2.2 = r238.2.2)))) (won_f (j := 10) (t := 55) (q := ((!r300) || (!r303))) rfl rfl rfl rfl rfl) rfl rfl (fun hp => (x_neq rfl (ev (t := 56) rfl (Eq.trans (b := cv (!((!r300) || (!r303))) (.int .i64 r269.2.2)) rfl (on_c hp))) (ev (t := 57) rfl (Eq.trans (b := cv (!((!r300) || (!r303))) (.int .i64 r238.2.2)) rfl (on_c hp))))) ?_
  refine s_val (v := (.bool (((!r300) || (!r303)) || (!decide (r269.2.2 = r238.2.2))))) (won rfl) rfl rfl (x_pick_or rfl (ev (t := 55) rfl rfl) rfl (fun hq => ev rfl (Eq.trans (b := cv (!((!r300) || (!r303))) (.bool (!decide (r269.2.2 = r238.2.2)))) rfl (on_c (not_i hq))))) ?_
  refine wpList_nil ?_
  refine nx ?_
  rcases Bool.eq_false_or_eq_true ((((!r300) || (!r303)) || (!decide (r269.2.2 = r238.2.2)))) with hb306 | hb306
  ·
   replace he := bifT he hb306
   refine c_true rfl (p := (((!r300) || (!r303)) || (!decide (r269.2.2 = r238.2.2)))) rfl rfl hb306 ?_
   refine wp_seq ?_
   refine wp_region_lit ?_
   refine s_val (v := (.bool false)) (won rfl) rfl rfl (x_assign rfl rfl) ?_
   refine wpList_nil ?_
   have hm307 : Mem w0 w304 (cat [hF]) := Mem.pick [9] rfl hm305
   refine nx ?_
   refine wp_ret ?_
   refine xr ?_
   obtain rfl := Option.some.inj he
   refine r_ret (v := (.bool false)) (rv_one rfl (RVs.tmp (v := (.bool false)) rfl rfl RVs.nil)) rfl ?_
   exact ⟨rfl, Mem.pick [0] rfl hm307⟩
  ·
   replace he := bifF he hb306
   refine c_false rfl (p := (((!r300) || (!r303)) || (!decide (r269.2.2 = r238.2.2)))) rfl rfl hb306 ?_
   refine wp_skip ?_
   refine nx ?_
   refine wp_seq ?_
   refine wp_seq ?_
   obtain ⟨r321, hr321, he⟩ := bindE he
   obtain ⟨r328, hr328, he⟩ := bindE he
   refine wp_region_lit ?_
   refine s_val (v := v264) (won rfl) rfl rfl (x_move rfl (ev (t := 11) rfl rfl)) ?_
   refine s_val (v := v2x0) (won rfl) rfl rfl (x_move rfl (ev (t := 2) rfl rfl)) ?_
   refine s_call (won rfl) rfl rfl (x_call rfl rfl cl_50 (map_lit (map_cons (ev (t := 61) rfl rfl) map_nil))) (laws_toRingActS_ok F (hR := (cat [hR])) (hF := cat [sg g286 65 (0, 0) [] [(.int .i64 r269.1.Size), (.bool r269.1.Up), v271, v275, (.int .i64 r269.1.Lost), (.int .i64 r269.1.Pending), (.int .i64 r269.1.Every), (.int .i64 r269.1.Signals)] [], h273, h277, h281, h266, sg g255 65 (0, 0) [] [(.int .i64 r238.1.Size), (.bool r238.1.Up), v240, v244, (.int .i64 r238.1.Lost), (.int .i64 r238.1.Pending), (.int .i64 r238.1.Every), (.int .i64 r238.1.Signals)] [], h242, h246, h250, hF]) a2 (H2x0.mono (Sub.at_ (k := 0) rfl)) (subc (Sub.trans hs (Sub.at_ (k := 9) rfl)) subn) (Mem.one hm305) hr321) ?_
   rintro e w326 ⟨v323, h325, rfl, H324, hm327⟩
   refine ⟨_, rfl, ?_⟩
   replace hm327 : Mem w0 w326 (cat [h325, sg g286 65 (0, 0) [] [(.int .i64 r269.1.Size), (.bool r269.1.Up), v271, v275, (.int .i64 r269.1.Lost), (.int .i64 r269.1.Pending), (.int .i64 r269.1.Every), (.int .i64 r269.1.Signals)] [], h273, h277, h281, h266, sg g255 65 (0, 0) [] [(.int .i64 r238.1.Size), (.bool r238.1.Up), v240, v244, (.int .i64 r238.1.Lost), (.int .i64 r238.1.Pending), (.int .i64 r238.1.Every), (.int .i64 r238.1.Signals)] [], h242, h246, h250, hF]) := Mem.ung [h325] [sg g286 65 (0, 0) [] [(.int .i64 r269.1.Size), (.bool r269.1.Up), v271, v275, (.int .i64 r269.1.Lost), (.int .i64 r269.1.Pending), (.int .i64 r269.1.Every), (.int .i64 r269.1.Signals)] [], h273, h277, h281, h266, sg g255 65 (0, 0) [] [(.int .i64 r238.1.Size), (.bool r238.1.Up), v240, v244, (.int .i64 r238.1.Lost), (.int .i64 r238.1.Pending), (.int .i64 r238.1.Every), (.int .i64 r238.1.Signals)] [], h242, h246, h250, hF] hm327
   refine s_call (won rfl) rfl rfl (x_call rfl rfl cl_52 (map_lit (map_cons (ev (t := 60) rfl rfl) (map_cons (ev (t := 62) rfl rfl) map_nil)))) (laws_eqRingActS_ok F (hR := (cat [h266, h325])) (hF := cat [h325, sg g286 65 (0, 0) [] [(.int .i64 r269.1.Size), (.bool r269.1.Up), v271, v275, (.int .i64 r269.1.Lost), (.int .i64 r269.1.Pending), (.int .i64 r269.1.Every), (.int .i64 r269.1.Signals)] [], h273, h277, h281, h266, sg g255 65 (0, 0) [] [(.int .i64 r238.1.Size), (.bool r238.1.Up), v240, v244, (.int .i64 r238.1.Lost), (.int .i64 r238.1.Pending), (.int .i64 r238.1.Every), (.int .i64 r238.1.Signals)] [], h242, h246, h250, hF]) r262 r321 ((H265.rd w0).mono (Sub.at_ (k := 0) rfl)) ((H324.rd w0).mono (Sub.at_ (k := 1) rfl)) (subc (Sub.at_ (k := 5) rfl) (subc (Sub.at_ (k := 0) rfl) subn)) (Mem.one hm327) hr328) ?_
   rintro e w329 ⟨rfl, hm330⟩
   refine ⟨_, rfl, ?_⟩
   replace hm330 : Mem w0 w329 (cat [h325, sg g286 65 (0, 0) [] [(.int .i64 r269.1.Size), (.bool r269.1.Up), v271, v275, (.int .i64 r269.1.Lost), (.int .i64 r269.1.Pending), (.int .i64 r269.1.Every), (.int .i64 r269.1.Signals)] [], h273, h277, h281, h266, sg g255 65 (0, 0) [] [(.int .i64 r238.1.Size), (.bool r238.1.Up), v240, v244, (.int .i64 r238.1.Lost), (.int .i64 r238.1.Pending), (.int .i64 r238.1.Every), (.int .i64 r238.1.Signals)] [], h242, h246, h250, hF]) := Mem.un hm330
   refine s_val (v := (.bool (!r328))) (won rfl) rfl rfl (x_not rfl (ev (t := 63) rfl rfl)) ?_
   refine wpList_nil ?_
   have hm331 : Mem w0 w329 (cat [sg g286 65 (0, 0) [] [(.int .i64 r269.1.Size), (.bool r269.1.Up), v271, v275, (.int .i64 r269.1.Lost), (.int .i64 r269.1.Pending), (.int .i64 r269.1.Every), (.int .i64 r269.1.Signals)] [], h273, h277, h281, h266, sg g255 65 (0, 0) [] [(.int .i64 r238.1.Size), (.bool r238.1.Up), v240, v244, (.int .i64 r238.1.Lost), (.int .i64 r238.1.Pending), (.int .i64 r238.1.Every), (.int .i64 r238.1.Signals)] [], h242, h246, h250, hF]) := Mem.pick [1, 2, 3, 4, 5, 6, 7, 8, 9, 10] rfl hm330
   refine nx ?_
   rcases Bool.eq_false_or_eq_true ((!r328)) with hb332 | hb332
   ·
    replace he := bifT he hb332
    refine c_true rfl (p := (!r328)) rfl rfl hb332 ?_
    refine wp_seq ?_
    refine wp_region_lit ?_
    refine s_val (v := (.bool false)) (won rfl) rfl rfl (x_assign rfl rfl) ?_
    refine wpList_nil ?_
    have hm333 : Mem w0 w329 (cat [hF]) := Mem.pick [9] rfl hm331
    refine nx ?_
    refine wp_ret ?_
    refine xr ?_
    obtain rfl := Option.some.inj he
    refine r_ret (v := (.bool false)) (rv_one rfl (RVs.tmp (v := (.bool false)) rfl rfl RVs.nil)) rfl ?_
    exact ⟨rfl, Mem.pick [0] rfl hm333⟩
   ·
    replace he := bifF he hb332
    refine c_false rfl (p := (!r328)) rfl rfl hb332 ?_
    refine wp_skip ?_
    refine nx ?_
    refine wp_seq ?_
    refine wp_region_lit ?_
    refine s_val (v := (.int .i64 1)) (won rfl) rfl rfl (x_assign rfl rfl) ?_
    refine wpList_nil ?_
    refine nx ?_
    refine wp_seq ?_
    obtain ⟨r334, hr334, he⟩ := bindE he
    refine wp_region_lit ?_
    refine s_val (v := v264) (won rfl) rfl rfl (x_move rfl (ev (t := 11) rfl rfl)) ?_
    refine s_val (v := (.int .i64 1)) (won rfl) rfl rfl (x_move rfl (ev (t := 15) rfl rfl)) ?_
    refine s_call (won rfl) rfl rfl (x_call rfl rfl cl_53 (map_lit (map_cons (ev (t := 65) rfl rfl) (map_cons (ev (t := 66) rfl rfl) map_nil)))) (laws_markRingActS_ok F (hR := (cat [])) (hF := cat [sg g286 65 (0, 0) [] [(.int .i64 r269.1.Size), (.bool r269.1.Up), v271, v275, (.int .i64 r269.1.Lost), (.int .i64 r269.1.Pending), (.int .i64 r269.1.Every), (.int .i64 r269.1.Signals)] [], h273, h277, h281, sg g255 65 (0, 0) [] [(.int .i64 r238.1.Size), (.bool r238.1.Up), v240, v244, (.int .i64 r238.1.Lost), (.int .i64 r238.1.Pending), (.int .i64 r238.1.Every), (.int .i64 r238.1.Signals)] [], h242, h246, h250, hF]) r262 1 H265 (Mem.grp [h266] [sg g286 65 (0, 0) [] [(.int .i64 r269.1.Size), (.bool r269.1.Up), v271, v275, (.int .i64 r269.1.Lost), (.int .i64 r269.1.Pending), (.int .i64 r269.1.Every), (.int .i64 r269.1.Signals)] [], h273, h277, h281, sg g255 65 (0, 0) [] [(.int .i64 r238.1.Size), (.bool r238.1.Up), v240, v244, (.int .i64 r238.1.Lost), (.int .i64 r238.1.Pending), (.int .i64 r238.1.Every), (.int .i64 r238.1.Signals)] [], h242, h246, h250, hF] (Mem.pick [4, 0, 1, 2, 3, 5, 6, 7, 8, 9] rfl hm331)) hr334) ?_
    rintro e w337 ⟨h335, rfl, H336, hm338⟩
    refine ⟨_, rfl, ?_⟩
    replace hm338 : Mem w0 w337 (cat [h335, sg g286 65 (0, 0) [] [(.int .i64 r269.1.Size), (.bool r269.1.Up), v271, v275, (.int .i64 r269.1.Lost), (.int .i64 r269.1.Pending), (.int .i64 r269.1.Every), (.int .i64 r269.1.Signals)] [], h273, h277, h281, sg g255 65 (0, 0) [] [(.int .i64 r238.1.Size), (.bool r238.1.Up), v240, v244, (.int .i64 r238.1.Lost), (.int .i64 r238.1.Pending), (.int .i64 r238.1.Every), (.int .i64 r238.1.Signals)] [], h242, h246, h250, hF]) := Mem.ung [h335] [sg g286 65 (0, 0) [] [(.int .i64 r269.1.Size), (.bool r269.1.Up), v271, v275, (.int .i64 r269.1.Lost), (.int .i64 r269.1.Pending), (.int .i64 r269.1.Every), (.int .i64 r269.1.Signals)] [], h273, h277, h281, sg g255 65 (0, 0) [] [(.int .i64 r238.1.Size), (.bool r238.1.Up), v240, v244, (.int .i64 r238.1.Lost), (.int .i64 r238.1.Pending), (.int .i64 r238.1.Every), (.int .i64 r238.1.Signals)] [], h242, h246, h250, hF] hm338
    refine s_val (v := (.int .i64 r334.1)) (won rfl) rfl rfl (x_assign rfl (ev (t := 67) rfl rfl)) ?_
    refine wpList_nil ?_
    have hm339 : Mem w0 w337 (cat [sg g286 65 (0, 0) [] [(.int .i64 r269.1.Size), (.bool r269.1.Up), v271, v275, (.int .i64 r269.1.Lost), (.int .i64 r269.1.Pending), (.int .i64 r269.1.Every), (.int .i64 r269.1.Signals)] [], h273, h277, h281, sg g255 65 (0, 0) [] [(.int .i64 r238.1.Size), (.bool r238.1.Up), v240, v244, (.int .i64 r238.1.Lost), (.int .i64 r238.1.Pending), (.int .i64 r238.1.Every), (.int .i64 r238.1.Signals)] [], h242, h246, h250, hF]) := Mem.pick [1, 2, 3, 4, 5, 6, 7, 8, 9] rfl hm338
    refine nx ?_
    refine wp_seq ?_
    refine wp_seq ?_
    obtain ⟨r348, hr348, he⟩ := bindE he
    obtain ⟨r351, hr351, he⟩ := bindE he
    refine wp_region_lit ?_
    refine s_val (v := (.int .i64 r334.1)) (won rfl) rfl rfl (x_move rfl (ev (t := 15) rfl rfl)) ?_
    refine s_val (v := (.bool (decide (r334.1 < 0)))) (won rfl) rfl rfl (x_lss rfl (ev (t := 68) rfl rfl) rfl) ?_
    refine s_val (v := (.bool (decide (r334.1 < 0)))) (won rfl) rfl rfl (x_move rfl (ev (t := 69) rfl rfl)) ?_
    refine s_cval (p := (!(decide (r334.1 < 0)))) (v := (.agg #[(.int .i64 r269.1.Size), (.bool r269.1.Up), v271, v275, (.int .i64 r269.1.Lost), (.int .i64 r269.1.Pending), (.int .i64 r269.1.Every), (.int .i64 r269.1.Signals)])) (won_f (j := 2) (t := 70) (q := (decide (r334.1 < 0))) rfl rfl rfl rfl rfl) rfl rfl (fun hp => (x_loadN (vs := [(.int .i64 r269.1.Size), (.bool r269.1.Up), v271, v275, (.int .i64 r269.1.Lost), (.int .i64 r269.1.Pending), (.int .i64 r269.1.Every), (.int .i64 r269.1.Signals)]) rfl tyN_65 (ev (t := 12) rfl rfl) (seg_cells (o' := 0) (j := 0) hm339 (k := 0) rfl rfl rfl))) ?_
    refine s_cval (p := (!(decide (r334.1 < 0)))) (v := (.agg #[(.int .i64 r238.1.Size), (.bool r238.1.Up), v240, v244, (.int .i64 r238.1.Lost), (.int .i64 r238.1.Pending), (.int .i64 r238.1.Every), (.int .i64 r238.1.Signals)])) (won_f (j := 2) (t := 70) (q := (decide (r334.1 < 0))) rfl rfl rfl rfl rfl) rfl rfl (fun hp => (x_loadN (vs := [(.int .i64 r238.1.Size), (.bool r238.1.Up), v240, v244, (.int .i64 r238.1.Lost), (.int .i64 r238.1.Pending), (.int .i64 r238.1.Every), (.int .i64 r238.1.Signals)]) rfl tyN_65 (ev (t := 8) rfl rfl) (seg_cells (o' := 0) (j := 0) hm339 (k := 4) rfl rfl rfl))) ?_
    refine s_ccall (p := (!(decide (r334.1 < 0)))) (v := (.bool r348)) (J := fun w' => Mem w0 w' (cat [sg g286 65 (0, 0) [] [(.int .i64 r269.1.Size), (.bool r269.1.Up), v271, v275, (.int .i64 r269.1.Lost), (.int .i64 r269.1.Pending), (.int .i64 r269.1.Every), (.int .i64 r269.1.Signals)] [], h273, h277, h281, sg g255 65 (0, 0) [] [(.int .i64 r238.1.Size), (.bool r238.1.Up), v240, v244, (.int .i64 r238.1.Lost), (.int .i64 r238.1.Pending), (.int .i64 r238.1.Every), (.int .i64 r238.1.Signals)] [], h242, h246, h250, hF])) (won_f (j := 2) (t := 70) (q := (decide (r334.1 < 0))) rfl rfl rfl rfl rfl) rfl rfl (fun hp => (x_call rfl rfl cl_43 (map_lit (map_cons (ev (t := 71) rfl (Eq.trans (b := cv (!(decide (r334.1 < 0))) (.agg #[(.int .i64 r269.1.Size), (.bool r269.1.Up), v271, v275, (.int .i64 r269.1.Lost), (.int .i64 r269.1.Pending), (.int .i64 r269.1.Every), (.int .i64 r269.1.Signals)])) rfl (on_c hp))) (map_cons (ev (t := 72) rfl (Eq.trans (b := cv (!(decide (r334.1 < 0))) (.agg #[(.int .i64 r238.1.Size), (.bool r238.1.Up), v240, v244, (.int .i64 r238.1.Lost), (.int .i64 r238.1.Pending), (.int .i64 r238.1.Every), (.int .i64 r238.1.Signals)])) rfl (on_c hp))) map_nil))))) (fun hp => ((laws_eqRing_ok F (hR := (cat [h273, h277, h242, h246])) (hF := cat [sg g286 65 (0, 0) [] [(.int .i64 r269.1.Size), (.bool r269.1.Up), v271, v275, (.int .i64 r269.1.Lost), (.int .i64 r269.1.Pending), (.int .i64 r269.1.Every), (.int .i64 r269.1.Signals)] [], h273, h277, h281, sg g255 65 (0, 0) [] [(.int .i64 r238.1.Size), (.bool r238.1.Up), v240, v244, (.int .i64 r238.1.Lost), (.int .i64 r238.1.Pending), (.int .i64 r238.1.Every), (.int .i64 r238.1.Signals)] [], h242, h246, h250, hF]) r269.1 r238.1 ((H272.rd w0).mono (Sub.at_ (k := 0) rfl)) ((H276.rd w0).mono (Sub.at_ (k := 1) rfl)) ((H241.rd w0).mono (Sub.at_ (k := 2) rfl)) ((H245.rd w0).mono (Sub.at_ (k := 3) rfl)) (subc (Sub.at_ (k := 1) rfl) (subc (Sub.at_ (k := 2) rfl) (subc (Sub.at_ (k := 5) rfl) (subc (Sub.at_ (k := 6) rfl) subn)))) (Mem.one hm339) (bifT hr348 hp))).mono fun e w2 h => ⟨h.1, Mem.un h.2⟩) hm339 ?_
    intro w349 hm350
    refine s_cval (p := (!(decide (r334.1 < 0)))) (v := (.bool (!r348))) (won_f (j := 2) (t := 70) (q := (decide (r334.1 < 0))) rfl rfl rfl rfl rfl) rfl rfl (fun hp => (x_not rfl (ev (t := 73) rfl (Eq.trans (b := cv (!(decide (r334.1 < 0))) (.bool r348)) rfl (on_c hp))))) ?_
    refine s_val (v := (.bool ((decide (r334.1 < 0)) || (!r348)))) (won rfl) rfl rfl (x_pick_or rfl (ev (t := 70) rfl rfl) rfl (fun hq => ev rfl (Eq.trans (b := cv (!(decide (r334.1 < 0))) (.bool (!r348))) rfl (on_c (not_i hq))))) ?_
    refine s_val (v := (.bool ((decide (r334.1 < 0)) || (!r348)))) (won rfl) rfl rfl (x_move rfl (ev (t := 75) rfl rfl)) ?_
    refine s_cval (p := (!((decide (r334.1 < 0)) || (!r348)))) (v := v279) (won_f (j := 8) (t := 76) (q := ((decide (r334.1 < 0)) || (!r348))) rfl rfl rfl rfl rfl) rfl rfl (fun hp => (x_move rfl (ev (t := 13) rfl rfl))) ?_
    refine s_cval (p := (!((decide (r334.1 < 0)) || (!r348)))) (v := v248) (won_f (j := 8) (t := 76) (q := ((decide (r334.1 < 0)) || (!r348))) rfl rfl rfl rfl rfl) rfl rfl (fun hp => (x_move rfl (ev (t := 9) rfl rfl))) ?_
    refine s_ccall (p := (!((decide (r334.1 < 0)) || (!r348)))) (v := (.bool r351)) (J := fun w' => Mem w0 w' (cat [sg g286 65 (0, 0) [] [(.int .i64 r269.1.Size), (.bool r269.1.Up), v271, v275, (.int .i64 r269.1.Lost), (.int .i64 r269.1.Pending), (.int .i64 r269.1.Every), (.int .i64 r269.1.Signals)] [], h273, h277, h281, sg g255 65 (0, 0) [] [(.int .i64 r238.1.Size), (.bool r238.1.Up), v240, v244, (.int .i64 r238.1.Lost), (.int .i64 r238.1.Pending), (.int .i64 r238.1.Every), (.int .i64 r238.1.Signals)] [], h242, h246, h250, hF])) (won_f (j := 8) (t := 76) (q := ((decide (r334.1 < 0)) || (!r348))) rfl rfl rfl rfl rfl) rfl rfl (fun hp => (x_call rfl rfl cl_51 (map_lit (map_cons (ev (t := 77) rfl (Eq.trans (b := cv (!((decide (r334.1 < 0)) || (!r348))) v279) rfl (on_c hp))) (map_cons (ev (t := 78) rfl (Eq.trans (b := cv (!((decide (r334.1 < 0)) || (!r348))) v248) rfl (on_c hp))) map_nil))))) (fun hp => ((laws_eqRingReplyS_ok F (hR := (cat [h281, h250])) (hF := cat [sg g286 65 (0, 0) [] [(.int .i64 r269.1.Size), (.bool r269.1.Up), v271, v275, (.int .i64 r269.1.Lost), (.int .i64 r269.1.Pending), (.int .i64 r269.1.Every), (.int .i64 r269.1.Signals)] [], h273, h277, h281, sg g255 65 (0, 0) [] [(.int .i64 r238.1.Size), (.bool r238.1.Up), v240, v244, (.int .i64 r238.1.Lost), (.int .i64 r238.1.Pending), (.int .i64 r238.1.Every), (.int .i64 r238.1.Signals)] [], h242, h246, h250, hF]) r269.2.1 r238.2.1 ((H280.rd w0).mono (Sub.at_ (k := 0) rfl)) ((H249.rd w0).mono (Sub.at_ (k := 1) rfl)) (subc (Sub.at_ (k := 3) rfl) (subc (Sub.at_ (k := 7) rfl) subn)) (Mem.one hm350) (bifT hr351 hp))).mono fun e w2 h => ⟨h.1, Mem.un h.2⟩) hm350 ?_
    intro w352 hm353
    refine s_cval (p := (!((decide (r334.1 < 0)) || (!r348)))) (v := (.bool (!r351))) (won_f (j := 8) (t := 76) (q := ((decide (r334.1 < 0)) || (!r348))) rfl rfl rfl rfl rfl) rfl rfl (fun hp => (x_not rfl (ev (t := 79) rfl (Eq.trans (b := cv (!((decide (r334.1 < 0)) || (!r348))) (.bool r351)) rfl (on_c hp))))) ?_
    refine s_val (v := (.bool (((decide (r334.1 < 0)) || (!r348)) || (!r351)))) (won rfl) rfl rfl (x_pick_or rfl (ev (t := 76) rfl rfl) rfl (fun hq => ev rfl (Eq.trans (b := cv (!((decide (r334.1 < 0)) || (!r348))) (.bool (!r351))) rfl (on_c (not_i hq))))) ?_
    refine s_val (v := (.bool (((decide (r334.1 < 0)) || (!r348)) || (!r351)))) (won rfl) rfl rfl (x_move rfl (ev (t := 81) rfl rfl)) ?_
    refine s_cval (p := (!(((decide (r334.1 < 0)) || (!r348)) || (!r351)))) (v := (.int .i64 r269.2.2)) (won_f (j := 14) (t := 82) (q := (((decide (r334.1 < 0)) || (!r348)) || (!r351))) rfl rfl rfl rfl rfl) rfl rfl (fun hp => (x_move rfl (ev (t := 14) rfl rfl))) ?_
    refine s_cval (p := (!(((decide (r334.1 < 0)) || (!r348)) || (!r351)))) (v := (.int .i64 r238.2.2)) (won_f (j := 14) (t := 82) (q := (((decide (r334.1 < 0)) || (!r348)) || (!r351))) rfl rfl rfl rfl rfl) rfl rfl (fun hp => (x_move rfl (ev (t := 10) rfl rfl))) ?_
    refine s_cval (p := (!(((decide (r334.1 < 0)) || (!r348)) || (!r351)))) (v := (.bool (!decide (r269.2.2 = r238.2.2)))) (won_f (j := 14) (t := 82) (q := (((decide (r334.1 < 0)) || (!r348)) || (!r351))) rfl rfl rfl rfl rfl) rfl rfl (fun hp => (x_neq rfl (ev (t := 83) rfl (Eq.trans (b := cv (!(((decide (r334.1 < 0)) || (!r348)) || (!r351))) (.int .i64 r269.2.2)) rfl (on_c hp))) (ev (t := 84) rfl (Eq.trans (b := cv (!(((decide (r334.1 < 0)) || (!r348)) || (!r351))) (.int .i64 r238.2.2)) rfl (on_c hp))))) ?_
    refine s_val (v := (.bool ((((decide (r334.1 < 0)) || (!r348)) || (!r351)) || (!decide (r269.2.2 = r238.2.2))))) (won rfl) rfl rfl (x_pick_or rfl (ev (t := 82) rfl rfl) rfl (fun hq => ev rfl (Eq.trans (b := cv (!(((decide (r334.1 < 0)) || (!r348)) || (!r351))) (.bool (!decide (r269.2.2 = r238.2.2)))) rfl (on_c (not_i hq))))) ?_
    refine wpList_nil ?_
    refine nx ?_
    rcases Bool.eq_false_or_eq_true (((((decide (r334.1 < 0)) || (!r348)) || (!r351)) || (!decide (r269.2.2 = r238.2.2)))) with hb354 | hb354
    ·
     replace he := bifT he hb354
     refine c_true rfl (p := ((((decide (r334.1 < 0)) || (!r348)) || (!r351)) || (!decide (r269.2.2 = r238.2.2)))) rfl rfl hb354 ?_
     refine wp_seq ?_
     refine wp_region_lit ?_
     refine s_val (v := (.bool false)) (won rfl) rfl rfl (x_assign rfl rfl) ?_
     refine wpList_nil ?_
     have hm355 : Mem w0 w352 (cat [hF]) := Mem.pick [8] rfl hm353
     refine nx ?_
     refine wp_ret ?_
     refine xr ?_
     obtain rfl := Option.some.inj he
     refine r_ret (v := (.bool false)) (rv_one rfl (RVs.tmp (v := (.bool false)) rfl rfl RVs.nil)) rfl ?_
     exact ⟨rfl, Mem.pick [0] rfl hm355⟩
    ·
     replace he := bifF he hb354
     refine c_false rfl (p := ((((decide (r334.1 < 0)) || (!r348)) || (!r351)) || (!decide (r269.2.2 = r238.2.2)))) rfl rfl hb354 ?_
     refine wp_skip ?_
     refine nx ?_
     refine wp_seq ?_
     refine wp_region_lit ?_
     refine s_val (v := (.int .i64 1)) (won rfl) rfl rfl (x_assign rfl rfl) ?_
     refine wpList_nil ?_
     refine nx ?_
     refine wp_seq ?_
     obtain ⟨r356, hr356, he⟩ := bindE he
     refine wp_region_lit ?_
     refine s_val (v := (.agg #[(.int .i64 r269.1.Size), (.bool r269.1.Up), v271, v275, (.int .i64 r269.1.Lost), (.int .i64 r269.1.Pending), (.int .i64 r269.1.Every), (.int .i64 r269.1.Signals)])) (won rfl) rfl rfl (x_loadN (vs := [(.int .i64 r269.1.Size), (.bool r269.1.Up), v271, v275, (.int .i64 r269.1.Lost), (.int .i64 r269.1.Pending), (.int .i64 r269.1.Every), (.int .i64 r269.1.Signals)]) rfl tyN_65 (ev (t := 12) rfl rfl) (seg_cells (o' := 0) (j := 0) hm353 (k := 0) rfl rfl rfl)) ?_
     refine s_val (v := (.int .i64 1)) (won rfl) rfl rfl (x_move rfl (ev (t := 16) rfl rfl)) ?_
     refine s_call (won rfl) rfl rfl (x_call rfl rfl cl_45 (map_lit (map_cons (ev (t := 87) rfl rfl) (map_cons (ev (t := 88) rfl rfl) map_nil)))) (laws_markRing_ok F (hR := (cat [])) (hF := cat [sg g286 65 (0, 0) [] [(.int .i64 r269.1.Size), (.bool r269.1.Up), v271, v275, (.int .i64 r269.1.Lost), (.int .i64 r269.1.Pending), (.int .i64 r269.1.Every), (.int .i64 r269.1.Signals)] [], h281, sg g255 65 (0, 0) [] [(.int .i64 r238.1.Size), (.bool r238.1.Up), v240, v244, (.int .i64 r238.1.Lost), (.int .i64 r238.1.Pending), (.int .i64 r238.1.Every), (.int .i64 r238.1.Signals)] [], h242, h246, h250, hF]) r269.1 1 H272 H276 (Mem.grp [h273, h277] [sg g286 65 (0, 0) [] [(.int .i64 r269.1.Size), (.bool r269.1.Up), v271, v275, (.int .i64 r269.1.Lost), (.int .i64 r269.1.Pending), (.int .i64 r269.1.Every), (.int .i64 r269.1.Signals)] [], h281, sg g255 65 (0, 0) [] [(.int .i64 r238.1.Size), (.bool r238.1.Up), v240, v244, (.int .i64 r238.1.Lost), (.int .i64 r238.1.Pending), (.int .i64 r238.1.Every), (.int .i64 r238.1.Signals)] [], h242, h246, h250, hF] (Mem.pick [1, 2, 0, 3, 4, 5, 6, 7, 8] rfl hm353)) hr356) ?_
     rintro e w361 ⟨h357, h359, rfl, H358, H360, hm362⟩
     refine ⟨_, rfl, ?_⟩
     replace hm362 : Mem w0 w361 (cat [h357, h359, sg g286 65 (0, 0) [] [(.int .i64 r269.1.Size), (.bool r269.1.Up), v271, v275, (.int .i64 r269.1.Lost), (.int .i64 r269.1.Pending), (.int .i64 r269.1.Every), (.int .i64 r269.1.Signals)] [], h281, sg g255 65 (0, 0) [] [(.int .i64 r238.1.Size), (.bool r238.1.Up), v240, v244, (.int .i64 r238.1.Lost), (.int .i64 r238.1.Pending), (.int .i64 r238.1.Every), (.int .i64 r238.1.Signals)] [], h242, h246, h250, hF]) := Mem.ung [h357, h359] [sg g286 65 (0, 0) [] [(.int .i64 r269.1.Size), (.bool r269.1.Up), v271, v275, (.int .i64 r269.1.Lost), (.int .i64 r269.1.Pending), (.int .i64 r269.1.Every), (.int .i64 r269.1.Signals)] [], h281, sg g255 65 (0, 0) [] [(.int .i64 r238.1.Size), (.bool r238.1.Up), v240, v244, (.int .i64 r238.1.Lost), (.int .i64 r238.1.Pending), (.int .i64 r238.1.Every), (.int .i64 r238.1.Signals)] [], h242, h246, h250, hF] hm362
     refine s_val (v := (.int .i64 r356.1)) (won rfl) rfl rfl (x_assign rfl (ev (t := 89) rfl rfl)) ?_
     refine wpList_nil ?_
     refine nx ?_
     refine wp_seq ?_
     obtain ⟨r363, hr363, he⟩ := bindE he
     refine wp_region_lit ?_
     refine s_val (v := v279) (won rfl) rfl rfl (x_move rfl (ev (t := 13) rfl rfl)) ?_
     refine s_val (v := (.int .i64 r356.1)) (won rfl) rfl rfl (x_move rfl (ev (t := 16) rfl rfl)) ?_
     refine s_call (won rfl) rfl rfl (x_call rfl rfl cl_54 (map_lit (map_cons (ev (t := 90) rfl rfl) (map_cons (ev (t := 91) rfl rfl) map_nil)))) (laws_markRingReplyS_ok F (hR := (cat [])) (hF := cat [h357, h359, sg g286 65 (0, 0) [] [(.int .i64 r269.1.Size), (.bool r269.1.Up), v271, v275, (.int .i64 r269.1.Lost), (.int .i64 r269.1.Pending), (.int .i64 r269.1.Every), (.int .i64 r269.1.Signals)] [], sg g255 65 (0, 0) [] [(.int .i64 r238.1.Size), (.bool r238.1.Up), v240, v244, (.int .i64 r238.1.Lost), (.int .i64 r238.1.Pending), (.int .i64 r238.1.Every), (.int .i64 r238.1.Signals)] [], h242, h246, h250, hF]) r269.2.1 r356.1 H280 (Mem.grp [h281] [h357, h359, sg g286 65 (0, 0) [] [(.int .i64 r269.1.Size), (.bool r269.1.Up), v271, v275, (.int .i64 r269.1.Lost), (.int .i64 r269.1.Pending), (.int .i64 r269.1.Every), (.int .i64 r269.1.Signals)] [], sg g255 65 (0, 0) [] [(.int .i64 r238.1.Size), (.bool r238.1.Up), v240, v244, (.int .i64 r238.1.Lost), (.int .i64 r238.1.Pending), (.int .i64 r238.1.Every), (.int .i64 r238.1.Signals)] [], h242, h246, h250, hF] (Mem.pick [3, 0, 1, 2, 4, 5, 6, 7, 8] rfl hm362)) hr363) ?_
     rintro e w366 ⟨h364, rfl, H365, hm367⟩
     refine ⟨_, rfl, ?_⟩
     replace hm367 : Mem w0 w366 (cat [h364, h357, h359, sg g286 65 (0, 0) [] [(.int .i64 r269.1.Size), (.bool r269.1.Up), v271, v275, (.int .i64 r269.1.Lost), (.int .i64 r269.1.Pending), (.int .i64 r269.1.Every), (.int .i64 r269.1.Signals)] [], sg g255 65 (0, 0) [] [(.int .i64 r238.1.Size), (.bool r238.1.Up), v240, v244, (.int .i64 r238.1.Lost), (.int .i64 r238.1.Pending), (.int .i64 r238.1.Every), (.int .i64 r238.1.Signals)] [], h242, h246, h250, hF]) := Mem.ung [h364] [h357, h359, sg g286 65 (0, 0) [] [(.int .i64 r269.1.Size), (.bool r269.1.Up), v271, v275, (.int .i64 r269.1.Lost), (.int .i64 r269.1.Pending), (.int .i64 r269.1.Every), (.int .i64 r269.1.Signals)] [], sg g255 65 (0, 0) [] [(.int .i64 r238.1.Size), (.bool r238.1.Up), v240, v244, (.int .i64 r238.1.Lost), (.int .i64 r238.1.Pending), (.int .i64 r238.1.Every), (.int .i64 r238.1.Signals)] [], h242, h246, h250, hF] hm367
     refine s_val (v := (.int .i64 r363.1)) (won rfl) rfl rfl (x_assign rfl (ev (t := 92) rfl rfl)) ?_
     refine wpList_nil ?_
     refine nx ?_
     refine wp_seq ?_
     refine wp_region_lit ?_
     refine s_val (v := (.int .i64 1)) (won rfl) rfl rfl (x_assign rfl rfl) ?_
     refine wpList_nil ?_
     refine nx ?_
     refine wp_seq ?_
     obtain ⟨r368, hr368, he⟩ := bindE he
     refine wp_region_lit ?_
     refine s_val (v := (.agg #[(.int .i64 r269.1.Size), (.bool r269.1.Up), v271, v275, (.int .i64 r269.1.Lost), (.int .i64 r269.1.Pending), (.int .i64 r269.1.Every), (.int .i64 r269.1.Signals)])) (won rfl) rfl rfl (x_loadN (vs := [(.int .i64 r269.1.Size), (.bool r269.1.Up), v271, v275, (.int .i64 r269.1.Lost), (.int .i64 r269.1.Pending), (.int .i64 r269.1.Every), (.int .i64 r269.1.Signals)]) rfl tyN_65 (ev (t := 12) rfl rfl) (seg_cells (o' := 0) (j := 0) hm367 (k := 3) rfl rfl rfl)) ?_
     refine s_val (v := (.int .i64 1)) (won rfl) rfl rfl (x_move rfl (ev (t := 17) rfl rfl)) ?_
     refine s_call (won rfl) rfl rfl (x_call rfl rfl cl_47 (map_lit (map_cons (ev (t := 93) rfl rfl) (map_cons (ev (t := 94) rfl rfl) map_nil)))) (laws_heldRing_ok F (hR := (cat [h357, h359])) (hF := cat [h364, h357, h359, sg g286 65 (0, 0) [] [(.int .i64 r269.1.Size), (.bool r269.1.Up), v271, v275, (.int .i64 r269.1.Lost), (.int .i64 r269.1.Pending), (.int .i64 r269.1.Every), (.int .i64 r269.1.Signals)] [], sg g255 65 (0, 0) [] [(.int .i64 r238.1.Size), (.bool r238.1.Up), v240, v244, (.int .i64 r238.1.Lost), (.int .i64 r238.1.Pending), (.int .i64 r238.1.Every), (.int .i64 r238.1.Signals)] [], h242, h246, h250, hF]) (impl_Ring.mk r269.1.Size r269.1.Up r356.2.1 r356.2.2 r269.1.Lost r269.1.Pending r269.1.Every r269.1.Signals) 1 ((H358.rd w0).mono (Sub.at_ (k := 0) rfl)) ((H360.rd w0).mono (Sub.at_ (k := 1) rfl)) (subc (Sub.at_ (k := 1) rfl) (subc (Sub.at_ (k := 2) rfl) subn)) (Mem.one hm367) hr368) ?_
     rintro e w369 ⟨rfl, hm370⟩
     refine ⟨_, rfl, ?_⟩
     replace hm370 : Mem w0 w369 (cat [h364, h357, h359, sg g286 65 (0, 0) [] [(.int .i64 r269.1.Size), (.bool r269.1.Up), v271, v275, (.int .i64 r269.1.Lost), (.int .i64 r269.1.Pending), (.int .i64 r269.1.Every), (.int .i64 r269.1.Signals)] [], sg g255 65 (0, 0) [] [(.int .i64 r238.1.Size), (.bool r238.1.Up), v240, v244, (.int .i64 r238.1.Lost), (.int .i64 r238.1.Pending), (.int .i64 r238.1.Every), (.int .i64 r238.1.Signals)] [], h242, h246, h250, hF]) := Mem.un hm370
     refine s_val (v := (.int .i64 r368)) (won rfl) rfl rfl (x_assign rfl (ev (t := 95) rfl rfl)) ?_
     refine wpList_nil ?_
     refine nx ?_
     refine wp_seq ?_
     refine wp_seq ?_
     refine wp_region_lit ?_
     refine s_val (v := (.int .i64 r368)) (won rfl) rfl rfl (x_move rfl (ev (t := 17) rfl rfl)) ?_
     refine s_val (v := (.bool (decide (r368 < 0)))) (won rfl) rfl rfl (x_lss rfl (ev (t := 96) rfl rfl) rfl) ?_
     refine wpList_nil ?_
     refine nx ?_
     rcases Bool.eq_false_or_eq_true ((decide (r368 < 0))) with hb373 | hb373
     ·
      replace he := bifT he hb373
      refine c_true rfl (p := (decide (r368 < 0))) rfl rfl hb373 ?_
      refine wp_seq ?_
      refine wp_region_lit ?_
      refine s_val (v := (.bool false)) (won rfl) rfl rfl (x_assign rfl rfl) ?_
      refine wpList_nil ?_
      have hm374 : Mem w0 w369 (cat [hF]) := Mem.pick [8] rfl hm370
      refine nx ?_
      refine wp_ret ?_
      refine xr ?_
      obtain rfl := Option.some.inj he
      refine r_ret (v := (.bool false)) (rv_one rfl (RVs.tmp (v := (.bool false)) rfl rfl RVs.nil)) rfl ?_
      exact ⟨rfl, Mem.pick [0] rfl hm374⟩
     ·
      replace he := bifF he hb373
      refine c_false rfl (p := (decide (r368 < 0))) rfl rfl hb373 ?_
      refine wp_skip ?_
      refine nx ?_
      refine wp_seq ?_
      obtain ⟨r375, hr375, he⟩ := bindE he
      refine wp_region_lit ?_
      refine s_val (v := v279) (won rfl) rfl rfl (x_move rfl (ev (t := 13) rfl rfl)) ?_
      refine s_val (v := (.int .i64 r368)) (won rfl) rfl rfl (x_move rfl (ev (t := 17) rfl rfl)) ?_
      refine s_call (won rfl) rfl rfl (x_call rfl rfl cl_55 (map_lit (map_cons (ev (t := 98) rfl rfl) (map_cons (ev (t := 99) rfl rfl) map_nil)))) (laws_heldRingReplyS_ok F (hR := (cat [h364])) (hF := cat [h364, h357, h359, sg g286 65 (0, 0) [] [(.int .i64 r269.1.Size), (.bool r269.1.Up), v271, v275, (.int .i64 r269.1.Lost), (.int .i64 r269.1.Pending), (.int .i64 r269.1.Every), (.int .i64 r269.1.Signals)] [], sg g255 65 (0, 0) [] [(.int .i64 r238.1.Size), (.bool r238.1.Up), v240, v244, (.int .i64 r238.1.Lost), (.int .i64 r238.1.Pending), (.int .i64 r238.1.Every), (.int .i64 r238.1.Signals)] [], h242, h246, h250, hF]) r363.2 r368 ((H365.rd w0).mono (Sub.at_ (k := 0) rfl)) (subc (Sub.at_ (k := 0) rfl) subn) (Mem.one hm370) hr375) ?_
      rintro e w376 ⟨rfl, hm377⟩
      refine ⟨_, rfl, ?_⟩
      replace hm377 : Mem w0 w376 (cat [h364, h357, h359, sg g286 65 (0, 0) [] [(.int .i64 r269.1.Size), (.bool r269.1.Up), v271, v275, (.int .i64 r269.1.Lost), (.int .i64 r269.1.Pending), (.int .i64 r269.1.Every), (.int .i64 r269.1.Signals)] [], sg g255 65 (0, 0) [] [(.int .i64 r238.1.Size), (.bool r238.1.Up), v240, v244, (.int .i64 r238.1.Lost), (.int .i64 r238.1.Pending), (.int .i64 r238.1.Every), (.int .i64 r238.1.Signals)] [], h242, h246, h250, hF]) := Mem.un hm377
      refine s_val (v := (.int .i64 r375)) (won rfl) rfl rfl (x_assign rfl (ev (t := 100) rfl rfl)) ?_
      refine wpList_nil ?_
      refine nx ?_
      refine wp_seq ?_
      refine wp_seq ?_
      refine wp_region_lit ?_
      refine s_val (v := (.int .i64 r375)) (won rfl) rfl rfl (x_move rfl (ev (t := 17) rfl rfl)) ?_
      refine s_val (v := (.bool (decide (r375 < 0)))) (won rfl) rfl rfl (x_lss rfl (ev (t := 101) rfl rfl) rfl) ?_
      refine wpList_nil ?_
      refine nx ?_
      rcases Bool.eq_false_or_eq_true ((decide (r375 < 0))) with hb380 | hb380
      ·
       replace he := bifT he hb380
       refine c_true rfl (p := (decide (r375 < 0))) rfl rfl hb380 ?_
       refine wp_seq ?_
       refine wp_region_lit ?_
       refine s_val (v := (.bool false)) (won rfl) rfl rfl (x_assign rfl rfl) ?_
       refine wpList_nil ?_
       have hm381 : Mem w0 w376 (cat [hF]) := Mem.pick [8] rfl hm377
       refine nx ?_
       refine wp_ret ?_
       refine xr ?_
       obtain rfl := Option.some.inj he
       refine r_ret (v := (.bool false)) (rv_one rfl (RVs.tmp (v := (.bool false)) rfl rfl RVs.nil)) rfl ?_
       exact ⟨rfl, Mem.pick [0] rfl hm381⟩
      ·
       replace he := bifF he hb380
       refine c_false rfl (p := (decide (r375 < 0))) rfl rfl hb380 ?_
       refine wp_skip ?_
       refine nx ?_
       refine wp_seq ?_
       refine wp_seq ?_
       refine wp_region_lit ?_
       refine s_val (v := (.int .i64 r375)) (won rfl) rfl rfl (x_move rfl (ev (t := 17) rfl rfl)) ?_
       refine s_val (v := (.int .i64 r363.1)) (won rfl) rfl rfl (x_move rfl (ev (t := 16) rfl rfl)) ?_
       refine s_val (v := (.bool (!decide (r375 = r363.1)))) (won rfl) rfl rfl (x_neq rfl (ev (t := 103) rfl rfl) (ev (t := 104) rfl rfl)) ?_
       refine wpList_nil ?_
       refine nx ?_
       rcases Bool.eq_false_or_eq_true ((!decide (r375 = r363.1))) with hb384 | hb384
       ·
        replace he := bifT he hb384
        refine c_true rfl (p := (!decide (r375 = r363.1))) rfl rfl hb384 ?_
        refine wp_seq ?_
        refine wp_region_lit ?_
        refine s_val (v := (.bool false)) (won rfl) rfl rfl (x_assign rfl rfl) ?_
        refine wpList_nil ?_
        have hm385 : Mem w0 w376 (cat [hF]) := Mem.pick [8] rfl hm377
        refine nx ?_
        refine wp_ret ?_
        refine xr ?_
        obtain rfl := Option.some.inj he
        refine r_ret (v := (.bool false)) (rv_one rfl (RVs.tmp (v := (.bool false)) rfl rfl RVs.nil)) rfl ?_
        exact ⟨rfl, Mem.pick [0] rfl hm385⟩
       ·
        replace he := bifF he hb384
        refine c_false rfl (p := (!decide (r375 = r363.1))) rfl rfl hb384 ?_
        refine wp_skip ?_
        refine nx ?_
        refine wp_seq ?_
        obtain ⟨r386, hr386, he⟩ := bindE he
        obtain ⟨r393, hr393, he⟩ := bindE he
        refine wp_region_lit ?_
        refine s_val (v := (.int .i64 a0)) (won rfl) rfl rfl (x_move rfl (ev (t := 0) rfl rfl)) ?_
        refine s_val (v := (.int .i64 a1)) (won rfl) rfl rfl (x_move rfl (ev (t := 1) rfl rfl)) ?_
        refine s_val (v := v2x0) (won rfl) rfl rfl (x_move rfl (ev (t := 2) rfl rfl)) ?_
        refine s_call (won rfl) rfl rfl (x_call rfl rfl cl_50 (map_lit (map_cons (ev (t := 109) rfl rfl) map_nil))) (laws_toRingActS_ok F (hR := (cat [hR])) (hF := cat [h364, h357, h359, sg g286 65 (0, 0) [] [(.int .i64 r269.1.Size), (.bool r269.1.Up), v271, v275, (.int .i64 r269.1.Lost), (.int .i64 r269.1.Pending), (.int .i64 r269.1.Every), (.int .i64 r269.1.Signals)] [], sg g255 65 (0, 0) [] [(.int .i64 r238.1.Size), (.bool r238.1.Up), v240, v244, (.int .i64 r238.1.Lost), (.int .i64 r238.1.Pending), (.int .i64 r238.1.Every), (.int .i64 r238.1.Signals)] [], h242, h246, h250, hF]) a2 (H2x0.mono (Sub.at_ (k := 0) rfl)) (subc (Sub.trans hs (Sub.at_ (k := 8) rfl)) subn) (Mem.one hm377) hr386) ?_
        rintro e w391 ⟨v388, h390, rfl, H389, hm392⟩
        refine ⟨_, rfl, ?_⟩
        replace hm392 : Mem w0 w391 (cat [h390, h364, h357, h359, sg g286 65 (0, 0) [] [(.int .i64 r269.1.Size), (.bool r269.1.Up), v271, v275, (.int .i64 r269.1.Lost), (.int .i64 r269.1.Pending), (.int .i64 r269.1.Every), (.int .i64 r269.1.Signals)] [], sg g255 65 (0, 0) [] [(.int .i64 r238.1.Size), (.bool r238.1.Up), v240, v244, (.int .i64 r238.1.Lost), (.int .i64 r238.1.Pending), (.int .i64 r238.1.Every), (.int .i64 r238.1.Signals)] [], h242, h246, h250, hF]) := Mem.ung [h390] [h364, h357, h359, sg g286 65 (0, 0) [] [(.int .i64 r269.1.Size), (.bool r269.1.Up), v271, v275, (.int .i64 r269.1.Lost), (.int .i64 r269.1.Pending), (.int .i64 r269.1.Every), (.int .i64 r269.1.Signals)] [], sg g255 65 (0, 0) [] [(.int .i64 r238.1.Size), (.bool r238.1.Up), v240, v244, (.int .i64 r238.1.Lost), (.int .i64 r238.1.Pending), (.int .i64 r238.1.Every), (.int .i64 r238.1.Signals)] [], h242, h246, h250, hF] hm392
        refine s_call (won rfl) rfl rfl (x_call rfl rfl cl_34 (map_lit (map_cons (ev (t := 107) rfl rfl) (map_cons (ev (t := 108) rfl rfl) (map_cons (ev (t := 110) rfl rfl) map_nil))))) (impl_RingRun_ok F (hR := (cat [h390])) (hF := cat [h390, h364, h357, h359, sg g286 65 (0, 0) [] [(.int .i64 r269.1.Size), (.bool r269.1.Up), v271, v275, (.int .i64 r269.1.Lost), (.int .i64 r269.1.Pending), (.int .i64 r269.1.Every), (.int .i64 r269.1.Signals)] [], sg g255 65 (0, 0) [] [(.int .i64 r238.1.Size), (.bool r238.1.Up), v240, v244, (.int .i64 r238.1.Lost), (.int .i64 r238.1.Pending), (.int .i64 r238.1.Every), (.int .i64 r238.1.Signals)] [], h242, h246, h250, hF]) a0 a1 r386 ((H389.rd w0).mono (Sub.at_ (k := 0) rfl)) (subc (Sub.at_ (k := 0) rfl) subn) (Mem.one hm392) hr393) ?_
        rintro e w406 ⟨v395, h397, v399, h401, v403, h405, rfl, H396, H400, H404, hm407⟩
        refine ⟨_, rfl, ?_⟩
        replace hm407 : Mem w0 w406 (cat [h397, h401, h405, h390, h364, h357, h359, sg g286 65 (0, 0) [] [(.int .i64 r269.1.Size), (.bool r269.1.Up), v271, v275, (.int .i64 r269.1.Lost), (.int .i64 r269.1.Pending), (.int .i64 r269.1.Every), (.int .i64 r269.1.Signals)] [], sg g255 65 (0, 0) [] [(.int .i64 r238.1.Size), (.bool r238.1.Up), v240, v244, (.int .i64 r238.1.Lost), (.int .i64 r238.1.Pending), (.int .i64 r238.1.Every), (.int .i64 r238.1.Signals)] [], h242, h246, h250, hF]) := Mem.ung [h397, h401, h405] [h390, h364, h357, h359, sg g286 65 (0, 0) [] [(.int .i64 r269.1.Size), (.bool r269.1.Up), v271, v275, (.int .i64 r269.1.Lost), (.int .i64 r269.1.Pending), (.int .i64 r269.1.Every), (.int .i64 r269.1.Signals)] [], sg g255 65 (0, 0) [] [(.int .i64 r238.1.Size), (.bool r238.1.Up), v240, v244, (.int .i64 r238.1.Lost), (.int .i64 r238.1.Pending), (.int .i64 r238.1.Every), (.int .i64 r238.1.Signals)] [], h242, h246, h250, hF] hm407
        refine s_val (v := (.tuple #[(.agg #[(.int .i64 r393.1.Size), (.bool r393.1.Up), v395, v399, (.int .i64 r393.1.Lost), (.int .i64 r393.1.Pending), (.int .i64 r393.1.Every), (.int .i64 r393.1.Signals)]), v403, (.int .i64 r393.2.2)])) (won rfl) rfl rfl (x_move rfl (ev (t := 111) rfl rfl)) ?_
        refine s_val (v := (.agg #[(.int .i64 r393.1.Size), (.bool r393.1.Up), v395, v399, (.int .i64 r393.1.Lost), (.int .i64 r393.1.Pending), (.int .i64 r393.1.Every), (.int .i64 r393.1.Signals)])) (won rfl) rfl rfl (x_extract rfl (ev (t := 106) rfl rfl) rfl) ?_
        refine s_val (v := v403) (won rfl) rfl rfl (x_extract rfl (ev (t := 106) rfl rfl) rfl) ?_
        refine s_val (v := (.int .i64 r393.2.2)) (won rfl) rfl rfl (x_extract rfl (ev (t := 106) rfl rfl) rfl) ?_
        refine s_exv (won rfl) rfl rfl (e_alloc (vs := [(.int .i64 0), (.bool false), (.slice none 0 0), (.slice none 0 0), (.int .i64 0), (.int .i64 0), (.int .i64 0), (.int .i64 0)]) rfl zt_65 rfl hm407) ?_
        rintro g410 w411 hm412
        refine s_exs (won rfl) rfl (e_store (vs := [(.int .i64 r393.1.Size), (.bool r393.1.Up), v395, v399, (.int .i64 r393.1.Lost), (.int .i64 r393.1.Pending), (.int .i64 r393.1.Every), (.int .i64 r393.1.Signals)]) (o' := 0) (j := 0) rfl sz_65 (ev (t := 18) rfl rfl) (ev (t := 112) rfl rfl) rfl (one_cons rfl (one_cons rfl (one_cons (IsSl.one (H396).sl) (one_cons (IsSl.one (H400).sl) (one_cons rfl (one_cons rfl (one_cons rfl (one_cons rfl one_nil)))))))) hm412 (k := 0) rfl rfl rfl) ?_
        intro w414 hm415
        replace hm415 : Mem w0 w414 (cat [sg g410 65 (0, 0) [] [(.int .i64 r393.1.Size), (.bool r393.1.Up), v395, v399, (.int .i64 r393.1.Lost), (.int .i64 r393.1.Pending), (.int .i64 r393.1.Every), (.int .i64 r393.1.Signals)] [], h397, h401, h405, h390, h364, h357, h359, sg g286 65 (0, 0) [] [(.int .i64 r269.1.Size), (.bool r269.1.Up), v271, v275, (.int .i64 r269.1.Lost), (.int .i64 r269.1.Pending), (.int .i64 r269.1.Every), (.int .i64 r269.1.Signals)] [], sg g255 65 (0, 0) [] [(.int .i64 r238.1.Size), (.bool r238.1.Up), v240, v244, (.int .i64 r238.1.Lost), (.int .i64 r238.1.Pending), (.int .i64 r238.1.Every), (.int .i64 r238.1.Signals)] [], h242, h246, h250, hF]) := hm415
        refine s_val (v := v403) (won rfl) rfl rfl (x_assign rfl (ev (t := 113) rfl rfl)) ?_
        refine s_val (v := (.int .i64 r393.2.2)) (won rfl) rfl rfl (x_assign rfl (ev (t := 114) rfl rfl)) ?_
        refine wpList_nil ?_
        have hm416 : Mem w0 w414 (cat [sg g410 65 (0, 0) [] [(.int .i64 r393.1.Size), (.bool r393.1.Up), v395, v399, (.int .i64 r393.1.Lost), (.int .i64 r393.1.Pending), (.int .i64 r393.1.Every), (.int .i64 r393.1.Signals)] [], h397, h401, h405, h364, h357, h359, sg g286 65 (0, 0) [] [(.int .i64 r269.1.Size), (.bool r269.1.Up), v271, v275, (.int .i64 r269.1.Lost), (.int .i64 r269.1.Pending), (.int .i64 r269.1.Every), (.int .i64 r269.1.Signals)] [], sg g255 65 (0, 0) [] [(.int .i64 r238.1.Size), (.bool r238.1.Up), v240, v244, (.int .i64 r238.1.Lost), (.int .i64 r238.1.Pending), (.int .i64 r238.1.Every), (.int .i64 r238.1.Signals)] [], h242, h246, h250, hF]) := Mem.pick [0, 1, 2, 3, 5, 6, 7, 8, 9, 10, 11, 12, 13] rfl hm415
        refine nx ?_
        refine wp_seq ?_
        refine wp_seq ?_
        obtain ⟨r426, hr426, he⟩ := bindE he
        obtain ⟨r429, hr429, he⟩ := bindE he
        refine wp_region_lit ?_
        refine s_val (v := (.agg #[(.int .i64 r393.1.Size), (.bool r393.1.Up), v395, v399, (.int .i64 r393.1.Lost), (.int .i64 r393.1.Pending), (.int .i64 r393.1.Every), (.int .i64 r393.1.Signals)])) (won rfl) rfl rfl (x_loadN (vs := [(.int .i64 r393.1.Size), (.bool r393.1.Up), v395, v399, (.int .i64 r393.1.Lost), (.int .i64 r393.1.Pending), (.int .i64 r393.1.Every), (.int .i64 r393.1.Signals)]) rfl tyN_65 (ev (t := 18) rfl rfl) (seg_cells (o' := 0) (j := 0) hm416 (k := 0) rfl rfl rfl)) ?_
        refine s_val (v := (.agg #[(.int .i64 r238.1.Size), (.bool r238.1.Up), v240, v244, (.int .i64 r238.1.Lost), (.int .i64 r238.1.Pending), (.int .i64 r238.1.Every), (.int .i64 r238.1.Signals)])) (won rfl) rfl rfl (x_loadN (vs := [(.int .i64 r238.1.Size), (.bool r238.1.Up), v240, v244, (.int .i64 r238.1.Lost), (.int .i64 r238.1.Pending), (.int .i64 r238.1.Every), (.int .i64 r238.1.Signals)]) rfl tyN_65 (ev (t := 8) rfl rfl) (seg_cells (o' := 0) (j := 0) hm416 (k := 8) rfl rfl rfl)) ?_
        refine s_call (won rfl) rfl rfl (x_call rfl rfl cl_43 (map_lit (map_cons (ev (t := 115) rfl rfl) (map_cons (ev (t := 116) rfl rfl) map_nil)))) (laws_eqRing_ok F (hR := (cat [h397, h401, h242, h246])) (hF := cat [sg g410 65 (0, 0) [] [(.int .i64 r393.1.Size), (.bool r393.1.Up), v395, v399, (.int .i64 r393.1.Lost), (.int .i64 r393.1.Pending), (.int .i64 r393.1.Every), (.int .i64 r393.1.Signals)] [], h397, h401, h405, h364, h357, h359, sg g286 65 (0, 0) [] [(.int .i64 r269.1.Size), (.bool r269.1.Up), v271, v275, (.int .i64 r269.1.Lost), (.int .i64 r269.1.Pending), (.int .i64 r269.1.Every), (.int .i64 r269.1.Signals)] [], sg g255 65 (0, 0) [] [(.int .i64 r238.1.Size), (.bool r238.1.Up), v240, v244, (.int .i64 r238.1.Lost), (.int .i64 r238.1.Pending), (.int .i64 r238.1.Every), (.int .i64 r238.1.Signals)] [], h242, h246, h250, hF]) r393.1 r238.1 ((H396.rd w0).mono (Sub.at_ (k := 0) rfl)) ((H400.rd w0).mono (Sub.at_ (k := 1) rfl)) ((H241.rd w0).mono (Sub.at_ (k := 2) rfl)) ((H245.rd w0).mono (Sub.at_ (k := 3) rfl)) (subc (Sub.at_ (k := 1) rfl) (subc (Sub.at_ (k := 2) rfl) (subc (Sub.at_ (k := 9) rfl) (subc (Sub.at_ (k := 10) rfl) subn)))) (Mem.one hm416) hr426) ?_
        rintro e w427 ⟨rfl, hm428⟩
        refine ⟨_, rfl, ?_⟩
        replace hm428 : Mem w0 w427 (cat [sg g410 65 (0, 0) [] [(.int .i64 r393.1.Size), (.bool r393.1.Up), v395, v399, (.int .i64 r393.1.Lost), (.int .i64 r393.1.Pending), (.int .i64 r393.1.Every), (.int .i64 r393.1.Signals)] [], h397, h401, h405, h364, h357, h359, sg g286 65 (0, 0) [] [(.int .i64 r269.1.Size), (.bool r269.1.Up), v271, v275, (.int .i64 r269.1.Lost), (.int .i64 r269.1.Pending), (.int .i64 r269.1.Every), (.int .i64 r269.1.Signals)] [], sg g255 65 (0, 0) [] [(.int .i64 r238.1.Size), (.bool r238.1.Up), v240, v244, (.int .i64 r238.1.Lost), (.int .i64 r238.1.Pending), (.int .i64 r238.1.Every), (.int .i64 r238.1.Signals)] [], h242, h246, h250, hF]) := Mem.un hm428
        refine s_val (v := (.bool (!r426))) (won rfl) rfl rfl (x_not rfl (ev (t := 117) rfl rfl)) ?_
        refine s_val (v := (.bool (!r426))) (won rfl) rfl rfl (x_move rfl (ev (t := 118) rfl rfl)) ?_
        refine s_cval (p := (!(!r426))) (v := v403) (won_f (j := 4) (t := 119) (q := (!r426)) rfl rfl rfl rfl rfl) rfl rfl (fun hp => (x_move rfl (ev (t := 19) rfl rfl))) ?_
        refine s_cval (p := (!(!r426))) (v := v248) (won_f (j := 4) (t := 119) (q := (!r426)) rfl rfl rfl rfl rfl) rfl rfl (fun hp => (x_move rfl (ev (t := 9) rfl rfl))) ?_
        refine s_ccall (p := (!(!r426))) (v := (.bool r429)) (J := fun w' => Mem w0 w' (cat [sg g410 65 (0, 0) [] [(.int .i64 r393.1.Size), (.bool r393.1.Up), v395, v399, (.int .i64 r393.1.Lost), (.int .i64 r393.1.Pending), (.int .i64 r393.1.Every), (.int .i64 r393.1.Signals)] [], h397, h401, h405, h364, h357, h359, sg g286 65 (0, 0) [] [(.int .i64 r269.1.Size), (.bool r269.1.Up), v271, v275, (.int .i64 r269.1.Lost), (.int .i64 r269.1.Pending), (.int .i64 r269.1.Every), (.int .i64 r269.1.Signals)] [], sg g255 65 (0, 0) [] [(.int .i64 r238.1.Size), (.bool r238.1.Up), v240, v244, (.int .i64 r238.1.Lost), (.int .i64 r238.1.Pending), (.int .i64 r238.1.Every), (.int .i64 r238.1.Signals)] [], h242, h246, h250, hF])) (won_f (j := 4) (t := 119) (q := (!r426)) rfl rfl rfl rfl rfl) rfl rfl (fun hp => (x_call rfl rfl cl_51 (map_lit (map_cons (ev (t := 120) rfl (Eq.trans (b := cv (!(!r426)) v403) rfl (on_c hp))) (map_cons (ev (t := 121) rfl (Eq.trans (b := cv (!(!r426)) v248) rfl (on_c hp))) map_nil))))) (fun hp => ((laws_eqRingReplyS_ok F (hR := (cat [h405, h250])) (hF := cat [sg g410 65 (0, 0) [] [(.int .i64 r393.1.Size), (.bool r393.1.Up), v395, v399, (.int .i64 r393.1.Lost), (.int .i64 r393.1.Pending), (.int .i64 r393.1.Every), (.int .i64 r393.1.Signals)] [], h397, h401, h405, h364, h357, h359, sg g286 65 (0, 0) [] [(.int .i64 r269.1.Size), (.bool r269.1.Up), v271, v275, (.int .i64 r269.1.Lost), (.int .i64 r269.1.Pending), (.int .i64 r269.1.Every), (.int .i64 r269.1.Signals)] [], sg g255 65 (0, 0) [] [(.int .i64 r238.1.Size), (.bool r238.1.Up), v240, v244, (.int .i64 r238.1.Lost), (.int .i64 r238.1.Pending), (.int .i64 r238.1.Every), (.int .i64 r238.1.Signals)] [], h242, h246, h250, hF]) r393.2.1 r238.2.1 ((H404.rd w0).mono (Sub.at_ (k := 0) rfl)) ((H249.rd w0).mono (Sub.at_ (k := 1) rfl)) (subc (Sub.at_ (k := 3) rfl) (subc (Sub.at_ (k := 11) rfl) subn)) (Mem.one hm428) (bifT hr429 hp))).mono fun e w2 h => ⟨h.1, Mem.un h.2⟩) hm428 ?_
        intro w430 hm431
        refine s_cval (p := (!(!r426))) (v := (.bool (!r429))) (won_f (j := 4) (t := 119) (q := (!r426)) rfl rfl rfl rfl rfl) rfl rfl (fun hp => (x_not rfl (ev (t := 122) rfl (Eq.trans (b := cv (!(!r426)) (.bool r429)) rfl (on_c hp))))) ?_
        refine s_val (v := (.bool ((!r426) || (!r429)))) (won rfl) rfl rfl (x_pick_or rfl (ev (t := 119) rfl rfl) rfl (fun hq => ev rfl (Eq.trans (b := cv (!(!r426)) (.bool (!r429))) rfl (on_c (not_i hq))))) ?_
        refine s_val (v := (.bool ((!r426) || (!r429)))) (won rfl) rfl rfl (x_move rfl (ev (t := 124) rfl rfl)) ?_
        refine s_cval (p := (!((!r426) || (!r429)))) (v := (.int .i64 r393.2.2)) (won_f (j := 10) (t := 125) (q := ((!r426) || (!r429))) rfl rfl rfl rfl rfl) rfl rfl (fun hp => (x_move rfl (ev (t := 20) rfl rfl))) ?_
        refine s_cval (p := (!((!r426) || (!r429)))) (v := (.int .i64 r238.2.2)) (won_f (j := 10) (t := 125) (q := ((!r426) || (!r429))) rfl rfl rfl rfl rfl) rfl rfl (fun hp => (x_move rfl (ev (t := 10) rfl rfl))) ?_
        refine s_cval (p := (!((!r426) || (!r429)))) (v := (.bool (!decide (r393.2.2 = r238.2.2)))) (won_f (j := 10) (t := 125) (q := ((!r426) || (!r429))) rfl rfl rfl rfl rfl) rfl rfl (fun hp => (x_neq rfl (ev (t := 126) rfl (Eq.trans (b := cv (!((!r426) || (!r429))) (.int .i64 r393.2.2)) rfl (on_c hp))) (ev (t := 127) rfl (Eq.trans (b := cv (!((!r426) || (!r429))) (.int .i64 r238.2.2)) rfl (on_c hp))))) ?_
        refine s_val (v := (.bool (((!r426) || (!r429)) || (!decide (r393.2.2 = r238.2.2))))) (won rfl) rfl rfl (x_pick_or rfl (ev (t := 125) rfl rfl) rfl (fun hq => ev rfl (Eq.trans (b := cv (!((!r426) || (!r429))) (.bool (!decide (r393.2.2 = r238.2.2)))) rfl (on_c (not_i hq))))) ?_
        refine wpList_nil ?_
        have hm432 : Mem w0 w430 (cat [h364, h357, h359, sg g286 65 (0, 0) [] [(.int .i64 r269.1.Size), (.bool r269.1.Up), v271, v275, (.int .i64 r269.1.Lost), (.int .i64 r269.1.Pending), (.int .i64 r269.1.Every), (.int .i64 r269.1.Signals)] [], hF]) := Mem.pick [4, 5, 6, 7, 12] rfl hm431
        refine nx ?_
        rcases Bool.eq_false_or_eq_true ((((!r426) || (!r429)) || (!decide (r393.2.2 = r238.2.2)))) with hb433 | hb433
        ·
         replace he := bifT he hb433
         refine c_true rfl (p := (((!r426) || (!r429)) || (!decide (r393.2.2 = r238.2.2)))) rfl rfl hb433 ?_
         refine wp_seq ?_
         refine wp_region_lit ?_
         refine s_val (v := (.bool false)) (won rfl) rfl rfl (x_assign rfl rfl) ?_
         refine wpList_nil ?_
         have hm434 : Mem w0 w430 (cat [hF]) := Mem.pick [4] rfl hm432
         refine nx ?_
         refine wp_ret ?_
         refine xr ?_
         obtain rfl := Option.some.inj he
         refine r_ret (v := (.bool false)) (rv_one rfl (RVs.tmp (v := (.bool false)) rfl rfl RVs.nil)) rfl ?_
         exact ⟨rfl, Mem.pick [0] rfl hm434⟩
        ·
         replace he := bifF he hb433
         refine c_false rfl (p := (((!r426) || (!r429)) || (!decide (r393.2.2 = r238.2.2)))) rfl rfl hb433 ?_
         refine wp_skip ?_
         refine nx ?_
         refine wp_seq ?_
         refine wp_region_lit ?_
         refine s_val (v := (.int .i64 1)) (won rfl) rfl rfl (x_assign rfl rfl) ?_
         refine wpList_nil ?_
         refine nx ?_
         refine wp_seq ?_
         obtain ⟨r435, hr435, he⟩ := bindE he
         refine wp_region_lit ?_
         refine s_val (v := (.agg #[(.int .i64 r269.1.Size), (.bool r269.1.Up), v271, v275, (.int .i64 r269.1.Lost), (.int .i64 r269.1.Pending), (.int .i64 r269.1.Every), (.int .i64 r269.1.Signals)])) (won rfl) rfl rfl (x_loadN (vs := [(.int .i64 r269.1.Size), (.bool r269.1.Up), v271, v275, (.int .i64 r269.1.Lost), (.int .i64 r269.1.Pending), (.int .i64 r269.1.Every), (.int .i64 r269.1.Signals)]) rfl tyN_65 (ev (t := 12) rfl rfl) (seg_cells (o' := 0) (j := 0) hm432 (k := 3) rfl rfl rfl)) ?_
         refine s_val (v := (.int .i64 1)) (won rfl) rfl rfl (x_move rfl (ev (t := 17) rfl rfl)) ?_
         refine s_call (won rfl) rfl rfl (x_call rfl rfl cl_47 (map_lit (map_cons (ev (t := 130) rfl rfl) (map_cons (ev (t := 131) rfl rfl) map_nil)))) (laws_heldRing_ok F (hR := (cat [h357, h359])) (hF := cat [h364, h357, h359, sg g286 65 (0, 0) [] [(.int .i64 r269.1.Size), (.bool r269.1.Up), v271, v275, (.int .i64 r269.1.Lost), (.int .i64 r269.1.Pending), (.int .i64 r269.1.Every), (.int .i64 r269.1.Signals)] [], hF]) (impl_Ring.mk r269.1.Size r269.1.Up r356.2.1 r356.2.2 r269.1.Lost r269.1.Pending r269.1.Every r269.1.Signals) 1 ((H358.rd w0).mono (Sub.at_ (k := 0) rfl)) ((H360.rd w0).mono (Sub.at_ (k := 1) rfl)) (subc (Sub.at_ (k := 1) rfl) (subc (Sub.at_ (k := 2) rfl) subn)) (Mem.one hm432) hr435) ?_
         rintro e w436 ⟨rfl, hm437⟩
         refine ⟨_, rfl, ?_⟩
         replace hm437 : Mem w0 w436 (cat [h364, h357, h359, sg g286 65 (0, 0) [] [(.int .i64 r269.1.Size), (.bool r269.1.Up), v271, v275, (.int .i64 r269.1.Lost), (.int .i64 r269.1.Pending), (.int .i64 r269.1.Every), (.int .i64 r269.1.Signals)] [], hF]) := Mem.un hm437
         refine s_val (v := (.int .i64 r435)) (won rfl) rfl rfl (x_assign rfl (ev (t := 132) rfl rfl)) ?_
         refine wpList_nil ?_
         have hm438 : Mem w0 w436 (cat [h364, hF]) := Mem.pick [0, 4] rfl hm437
         refine nx ?_
         refine wp_seq ?_
         refine wp_seq ?_
         refine wp_region_lit ?_
         refine s_val (v := (.int .i64 r435)) (won rfl) rfl rfl (x_move rfl (ev (t := 17) rfl rfl)) ?_
         refine s_val (v := (.bool (decide (r435 < 0)))) (won rfl) rfl rfl (x_lss rfl (ev (t := 133) rfl rfl) rfl) ?_
         refine wpList_nil ?_
         refine nx ?_
         rcases Bool.eq_false_or_eq_true ((decide (r435 < 0))) with hb441 | hb441
         ·
          replace he := bifT he hb441
          refine c_true rfl (p := (decide (r435 < 0))) rfl rfl hb441 ?_
          refine wp_seq ?_
          refine wp_region_lit ?_
          refine s_val (v := (.bool false)) (won rfl) rfl rfl (x_assign rfl rfl) ?_
          refine wpList_nil ?_
          have hm442 : Mem w0 w436 (cat [hF]) := Mem.pick [1] rfl hm438
          refine nx ?_
          refine wp_ret ?_
          refine xr ?_
          obtain rfl := Option.some.inj he
          refine r_ret (v := (.bool false)) (rv_one rfl (RVs.tmp (v := (.bool false)) rfl rfl RVs.nil)) rfl ?_
          exact ⟨rfl, Mem.pick [0] rfl hm442⟩
         ·
          replace he := bifF he hb441
          refine c_false rfl (p := (decide (r435 < 0))) rfl rfl hb441 ?_
          refine wp_skip ?_
          refine nx ?_
          refine wp_seq ?_
          obtain ⟨r443, hr443, he⟩ := bindE he
          refine wp_region_lit ?_
          refine s_val (v := v279) (won rfl) rfl rfl (x_move rfl (ev (t := 13) rfl rfl)) ?_
          refine s_val (v := (.int .i64 r435)) (won rfl) rfl rfl (x_move rfl (ev (t := 17) rfl rfl)) ?_
          refine s_call (won rfl) rfl rfl (x_call rfl rfl cl_55 (map_lit (map_cons (ev (t := 135) rfl rfl) (map_cons (ev (t := 136) rfl rfl) map_nil)))) (laws_heldRingReplyS_ok F (hR := (cat [h364])) (hF := cat [h364, hF]) r363.2 r435 ((H365.rd w0).mono (Sub.at_ (k := 0) rfl)) (subc (Sub.at_ (k := 0) rfl) subn) (Mem.one hm438) hr443) ?_
          rintro e w444 ⟨rfl, hm445⟩
          refine ⟨_, rfl, ?_⟩
          replace hm445 : Mem w0 w444 (cat [h364, hF]) := Mem.un hm445
          refine s_val (v := (.int .i64 r443)) (won rfl) rfl rfl (x_assign rfl (ev (t := 137) rfl rfl)) ?_
          refine wpList_nil ?_
          have hm446 : Mem w0 w444 (cat [hF]) := Mem.pick [1] rfl hm445
          refine nx ?_
          refine wp_seq ?_
          refine wp_seq ?_
          refine wp_region_lit ?_
          refine s_val (v := (.int .i64 r443)) (won rfl) rfl rfl (x_move rfl (ev (t := 17) rfl rfl)) ?_
          refine s_val (v := (.bool (decide (r443 < 0)))) (won rfl) rfl rfl (x_lss rfl (ev (t := 138) rfl rfl) rfl) ?_
          refine wpList_nil ?_
          refine nx ?_
          rcases Bool.eq_false_or_eq_true ((decide (r443 < 0))) with hb448 | hb448
          ·
           replace he := bifT he hb448
           refine c_true rfl (p := (decide (r443 < 0))) rfl rfl hb448 ?_
           refine wp_seq ?_
           refine wp_region_lit ?_
           refine s_val (v := (.bool false)) (won rfl) rfl rfl (x_assign rfl rfl) ?_
           refine wpList_nil ?_
           refine nx ?_
           refine wp_ret ?_
           refine xr ?_
           obtain rfl := Option.some.inj he
           refine r_ret (v := (.bool false)) (rv_one rfl (RVs.tmp (v := (.bool false)) rfl rfl RVs.nil)) rfl ?_
           exact ⟨rfl, Mem.pick [0] rfl hm446⟩
          ·
           replace he := bifF he hb448
           refine c_false rfl (p := (decide (r443 < 0))) rfl rfl hb448 ?_
           refine wp_skip ?_
           refine nx ?_
           refine wp_seq ?_
           refine wp_seq ?_
           refine wp_region_lit ?_
           refine s_val (v := (.int .i64 r443)) (won rfl) rfl rfl (x_move rfl (ev (t := 17) rfl rfl)) ?_
           refine s_val (v := (.int .i64 r363.1)) (won rfl) rfl rfl (x_move rfl (ev (t := 16) rfl rfl)) ?_
           refine s_val (v := (.bool (!decide (r443 = r363.1)))) (won rfl) rfl rfl (x_neq rfl (ev (t := 140) rfl rfl) (ev (t := 141) rfl rfl)) ?_
           refine wpList_nil ?_
           refine nx ?_
           rcases Bool.eq_false_or_eq_true ((!decide (r443 = r363.1))) with hb450 | hb450
           ·
            replace he := bifT he hb450
            refine c_true rfl (p := (!decide (r443 = r363.1))) rfl rfl hb450 ?_
            refine wp_seq ?_
            refine wp_region_lit ?_
            refine s_val (v := (.bool false)) (won rfl) rfl rfl (x_assign rfl rfl) ?_
            refine wpList_nil ?_
            refine nx ?_
            refine wp_ret ?_
            refine xr ?_
            obtain rfl := Option.some.inj he
            refine r_ret (v := (.bool false)) (rv_one rfl (RVs.tmp (v := (.bool false)) rfl rfl RVs.nil)) rfl ?_
            exact ⟨rfl, Mem.pick [0] rfl hm446⟩
           ·
            replace he := bifF he hb450
            refine c_false rfl (p := (!decide (r443 = r363.1))) rfl rfl hb450 ?_
            refine wp_skip ?_
            refine nx ?_
            refine wp_seq ?_
            refine wp_region_lit ?_
            refine s_val (v := (.bool true)) (won rfl) rfl rfl (x_assign rfl rfl) ?_
            refine wpList_nil ?_
            refine nx ?_
            refine wp_ret ?_
            obtain rfl := Option.some.inj he
            refine r_ret (v := (.bool true)) (rv_one rfl (RVs.tmp (v := (.bool true)) rfl rfl RVs.nil)) rfl ?_
            exact ⟨rfl, Mem.pick [0] rfl hm446⟩
end Go.Proofs.Ytpkdolmbhfmjcaa.FnExactRingRun
