/- What functions of the program compute, and their walks: printed. -/
import Derived.Test.YtpkdolmbhfmjcaaFnRingT
set_option linter.unusedVariables false
set_option linter.unusedSimpArgs false
set_option linter.unusedSectionVars false
namespace Go.Proofs.Ytpkdolmbhfmjcaa.FnRing
open Go.RowKit Go.Proofs.Gw
attribute [local irreducible] wpList DG wpQuiet wl
def laws_at (a0 : (List Int)) (a1 : Int) (a2 : Int) : Option (Int) := (bif (decide (a2 ≤ 1)) then (some 0) else (bif (decide ((a0.length : Int) = 0)) then gd (a2 ≠ 0) ((some (Int.tmod (IntKind.wrap .i64 (a1 * 7)) a2))) else gd ((a0.length : Int) ≠ 0) (gd ((0 : Int) ≤ (Int.tmod a1 (a0.length : Int)) ∧ (Int.tmod a1 (a0.length : Int)) < (a0.length : Int)) (gd ((a0.length : Int) ≠ 0) (gd ((0 : Int) ≤ (Int.tmod (IntKind.wrap .i64 (a1 + 1)) (a0.length : Int)) ∧ (Int.tmod (IntKind.wrap .i64 (a1 + 1)) (a0.length : Int)) < (a0.length : Int)) (gd ((a0.length : Int) ≠ 0) (gd (a2 ≠ 0) ((some (Int.tmod (IntKind.wrap .i64 ((IntKind.wrap .i64 ((IntKind.wrap .i64 ((IntKind.wrap .i64 (ix a0 (Int.tmod a1 (a0.length : Int)))) * 31)) + (IntKind.wrap .i64 (ix a0 (Int.tmod (IntKind.wrap .i64 (a1 + 1)) (a0.length : Int)))))) + (IntKind.wrap .i64 (Int.tdiv a1 (a0.length : Int))))) a2))))))))))
set_option maxHeartbeats 400000 in
set_option maxRecDepth 100000 in
theorem laws_at_ok {w0 w : World} {hR hF : Hp} {v0x0 : Value} (a0 : (List Int)) (a1 : Int) (a2 : Int) {r : (Int)} (H0x0 : RdF w0 (FK.int .u8) v0x0 a0 hR) (hs : Sub hR hF) (hm : Mem w0 w (cat [hF])) (he : laws_at a0 a1 a2 = some r) :
    Calls Try.prog 9 #[v0x0, (.int .i64 a1), (.int .i64 a2)] w (fun e w' => e = .returned (.int .i64 r) ∧ Mem w0 w' (cat [hF])) := by
 refine calls_fr (n := 42) Try.func9 rfl rfl rfl ?_
 unfold laws_at at he
 refine wp_seq ?_
 refine wp_region_lit ?_
 refine s_val (v := (.int .i64 0)) (won rfl) rfl rfl (x_assign rfl rfl) ?_
 refine wpList_nil ?_
 refine nx ?_
 refine wp_seq ?_
 refine wp_seq ?_
 refine wp_region_lit ?_
 refine s_val (v := (.int .i64 a2)) (won rfl) rfl rfl (x_move rfl (ev (t := 2) rfl rfl)) ?_
 refine s_val (v := (.bool (decide (a2 ≤ 1)))) (won rfl) rfl rfl (x_leq rfl (ev (t := 7) rfl rfl) rfl) ?_
 refine wpList_nil ?_
 refine nx ?_
 rcases Bool.eq_false_or_eq_true ((decide (a2 ≤ 1))) with hb16 | hb16
 ·
  replace he := bifT he hb16
  refine c_true rfl (p := (decide (a2 ≤ 1))) rfl rfl hb16 ?_
  refine wp_seq ?_
  refine wp_region_lit ?_
  refine s_val (v := (.int .i64 0)) (won rfl) rfl rfl (x_assign rfl rfl) ?_
  refine wpList_nil ?_
  refine nx ?_
  refine wp_ret ?_
  refine xr ?_
  obtain rfl := Option.some.inj he
  refine r_ret (v := (.int .i64 0)) (rv_one rfl (RVs.tmp (v := (.int .i64 0)) rfl rfl RVs.nil)) rfl ?_
  exact ⟨rfl, Mem.pick [0] rfl hm⟩
 ·
  replace he := bifF he hb16
  refine c_false rfl (p := (decide (a2 ≤ 1))) rfl rfl hb16 ?_
  refine wp_skip ?_
  refine nx ?_
  refine wp_seq ?_
  refine wp_seq ?_
  refine wp_region_lit ?_
  refine s_val (v := v0x0) (won rfl) rfl rfl (x_move rfl (ev (t := 0) rfl rfl)) ?_
  refine s_val (v := (.int .i64 (a0.length : Int))) (won rfl) rfl rfl (x_len rfl slt_22 (ev (t := 9) rfl rfl) (H0x0).sl) ?_
  refine s_val (v := (.bool (decide ((a0.length : Int) = 0)))) (won rfl) rfl rfl (x_eql rfl (ev (t := 10) rfl rfl) rfl) ?_
  refine wpList_nil ?_
  refine nx ?_
  rcases Bool.eq_false_or_eq_true ((decide ((a0.length : Int) = 0))) with hb19 | hb19
  ·
   replace he := bifT he hb19
   refine c_true rfl (p := (decide ((a0.length : Int) = 0))) rfl rfl hb19 ?_
   refine wp_seq ?_
   obtain ⟨hg20, he⟩ := gdE he
   refine wp_region_lit ?_
   refine s_val (v := (.int .i64 a1)) (won rfl) rfl rfl (x_move rfl (ev (t := 1) rfl rfl)) ?_
   refine s_val (v := (.int .i64 (IntKind.wrap .i64 (a1 * 7)))) (won rfl) rfl rfl (x_mul rfl (ev (t := 12) rfl rfl) rfl) ?_
   refine s_val (v := (.int .i64 a2)) (won rfl) rfl rfl (x_move rfl (ev (t := 2) rfl rfl)) ?_
   refine s_val (v := (.int .i64 (Int.tmod (IntKind.wrap .i64 (a1 * 7)) a2))) (won rfl) rfl rfl (x_rem rfl (ev (t := 13) rfl rfl) (ev (t := 14) rfl rfl) hg20) ?_
   refine s_val (v := (.int .i64 (Int.tmod (IntKind.wrap .i64 (a1 * 7)) a2))) (won rfl) rfl rfl (x_assign rfl (ev (t := 15) rfl rfl)) ?_
   refine wpList_nil ?_
   refine nx ?_
   refine wp_ret ?_
   refine xr ?_
   obtain rfl := Option.some.inj he
   refine r_ret (v := (.int .i64 (Int.tmod (IntKind.wrap .i64 (a1 * 7)) a2))) (rv_one rfl (RVs.tmp (v := (.int .i64 (Int.tmod (IntKind.wrap .i64 (a1 * 7)) a2))) rfl rfl RVs.nil)) rfl ?_
   exact ⟨rfl, Mem.pick [0] rfl hm⟩
  ·
   replace he := bifF he hb19
   refine c_false rfl (p := (decide ((a0.length : Int) = 0))) rfl rfl hb19 ?_
   refine wp_skip ?_
   refine nx ?_
   refine wp_seq ?_
   obtain ⟨hg21, he⟩ := gdE he
   obtain ⟨hg22, he⟩ := gdE he
   obtain ⟨hg23, he⟩ := gdE he
   obtain ⟨hg24, he⟩ := gdE he
   obtain ⟨hg25, he⟩ := gdE he
   obtain ⟨hg26, he⟩ := gdE he
   refine wp_qregion (cat [hF]) mixed (by kernel_rfl) hm ?_
   refine q_val (v := v0x0) (won rfl) rfl rfl (fun wq hq => (x_move rfl (ev (t := 0) rfl rfl))) ?_
   refine q_val (v := (.int .i64 a1)) (won rfl) rfl rfl (fun wq hq => (x_move rfl (ev (t := 1) rfl rfl))) ?_
   refine q_val (v := v0x0) (won rfl) rfl rfl (fun wq hq => (x_move rfl (ev (t := 0) rfl rfl))) ?_
   refine q_val (v := (.int .i64 (a0.length : Int))) (won rfl) rfl rfl (fun wq hq => (x_len rfl slt_22 (ev (t := 18) rfl rfl) (H0x0).sl)) ?_
   refine q_val (v := (.int .i64 (Int.tmod a1 (a0.length : Int)))) (won rfl) rfl rfl (fun wq hq => (x_rem rfl (ev (t := 17) rfl rfl) (ev (t := 19) rfl rfl) hg21)) ?_
   refine q_val (v := (.pointer (some ((slA v0x0).add (Int.toNat (Int.tmod a1 (a0.length : Int)) * 1))))) (won rfl) rfl rfl (fun wq hq => (x_index (d := (FK.int .u8)) rfl slt_22 (ev (t := 16) rfl rfl) (ev (t := 20) rfl rfl) H0x0 hg22.1 hg22.2)) ?_
   refine q_val (v := (.int .u8 (ix a0 (Int.tmod a1 (a0.length : Int))))) (won rfl) rfl rfl (fun wq hq => (x_load rfl ty1x5 (ev (t := 21) rfl rfl) (RdF.cell0 H0x0 hq (Sub.trans hs (Sub.at_ (k := 0) rfl)) hg22.1 hg22.2 rfl))) ?_
   refine q_val (v := (.int .i64 (IntKind.wrap .i64 (ix a0 (Int.tmod a1 (a0.length : Int)))))) (won rfl) rfl rfl (fun wq hq => (x_conv rfl un_5 un_3 (ev (t := 22) rfl rfl))) ?_
   refine q_val (v := (.int .i64 (IntKind.wrap .i64 ((IntKind.wrap .i64 (ix a0 (Int.tmod a1 (a0.length : Int)))) * 31)))) (won rfl) rfl rfl (fun wq hq => (x_mul rfl (ev (t := 23) rfl rfl) rfl)) ?_
   refine q_val (v := v0x0) (won rfl) rfl rfl (fun wq hq => (x_move rfl (ev (t := 0) rfl rfl))) ?_
   refine q_val (v := (.int .i64 a1)) (won rfl) rfl rfl (fun wq hq => (x_move rfl (ev (t := 1) rfl rfl))) ?_
   refine q_val (v := (.int .i64 (IntKind.wrap .i64 (a1 + 1)))) (won rfl) rfl rfl (fun wq hq => (x_add rfl (ev (t := 26) rfl rfl) rfl)) ?_
   refine q_val (v := v0x0) (won rfl) rfl rfl (fun wq hq => (x_move rfl (ev (t := 0) rfl rfl))) ?_
   refine q_val (v := (.int .i64 (a0.length : Int))) (won rfl) rfl rfl (fun wq hq => (x_len rfl slt_22 (ev (t := 28) rfl rfl) (H0x0).sl)) ?_
   refine q_val (v := (.int .i64 (Int.tmod (IntKind.wrap .i64 (a1 + 1)) (a0.length : Int)))) (won rfl) rfl rfl (fun wq hq => (x_rem rfl (ev (t := 27) rfl rfl) (ev (t := 29) rfl rfl) hg23)) ?_
   refine q_val (v := (.pointer (some ((slA v0x0).add (Int.toNat (Int.tmod (IntKind.wrap .i64 (a1 + 1)) (a0.length : Int)) * 1))))) (won rfl) rfl rfl (fun wq hq => (x_index (d := (FK.int .u8)) rfl slt_22 (ev (t := 25) rfl rfl) (ev (t := 30) rfl rfl) H0x0 hg24.1 hg24.2)) ?_
   refine q_val (v := (.int .u8 (ix a0 (Int.tmod (IntKind.wrap .i64 (a1 + 1)) (a0.length : Int))))) (won rfl) rfl rfl (fun wq hq => (x_load rfl ty1x5 (ev (t := 31) rfl rfl) (RdF.cell0 H0x0 hq (Sub.trans hs (Sub.at_ (k := 0) rfl)) hg24.1 hg24.2 rfl))) ?_
   refine q_val (v := (.int .i64 (IntKind.wrap .i64 (ix a0 (Int.tmod (IntKind.wrap .i64 (a1 + 1)) (a0.length : Int)))))) (won rfl) rfl rfl (fun wq hq => (x_conv rfl un_5 un_3 (ev (t := 32) rfl rfl))) ?_
   refine q_val (v := (.int .i64 (IntKind.wrap .i64 ((IntKind.wrap .i64 ((IntKind.wrap .i64 (ix a0 (Int.tmod a1 (a0.length : Int)))) * 31)) + (IntKind.wrap .i64 (ix a0 (Int.tmod (IntKind.wrap .i64 (a1 + 1)) (a0.length : Int)))))))) (won rfl) rfl rfl (fun wq hq => (x_add rfl (ev (t := 24) rfl rfl) (ev (t := 33) rfl rfl))) ?_
   refine q_val (v := (.int .i64 a1)) (won rfl) rfl rfl (fun wq hq => (x_move rfl (ev (t := 1) rfl rfl))) ?_
   refine q_val (v := v0x0) (won rfl) rfl rfl (fun wq hq => (x_move rfl (ev (t := 0) rfl rfl))) ?_
   refine q_val (v := (.int .i64 (a0.length : Int))) (won rfl) rfl rfl (fun wq hq => (x_len rfl slt_22 (ev (t := 36) rfl rfl) (H0x0).sl)) ?_
   refine q_val (v := (.int .i64 (IntKind.wrap .i64 (Int.tdiv a1 (a0.length : Int))))) (won rfl) rfl rfl (fun wq hq => (x_quo rfl (ev (t := 35) rfl rfl) (ev (t := 37) rfl rfl) hg25)) ?_
   refine q_val (v := (.int .i64 (IntKind.wrap .i64 ((IntKind.wrap .i64 ((IntKind.wrap .i64 ((IntKind.wrap .i64 (ix a0 (Int.tmod a1 (a0.length : Int)))) * 31)) + (IntKind.wrap .i64 (ix a0 (Int.tmod (IntKind.wrap .i64 (a1 + 1)) (a0.length : Int)))))) + (IntKind.wrap .i64 (Int.tdiv a1 (a0.length : Int))))))) (won rfl) rfl rfl (fun wq hq => (x_add rfl (ev (t := 34) rfl rfl) (ev (t := 38) rfl rfl))) ?_
   refine q_val (v := (.int .i64 a2)) (won rfl) rfl rfl (fun wq hq => (x_move rfl (ev (t := 2) rfl rfl))) ?_
   refine q_val (v := (.int .i64 (Int.tmod (IntKind.wrap .i64 ((IntKind.wrap .i64 ((IntKind.wrap .i64 ((IntKind.wrap .i64 (ix a0 (Int.tmod a1 (a0.length : Int)))) * 31)) + (IntKind.wrap .i64 (ix a0 (Int.tmod (IntKind.wrap .i64 (a1 + 1)) (a0.length : Int)))))) + (IntKind.wrap .i64 (Int.tdiv a1 (a0.length : Int))))) a2))) (won rfl) rfl rfl (fun wq hq => (x_rem rfl (ev (t := 39) rfl rfl) (ev (t := 40) rfl rfl) hg26)) ?_
   refine q_val (v := (.int .i64 (Int.tmod (IntKind.wrap .i64 ((IntKind.wrap .i64 ((IntKind.wrap .i64 ((IntKind.wrap .i64 (ix a0 (Int.tmod a1 (a0.length : Int)))) * 31)) + (IntKind.wrap .i64 (ix a0 (Int.tmod (IntKind.wrap .i64 (a1 + 1)) (a0.length : Int)))))) + (IntKind.wrap .i64 (Int.tdiv a1 (a0.length : Int))))) a2))) (won rfl) rfl rfl (fun wq hq => (x_assign rfl (ev (t := 41) rfl rfl))) ?_
   refine wpQuiet_nil ?_
   intro w27 hm28
   refine nx ?_
   refine wp_ret ?_
   obtain rfl := Option.some.inj he
   refine r_ret (v := (.int .i64 (Int.tmod (IntKind.wrap .i64 ((IntKind.wrap .i64 ((IntKind.wrap .i64 ((IntKind.wrap .i64 (ix a0 (Int.tmod a1 (a0.length : Int)))) * 31)) + (IntKind.wrap .i64 (ix a0 (Int.tmod (IntKind.wrap .i64 (a1 + 1)) (a0.length : Int)))))) + (IntKind.wrap .i64 (Int.tdiv a1 (a0.length : Int))))) a2))) (rv_one rfl (RVs.tmp (v := (.int .i64 (Int.tmod (IntKind.wrap .i64 ((IntKind.wrap .i64 ((IntKind.wrap .i64 ((IntKind.wrap .i64 (ix a0 (Int.tmod a1 (a0.length : Int)))) * 31)) + (IntKind.wrap .i64 (ix a0 (Int.tmod (IntKind.wrap .i64 (a1 + 1)) (a0.length : Int)))))) + (IntKind.wrap .i64 (Int.tdiv a1 (a0.length : Int))))) a2))) rfl rfl RVs.nil)) rfl ?_
   exact ⟨rfl, Mem.pick [0] rfl hm28⟩
def spec_l00Source (a0 : (List Int)) : Option (spec_l00Src) := (some (spec_l00Src.mk a0 0 (Int.tmod (a0.length : Int) 1000)))
set_option maxHeartbeats 400000 in
set_option maxRecDepth 100000 in
theorem spec_l00Source_ok {w0 w : World} {hR hF : Hp} {v0x0 : Value} (a0 : (List Int)) {r : (spec_l00Src)} (H0x0 : RdF w0 (FK.int .u8) v0x0 a0 hR) (hs : Sub hR hF) (hm : Mem w0 w (cat [hF])) (he : spec_l00Source a0 = some r) :
    Calls Try.prog 56 #[v0x0] w (fun e w' => ∃ (g'0 : Nat) (v'1 : Value) , e = .returned (.pointer (some ⟨g'0, 0, none⟩)) ∧ RdF w0 (FK.int .u8) v'1 r.code (cat [hR]) ∧ Mem w0 w' (cat [sg g'0 118 (0, 0) [] [v'1, (.int .i64 r.at_), (.int .i64 r.seed)] [], hF])) := by
 refine calls_fr (n := 9) Try.func56 rfl rfl rfl ?_
 unfold spec_l00Source at he
 refine wp_seq ?_
 refine wp_region_lit ?_
 refine s_val (v := (.pointer none)) (won rfl) rfl rfl (x_assign rfl rfl) ?_
 refine wpList_nil ?_
 refine nx ?_
 refine wp_seq ?_
 refine wp_region_lit ?_
 refine s_val (v := v0x0) (won rfl) rfl rfl (x_move rfl (ev (t := 0) rfl rfl)) ?_
 refine s_val (v := v0x0) (won rfl) rfl rfl (x_move rfl (ev (t := 0) rfl rfl)) ?_
 refine s_val (v := (.int .i64 (a0.length : Int))) (won rfl) rfl rfl (x_len rfl slt_22 (ev (t := 4) rfl rfl) (H0x0).sl) ?_
 refine s_val (v := (.int .i64 (Int.tmod (a0.length : Int) 1000))) (won rfl) rfl rfl (x_rem rfl (ev (t := 5) rfl rfl) rfl (by decide)) ?_
 refine s_val (v := (.agg #[v0x0, (.int .i64 0), (.int .i64 (Int.tmod (a0.length : Int) 1000))])) (won rfl) rfl rfl (x_build (cells := [v0x0, (.int .i64 0), (.int .i64 (Int.tmod (a0.length : Int) 1000))]) (zc := [.slice none 0 0, .int .i64 0, .int .i64 0]) (sizes := [(0, 1), (1, 1), (2, 1)]) (ps := [(0, v0x0), (2, (.int .i64 (Int.tmod (a0.length : Int) 1000)))]) rfl zt_118 rfl uf_118 ufz_118 (pmap_lit (pmap_cons (ev (t := 3) rfl rfl) (pmap_cons (ev (t := 6) rfl rfl) pmap_nil))) (fill_cons (cs := [v0x0]) rfl (IsSl.cells (H0x0).sl) rfl (fill_cons (cs := [(.int .i64 (Int.tmod (a0.length : Int) 1000))]) rfl rfl rfl fill_nil))) ?_
 refine s_exv (won rfl) rfl rfl (e_box (vs := [v0x0, (.int .i64 0), (.int .i64 (Int.tmod (a0.length : Int) 1000))]) rfl (ev (t := 7) rfl rfl) rfl hm) ?_
 rintro g7 w8 hm9
 refine s_val (v := (.pointer (some ⟨g7, 0, none⟩))) (won rfl) rfl rfl (x_assign rfl (ev (t := 8) rfl rfl)) ?_
 refine wpList_nil ?_
 refine nx ?_
 refine wp_ret ?_
 obtain rfl := Option.some.inj he
 refine r_ret (v := (.pointer (some ⟨g7, 0, none⟩))) (rv_one rfl (RVs.tmp (v := (.pointer (some ⟨g7, 0, none⟩))) rfl rfl RVs.nil)) rfl ?_
 exact ⟨g7, v0x0, rfl, (H0x0.mono (Sub.at_ (k := 0) rfl)), Mem.pick [0, 1] rfl hm9⟩
def spec_l00Src_size (a0 : spec_l00Src) (a1 : Int) : Option (Int) := (some (iMin (IntKind.wrap .i64 (1 + (IntKind.wrap .i64 (Int.tdiv (a0.code.length : Int) 12)))) a1))
set_option maxHeartbeats 400000 in
set_option maxRecDepth 100000 in
theorem spec_l00Src_size_ok {w0 w : World} {hR hF : Hp} {v0x0 : Value} {g0 T0 o0 : Nat} {fr0 : Nat × Nat} {pre0 post0 : List Value} (a0 : spec_l00Src) (a1 : Int) {r : (Int)} (H0x0 : RdF w0 (FK.int .u8) v0x0 a0.code hR) (hs : Sub hR hF) (hp0 : pre0.length = o0) (hm : Mem w0 w (cat [sg g0 T0 fr0 pre0 [v0x0, (.int .i64 a0.at_), (.int .i64 a0.seed)] post0, hF])) (he : spec_l00Src_size a0 a1 = some r) :
    Calls Try.prog 84 #[(.pointer (some ⟨g0, o0, none⟩)), (.int .i64 a1)] w (fun e w' => e = .returned (.int .i64 r) ∧ Mem w0 w' (cat [sg g0 T0 fr0 pre0 [v0x0, (.int .i64 a0.at_), (.int .i64 a0.seed)] post0, hF])) := by
 refine calls_fr (n := 14) Try.func84 rfl rfl rfl ?_
 unfold spec_l00Src_size at he
 refine wp_seq ?_
 refine wp_region_lit ?_
 refine s_val (v := (.int .i64 0)) (won rfl) rfl rfl (x_assign rfl rfl) ?_
 refine wpList_nil ?_
 refine nx ?_
 refine wp_seq ?_
 refine wp_region_lit ?_
 refine s_val (v := (.pointer (some ⟨g0, o0, none⟩))) (won rfl) rfl rfl (x_move rfl (ev (t := 0) rfl rfl)) ?_
 refine s_val (v := (.pointer (some ⟨g0, o0, none⟩))) (won rfl) rfl rfl (x_nil rfl (ev (t := 5) rfl rfl)) ?_
 refine s_val (v := (.pointer (some ⟨g0, o0, none⟩))) (won rfl) rfl rfl (x_field rfl fa_118x0 (ev (t := 6) rfl rfl)) ?_
 refine s_val (v := v0x0) (won rfl) rfl rfl (x_load rfl ty1x22 (ev (t := 7) rfl rfl) (seg_cell (o' := o0) (j := 0) hm (k := 0) rfl hp0 rfl)) ?_
 refine s_val (v := (.int .i64 (a0.code.length : Int))) (won rfl) rfl rfl (x_len rfl slt_22 (ev (t := 8) rfl rfl) (H0x0).sl) ?_
 refine s_val (v := (.int .i64 (IntKind.wrap .i64 (Int.tdiv (a0.code.length : Int) 12)))) (won rfl) rfl rfl (x_quo rfl (ev (t := 9) rfl rfl) rfl (by decide)) ?_
 refine s_val (v := (.int .i64 (IntKind.wrap .i64 (1 + (IntKind.wrap .i64 (Int.tdiv (a0.code.length : Int) 12)))))) (won rfl) rfl rfl (x_add rfl rfl (ev (t := 10) rfl rfl)) ?_
 refine s_val (v := (.int .i64 a1)) (won rfl) rfl rfl (x_move rfl (ev (t := 1) rfl rfl)) ?_
 refine s_val (v := (.int .i64 (iMin (IntKind.wrap .i64 (1 + (IntKind.wrap .i64 (Int.tdiv (a0.code.length : Int) 12)))) a1))) (won rfl) rfl rfl (x_min rfl (ev (t := 11) rfl rfl) (ev (t := 12) rfl rfl)) ?_
 refine s_val (v := (.int .i64 (iMin (IntKind.wrap .i64 (1 + (IntKind.wrap .i64 (Int.tdiv (a0.code.length : Int) 12)))) a1))) (won rfl) rfl rfl (x_assign rfl (ev (t := 13) rfl rfl)) ?_
 refine wpList_nil ?_
 refine nx ?_
 refine wp_ret ?_
 obtain rfl := Option.some.inj he
 refine r_ret (v := (.int .i64 (iMin (IntKind.wrap .i64 (1 + (IntKind.wrap .i64 (Int.tdiv (a0.code.length : Int) 12)))) a1))) (rv_one rfl (RVs.tmp (v := (.int .i64 (iMin (IntKind.wrap .i64 (1 + (IntKind.wrap .i64 (Int.tdiv (a0.code.length : Int) 12)))) a1))) rfl rfl RVs.nil)) rfl ?_
 exact ⟨rfl, Mem.pick [0, 1] rfl hm⟩
def spec_l00Src_byte (a0 : spec_l00Src) : Option (Int × spec_l00Src) := (bif (decide ((IntKind.wrap .i64 (a0.at_ + 1)) ≤ (a0.code.length : Int))) then gd ((0 : Int) ≤ (IntKind.wrap .i64 ((IntKind.wrap .i64 (a0.at_ + 1)) - 1)) ∧ (IntKind.wrap .i64 ((IntKind.wrap .i64 (a0.at_ + 1)) - 1)) < (a0.code.length : Int)) (gd ((0 : Int) ≤ (IntKind.wrap .i64 ((IntKind.wrap .i64 (a0.at_ + 1)) - 1)) ∧ (IntKind.wrap .i64 ((IntKind.wrap .i64 (a0.at_ + 1)) - 1)) < (a0.code.length : Int)) ((some ((IntKind.wrap .i64 (ix a0.code (IntKind.wrap .i64 ((IntKind.wrap .i64 (a0.at_ + 1)) - 1)))), (spec_l00Src.mk a0.code (IntKind.wrap .i64 (a0.at_ + 1)) (Int.tmod (IntKind.wrap .i64 ((IntKind.wrap .i64 ((IntKind.wrap .i64 (a0.seed * 31)) + (IntKind.wrap .i64 (ix a0.code (IntKind.wrap .i64 ((IntKind.wrap .i64 (a0.at_ + 1)) - 1)))))) + 7)) 2147483648)))))) else (bif (decide ((3000 : Int) < (IntKind.wrap .i64 (a0.at_ + 1)))) then (some (0, (spec_l00Src.mk a0.code (IntKind.wrap .i64 (a0.at_ + 1)) a0.seed))) else (some ((Int.tmod (IntKind.wrap .i64 (Int.tdiv (Int.tmod (IntKind.wrap .i64 ((IntKind.wrap .i64 (a0.seed * 1103515245)) + 12345)) 2147483648) 65536)) 256), (spec_l00Src.mk a0.code (IntKind.wrap .i64 (a0.at_ + 1)) (Int.tmod (IntKind.wrap .i64 ((IntKind.wrap .i64 (a0.seed * 1103515245)) + 12345)) 2147483648))))))
set_option maxHeartbeats 400000 in
set_option maxRecDepth 100000 in
theorem spec_l00Src_byte_ok {w0 w : World} {hR hF : Hp} {v0x0 : Value} {g0 T0 o0 : Nat} {fr0 : Nat × Nat} {pre0 post0 : List Value} (a0 : spec_l00Src) {r : (Int × spec_l00Src)} (H0x0 : RdF w0 (FK.int .u8) v0x0 a0.code hR) (hs : Sub hR hF) (hp0 : pre0.length = o0) (hm : Mem w0 w (cat [sg g0 T0 fr0 pre0 [v0x0, (.int .i64 a0.at_), (.int .i64 a0.seed)] post0, hF])) (he : spec_l00Src_byte a0 = some r) :
    Calls Try.prog 94 #[(.pointer (some ⟨g0, o0, none⟩))] w (fun e w' => e = .returned (.int .i64 r.1) ∧ Mem w0 w' (cat [sg g0 T0 fr0 pre0 [v0x0, (.int .i64 r.2.at_), (.int .i64 r.2.seed)] post0, hF])) := by
 refine calls_fr (n := 76) Try.func94 rfl rfl rfl ?_
 unfold spec_l00Src_byte at he
 refine wp_seq ?_
 refine wp_region_lit ?_
 refine s_val (v := (.int .i64 0)) (won rfl) rfl rfl (x_assign rfl rfl) ?_
 refine wpList_nil ?_
 refine nx ?_
 refine wp_seq ?_
 refine wp_region_lit ?_
 refine s_val (v := (.pointer (some ⟨g0, o0, none⟩))) (won rfl) rfl rfl (x_move rfl (ev (t := 0) rfl rfl)) ?_
 refine s_val (v := (.pointer (some ⟨g0, o0, none⟩))) (won rfl) rfl rfl (x_nil rfl (ev (t := 3) rfl rfl)) ?_
 refine s_val (v := (.pointer (some ⟨g0, o0 + 1, none⟩))) (won rfl) rfl rfl (x_field rfl fa_118x1 (ev (t := 4) rfl rfl)) ?_
 refine s_val (v := (.int .i64 a0.at_)) (won rfl) rfl rfl (x_load rfl ty1x3 (ev (t := 5) rfl rfl) (seg_cell (o' := o0) (j := 1) hm (k := 0) rfl hp0 rfl)) ?_
 refine s_val (v := (.int .i64 (IntKind.wrap .i64 (a0.at_ + 1)))) (won rfl) rfl rfl (x_add rfl (ev (t := 6) rfl rfl) rfl) ?_
 refine s_val (v := (.pointer (some ⟨g0, o0, none⟩))) (won rfl) rfl rfl (x_nil rfl (ev (t := 3) rfl rfl)) ?_
 refine s_val (v := (.pointer (some ⟨g0, o0 + 1, none⟩))) (won rfl) rfl rfl (x_field rfl fa_118x1 (ev (t := 8) rfl rfl)) ?_
 refine s_exs (won rfl) rfl (e_store (vs := [(.int .i64 (IntKind.wrap .i64 (a0.at_ + 1)))]) (o' := o0) (j := 1) rfl sz_3 (ev (t := 9) rfl rfl) (ev (t := 7) rfl rfl) rfl rfl hm (k := 0) rfl hp0 rfl) ?_
 intro w27 hm28
 replace hm28 : Mem w0 w27 (cat [sg g0 T0 fr0 pre0 [v0x0, (.int .i64 (IntKind.wrap .i64 (a0.at_ + 1))), (.int .i64 a0.seed)] post0, hF]) := hm28
 refine wpList_nil ?_
 refine nx ?_
 refine wp_seq ?_
 refine wp_seq ?_
 refine wp_qregion (cat [sg g0 T0 fr0 pre0 [v0x0, (.int .i64 (IntKind.wrap .i64 (a0.at_ + 1))), (.int .i64 a0.seed)] post0, hF]) mixed (by kernel_rfl) hm28 ?_
 refine q_val (v := (.pointer (some ⟨g0, o0, none⟩))) (won rfl) rfl rfl (fun wq hq => (x_move rfl (ev (t := 0) rfl rfl))) ?_
 refine q_val (v := (.pointer (some ⟨g0, o0, none⟩))) (won rfl) rfl rfl (fun wq hq => (x_nil rfl (ev (t := 10) rfl rfl))) ?_
 refine q_val (v := (.pointer (some ⟨g0, o0 + 1, none⟩))) (won rfl) rfl rfl (fun wq hq => (x_field rfl fa_118x1 (ev (t := 11) rfl rfl))) ?_
 refine q_val (v := (.int .i64 (IntKind.wrap .i64 (a0.at_ + 1)))) (won rfl) rfl rfl (fun wq hq => (x_load rfl ty1x3 (ev (t := 12) rfl rfl) (seg_cell (o' := o0) (j := 1) hq (k := 0) rfl hp0 rfl))) ?_
 refine q_val (v := (.pointer (some ⟨g0, o0, none⟩))) (won rfl) rfl rfl (fun wq hq => (x_move rfl (ev (t := 0) rfl rfl))) ?_
 refine q_val (v := (.pointer (some ⟨g0, o0, none⟩))) (won rfl) rfl rfl (fun wq hq => (x_nil rfl (ev (t := 14) rfl rfl))) ?_
 refine q_val (v := (.pointer (some ⟨g0, o0, none⟩))) (won rfl) rfl rfl (fun wq hq => (x_field rfl fa_118x0 (ev (t := 15) rfl rfl))) ?_
 refine q_val (v := v0x0) (won rfl) rfl rfl (fun wq hq => (x_load rfl ty1x22 (ev (t := 16) rfl rfl) (seg_cell (o' := o0) (j := 0) hq (k := 0) rfl hp0 rfl))) ?_
 refine q_val (v := (.int .i64 (a0.code.length : Int))) (won rfl) rfl rfl (fun wq hq => (x_len rfl slt_22 (ev (t := 17) rfl rfl) (H0x0).sl)) ?_
 refine q_val (v := (.bool (decide ((IntKind.wrap .i64 (a0.at_ + 1)) ≤ (a0.code.length : Int))))) (won rfl) rfl rfl (fun wq hq => (x_leq rfl (ev (t := 13) rfl rfl) (ev (t := 18) rfl rfl))) ?_
 refine wpQuiet_nil ?_
 intro w39 hm40
 refine nx ?_
 rcases Bool.eq_false_or_eq_true ((decide ((IntKind.wrap .i64 (a0.at_ + 1)) ≤ (a0.code.length : Int)))) with hb41 | hb41
 ·
  replace he := bifT he hb41
  refine c_true rfl (p := (decide ((IntKind.wrap .i64 (a0.at_ + 1)) ≤ (a0.code.length : Int)))) rfl rfl hb41 ?_
  refine wp_seq ?_
  obtain ⟨hg43, he⟩ := gdE he
  refine wp_fit [(0, 1), (1, 1), (2, 1), (3, 1), (4, 1), (5, 1), (6, 1), (7, 1), (8, 1), (9, 1), (10, 1), (11, 1), (12, 1), (13, 1), (14, 1), (15, 1), (16, 1), (17, 1), (18, 1), (19, 1), (20, 1), (21, 1), (22, 1), (23, 2)] (fun w' => Mem w0 w' (cat [hF])) mixed (by kernel_rfl) (Mem.drew (Mem.pick [1] rfl hm40)) ?_
  have hm42 := Mem.drew hm40
  refine z_r (v := (.pointer (some ⟨g0, o0, none⟩))) rfl (won rfl) rfl rfl ((x_move rfl (ev (t := 0) rfl rfl))) ?_
  refine z_r (v := (.pointer (some ⟨g0, o0, none⟩))) rfl (won rfl) rfl rfl ((x_move rfl (ev (t := 0) rfl rfl))) ?_
  refine z_r (v := (.pointer (some ⟨g0, o0, none⟩))) rfl (won rfl) rfl rfl ((x_nil rfl (ev (t := 21) rfl rfl))) ?_
  refine z_r (v := (.pointer (some ⟨g0, o0 + 2, none⟩))) rfl (won rfl) rfl rfl ((x_field rfl fa_118x2 (ev (t := 22) rfl rfl))) ?_
  refine z_r (v := (.int .i64 a0.seed)) rfl (won rfl) rfl rfl ((x_load rfl ty1x3 (ev (t := 23) rfl rfl) (seg_cell (o' := o0) (j := 2) hm42 (k := 0) rfl hp0 rfl))) ?_
  refine z_r (v := (.int .i64 (IntKind.wrap .i64 (a0.seed * 31)))) rfl (won rfl) rfl rfl ((x_mul rfl (ev (t := 24) rfl rfl) rfl)) ?_
  refine z_r (v := (.pointer (some ⟨g0, o0, none⟩))) rfl (won rfl) rfl rfl ((x_move rfl (ev (t := 0) rfl rfl))) ?_
  refine z_r (v := (.pointer (some ⟨g0, o0, none⟩))) rfl (won rfl) rfl rfl ((x_nil rfl (ev (t := 26) rfl rfl))) ?_
  refine z_r (v := (.pointer (some ⟨g0, o0, none⟩))) rfl (won rfl) rfl rfl ((x_field rfl fa_118x0 (ev (t := 27) rfl rfl))) ?_
  refine z_r (v := v0x0) rfl (won rfl) rfl rfl ((x_load rfl ty1x22 (ev (t := 28) rfl rfl) (seg_cell (o' := o0) (j := 0) hm42 (k := 0) rfl hp0 rfl))) ?_
  refine z_r (v := (.pointer (some ⟨g0, o0, none⟩))) rfl (won rfl) rfl rfl ((x_move rfl (ev (t := 0) rfl rfl))) ?_
  refine z_r (v := (.pointer (some ⟨g0, o0, none⟩))) rfl (won rfl) rfl rfl ((x_nil rfl (ev (t := 30) rfl rfl))) ?_
  refine z_r (v := (.pointer (some ⟨g0, o0 + 1, none⟩))) rfl (won rfl) rfl rfl ((x_field rfl fa_118x1 (ev (t := 31) rfl rfl))) ?_
  refine z_r (v := (.int .i64 (IntKind.wrap .i64 (a0.at_ + 1)))) rfl (won rfl) rfl rfl ((x_load rfl ty1x3 (ev (t := 32) rfl rfl) (seg_cell (o' := o0) (j := 1) hm42 (k := 0) rfl hp0 rfl))) ?_
  refine z_r (v := (.int .i64 (IntKind.wrap .i64 ((IntKind.wrap .i64 (a0.at_ + 1)) - 1)))) rfl (won rfl) rfl rfl ((x_sub rfl (ev (t := 33) rfl rfl) rfl)) ?_
  refine z_r (v := (.pointer (some ((slA v0x0).add (Int.toNat (IntKind.wrap .i64 ((IntKind.wrap .i64 (a0.at_ + 1)) - 1)) * 1))))) rfl (won rfl) rfl rfl ((x_index (d := (FK.int .u8)) rfl slt_22 (ev (t := 29) rfl rfl) (ev (t := 34) rfl rfl) H0x0 hg43.1 hg43.2)) ?_
  refine z_r (v := (.int .u8 (ix a0.code (IntKind.wrap .i64 ((IntKind.wrap .i64 (a0.at_ + 1)) - 1))))) rfl (won rfl) rfl rfl ((x_load rfl ty1x5 (ev (t := 35) rfl rfl) (RdF.cell0 H0x0 hm42 (Sub.trans hs (Sub.at_ (k := 1) rfl)) hg43.1 hg43.2 rfl))) ?_
  refine z_r (v := (.int .i64 (IntKind.wrap .i64 (ix a0.code (IntKind.wrap .i64 ((IntKind.wrap .i64 (a0.at_ + 1)) - 1)))))) rfl (won rfl) rfl rfl ((x_conv rfl un_5 un_3 (ev (t := 36) rfl rfl))) ?_
  refine z_r (v := (.int .i64 (IntKind.wrap .i64 ((IntKind.wrap .i64 (a0.seed * 31)) + (IntKind.wrap .i64 (ix a0.code (IntKind.wrap .i64 ((IntKind.wrap .i64 (a0.at_ + 1)) - 1)))))))) rfl (won rfl) rfl rfl ((x_add rfl (ev (t := 25) rfl rfl) (ev (t := 37) rfl rfl))) ?_
  refine z_r (v := (.int .i64 (IntKind.wrap .i64 ((IntKind.wrap .i64 ((IntKind.wrap .i64 (a0.seed * 31)) + (IntKind.wrap .i64 (ix a0.code (IntKind.wrap .i64 ((IntKind.wrap .i64 (a0.at_ + 1)) - 1)))))) + 7)))) rfl (won rfl) rfl rfl ((x_add rfl (ev (t := 38) rfl rfl) rfl)) ?_
  refine z_r (v := (.int .i64 (Int.tmod (IntKind.wrap .i64 ((IntKind.wrap .i64 ((IntKind.wrap .i64 (a0.seed * 31)) + (IntKind.wrap .i64 (ix a0.code (IntKind.wrap .i64 ((IntKind.wrap .i64 (a0.at_ + 1)) - 1)))))) + 7)) 2147483648))) rfl (won rfl) rfl rfl ((x_rem rfl (ev (t := 39) rfl rfl) rfl (by decide))) ?_
  refine z_r (v := (.pointer (some ⟨g0, o0, none⟩))) rfl (won rfl) rfl rfl ((x_nil rfl (ev (t := 20) rfl rfl))) ?_
  refine z_r (v := (.pointer (some ⟨g0, o0 + 2, none⟩))) rfl (won rfl) rfl rfl ((x_field rfl fa_118x2 (ev (t := 41) rfl rfl))) ?_
  refine z_exs rfl (won rfl) rfl (e_store (vs := [(.int .i64 (Int.tmod (IntKind.wrap .i64 ((IntKind.wrap .i64 ((IntKind.wrap .i64 (a0.seed * 31)) + (IntKind.wrap .i64 (ix a0.code (IntKind.wrap .i64 ((IntKind.wrap .i64 (a0.at_ + 1)) - 1)))))) + 7)) 2147483648))]) (o' := o0) (j := 2) rfl sz_3 (ev (t := 42) rfl rfl) (ev (t := 40) rfl rfl) rfl rfl hm42 (k := 0) rfl hp0 rfl) ?_
  intro w44 hm45
  replace hm45 : Mem w0 w44 (cat [sg g0 T0 fr0 pre0 [v0x0, (.int .i64 (IntKind.wrap .i64 (a0.at_ + 1))), (.int .i64 (Int.tmod (IntKind.wrap .i64 ((IntKind.wrap .i64 ((IntKind.wrap .i64 (a0.seed * 31)) + (IntKind.wrap .i64 (ix a0.code (IntKind.wrap .i64 ((IntKind.wrap .i64 (a0.at_ + 1)) - 1)))))) + 7)) 2147483648))] post0, hF]) := hm45
  refine ⟨Mem.pick [1] rfl hm45, ?_⟩
  refine z_nil ?_
  refine nx ?_
  refine wp_seq ?_
  obtain ⟨hg46, he⟩ := gdE he
  refine wp_qregion (cat [sg g0 T0 fr0 pre0 [v0x0, (.int .i64 (IntKind.wrap .i64 (a0.at_ + 1))), (.int .i64 (Int.tmod (IntKind.wrap .i64 ((IntKind.wrap .i64 ((IntKind.wrap .i64 (a0.seed * 31)) + (IntKind.wrap .i64 (ix a0.code (IntKind.wrap .i64 ((IntKind.wrap .i64 (a0.at_ + 1)) - 1)))))) + 7)) 2147483648))] post0, hF]) mixed (by kernel_rfl) hm45 ?_
  refine q_val (v := (.pointer (some ⟨g0, o0, none⟩))) (won rfl) rfl rfl (fun wq hq => (x_move rfl (ev (t := 0) rfl rfl))) ?_
  refine q_val (v := (.pointer (some ⟨g0, o0, none⟩))) (won rfl) rfl rfl (fun wq hq => (x_nil rfl (ev (t := 43) rfl rfl))) ?_
  refine q_val (v := (.pointer (some ⟨g0, o0, none⟩))) (won rfl) rfl rfl (fun wq hq => (x_field rfl fa_118x0 (ev (t := 44) rfl rfl))) ?_
  refine q_val (v := v0x0) (won rfl) rfl rfl (fun wq hq => (x_load rfl ty1x22 (ev (t := 45) rfl rfl) (seg_cell (o' := o0) (j := 0) hq (k := 0) rfl hp0 rfl))) ?_
  refine q_val (v := (.pointer (some ⟨g0, o0, none⟩))) (won rfl) rfl rfl (fun wq hq => (x_move rfl (ev (t := 0) rfl rfl))) ?_
  refine q_val (v := (.pointer (some ⟨g0, o0, none⟩))) (won rfl) rfl rfl (fun wq hq => (x_nil rfl (ev (t := 47) rfl rfl))) ?_
  refine q_val (v := (.pointer (some ⟨g0, o0 + 1, none⟩))) (won rfl) rfl rfl (fun wq hq => (x_field rfl fa_118x1 (ev (t := 48) rfl rfl))) ?_
  refine q_val (v := (.int .i64 (IntKind.wrap .i64 (a0.at_ + 1)))) (won rfl) rfl rfl (fun wq hq => (x_load rfl ty1x3 (ev (t := 49) rfl rfl) (seg_cell (o' := o0) (j := 1) hq (k := 0) rfl hp0 rfl))) ?_
  refine q_val (v := (.int .i64 (IntKind.wrap .i64 ((IntKind.wrap .i64 (a0.at_ + 1)) - 1)))) (won rfl) rfl rfl (fun wq hq => (x_sub rfl (ev (t := 50) rfl rfl) rfl)) ?_
  refine q_val (v := (.pointer (some ((slA v0x0).add (Int.toNat (IntKind.wrap .i64 ((IntKind.wrap .i64 (a0.at_ + 1)) - 1)) * 1))))) (won rfl) rfl rfl (fun wq hq => (x_index (d := (FK.int .u8)) rfl slt_22 (ev (t := 46) rfl rfl) (ev (t := 51) rfl rfl) H0x0 hg46.1 hg46.2)) ?_
  refine q_val (v := (.int .u8 (ix a0.code (IntKind.wrap .i64 ((IntKind.wrap .i64 (a0.at_ + 1)) - 1))))) (won rfl) rfl rfl (fun wq hq => (x_load rfl ty1x5 (ev (t := 52) rfl rfl) (RdF.cell0 H0x0 hq (Sub.trans hs (Sub.at_ (k := 1) rfl)) hg46.1 hg46.2 rfl))) ?_
  refine q_val (v := (.int .i64 (IntKind.wrap .i64 (ix a0.code (IntKind.wrap .i64 ((IntKind.wrap .i64 (a0.at_ + 1)) - 1)))))) (won rfl) rfl rfl (fun wq hq => (x_conv rfl un_5 un_3 (ev (t := 53) rfl rfl))) ?_
  refine q_val (v := (.int .i64 (IntKind.wrap .i64 (ix a0.code (IntKind.wrap .i64 ((IntKind.wrap .i64 (a0.at_ + 1)) - 1)))))) (won rfl) rfl rfl (fun wq hq => (x_assign rfl (ev (t := 54) rfl rfl))) ?_
  refine wpQuiet_nil ?_
  intro w47 hm48
  refine nx ?_
  refine wp_ret ?_
  refine xr ?_
  obtain rfl := Option.some.inj he
  refine r_ret (v := (.int .i64 (IntKind.wrap .i64 (ix a0.code (IntKind.wrap .i64 ((IntKind.wrap .i64 (a0.at_ + 1)) - 1)))))) (rv_one rfl (RVs.tmp (v := (.int .i64 (IntKind.wrap .i64 (ix a0.code (IntKind.wrap .i64 ((IntKind.wrap .i64 (a0.at_ + 1)) - 1)))))) rfl rfl RVs.nil)) rfl ?_
  exact ⟨rfl, Mem.pick [0, 1] rfl hm48⟩
 ·
  replace he := bifF he hb41
  refine c_false rfl (p := (decide ((IntKind.wrap .i64 (a0.at_ + 1)) ≤ (a0.code.length : Int)))) rfl rfl hb41 ?_
  refine wp_skip ?_
  refine nx ?_
  refine wp_seq ?_
  refine wp_seq ?_
  refine wp_region_lit ?_
  refine s_val (v := (.pointer (some ⟨g0, o0, none⟩))) (won rfl) rfl rfl (x_move rfl (ev (t := 0) rfl rfl)) ?_
  refine s_val (v := (.pointer (some ⟨g0, o0, none⟩))) (won rfl) rfl rfl (x_nil rfl (ev (t := 55) rfl rfl)) ?_
  refine s_val (v := (.pointer (some ⟨g0, o0 + 1, none⟩))) (won rfl) rfl rfl (x_field rfl fa_118x1 (ev (t := 56) rfl rfl)) ?_
  refine s_val (v := (.int .i64 (IntKind.wrap .i64 (a0.at_ + 1)))) (won rfl) rfl rfl (x_load rfl ty1x3 (ev (t := 57) rfl rfl) (seg_cell (o' := o0) (j := 1) hm40 (k := 0) rfl hp0 rfl)) ?_
  refine s_val (v := (.bool (decide ((3000 : Int) < (IntKind.wrap .i64 (a0.at_ + 1)))))) (won rfl) rfl rfl (x_gtr rfl (ev (t := 58) rfl rfl) rfl) ?_
  refine wpList_nil ?_
  refine nx ?_
  rcases Bool.eq_false_or_eq_true ((decide ((3000 : Int) < (IntKind.wrap .i64 (a0.at_ + 1))))) with hb50 | hb50
  ·
   replace he := bifT he hb50
   refine c_true rfl (p := (decide ((3000 : Int) < (IntKind.wrap .i64 (a0.at_ + 1))))) rfl rfl hb50 ?_
   refine wp_seq ?_
   refine wp_region_lit ?_
   refine s_val (v := (.int .i64 0)) (won rfl) rfl rfl (x_assign rfl rfl) ?_
   refine wpList_nil ?_
   refine nx ?_
   refine wp_ret ?_
   refine xr ?_
   obtain rfl := Option.some.inj he
   refine r_ret (v := (.int .i64 0)) (rv_one rfl (RVs.tmp (v := (.int .i64 0)) rfl rfl RVs.nil)) rfl ?_
   exact ⟨rfl, Mem.pick [0, 1] rfl hm40⟩
  ·
   replace he := bifF he hb50
   refine c_false rfl (p := (decide ((3000 : Int) < (IntKind.wrap .i64 (a0.at_ + 1))))) rfl rfl hb50 ?_
   refine wp_skip ?_
   refine nx ?_
   refine wp_seq ?_
   refine wp_region_lit ?_
   refine s_val (v := (.pointer (some ⟨g0, o0, none⟩))) (won rfl) rfl rfl (x_move rfl (ev (t := 0) rfl rfl)) ?_
   refine s_val (v := (.pointer (some ⟨g0, o0, none⟩))) (won rfl) rfl rfl (x_move rfl (ev (t := 0) rfl rfl)) ?_
   refine s_val (v := (.pointer (some ⟨g0, o0, none⟩))) (won rfl) rfl rfl (x_nil rfl (ev (t := 61) rfl rfl)) ?_
   refine s_val (v := (.pointer (some ⟨g0, o0 + 2, none⟩))) (won rfl) rfl rfl (x_field rfl fa_118x2 (ev (t := 62) rfl rfl)) ?_
   refine s_val (v := (.int .i64 a0.seed)) (won rfl) rfl rfl (x_load rfl ty1x3 (ev (t := 63) rfl rfl) (seg_cell (o' := o0) (j := 2) hm40 (k := 0) rfl hp0 rfl)) ?_
   refine s_val (v := (.int .i64 (IntKind.wrap .i64 (a0.seed * 1103515245)))) (won rfl) rfl rfl (x_mul rfl (ev (t := 64) rfl rfl) rfl) ?_
   refine s_val (v := (.int .i64 (IntKind.wrap .i64 ((IntKind.wrap .i64 (a0.seed * 1103515245)) + 12345)))) (won rfl) rfl rfl (x_add rfl (ev (t := 65) rfl rfl) rfl) ?_
   refine s_val (v := (.int .i64 (Int.tmod (IntKind.wrap .i64 ((IntKind.wrap .i64 (a0.seed * 1103515245)) + 12345)) 2147483648))) (won rfl) rfl rfl (x_rem rfl (ev (t := 66) rfl rfl) rfl (by decide)) ?_
   refine s_val (v := (.pointer (some ⟨g0, o0, none⟩))) (won rfl) rfl rfl (x_nil rfl (ev (t := 60) rfl rfl)) ?_
   refine s_val (v := (.pointer (some ⟨g0, o0 + 2, none⟩))) (won rfl) rfl rfl (x_field rfl fa_118x2 (ev (t := 68) rfl rfl)) ?_
   refine s_exs (won rfl) rfl (e_store (vs := [(.int .i64 (Int.tmod (IntKind.wrap .i64 ((IntKind.wrap .i64 (a0.seed * 1103515245)) + 12345)) 2147483648))]) (o' := o0) (j := 2) rfl sz_3 (ev (t := 69) rfl rfl) (ev (t := 67) rfl rfl) rfl rfl hm40 (k := 0) rfl hp0 rfl) ?_
   intro w51 hm52
   replace hm52 : Mem w0 w51 (cat [sg g0 T0 fr0 pre0 [v0x0, (.int .i64 (IntKind.wrap .i64 (a0.at_ + 1))), (.int .i64 (Int.tmod (IntKind.wrap .i64 ((IntKind.wrap .i64 (a0.seed * 1103515245)) + 12345)) 2147483648))] post0, hF]) := hm52
   refine wpList_nil ?_
   refine nx ?_
   refine wp_seq ?_
   refine wp_region_lit ?_
   refine s_val (v := (.pointer (some ⟨g0, o0, none⟩))) (won rfl) rfl rfl (x_move rfl (ev (t := 0) rfl rfl)) ?_
   refine s_val (v := (.pointer (some ⟨g0, o0, none⟩))) (won rfl) rfl rfl (x_nil rfl (ev (t := 70) rfl rfl)) ?_
   refine s_val (v := (.pointer (some ⟨g0, o0 + 2, none⟩))) (won rfl) rfl rfl (x_field rfl fa_118x2 (ev (t := 71) rfl rfl)) ?_
   refine s_val (v := (.int .i64 (Int.tmod (IntKind.wrap .i64 ((IntKind.wrap .i64 (a0.seed * 1103515245)) + 12345)) 2147483648))) (won rfl) rfl rfl (x_load rfl ty1x3 (ev (t := 72) rfl rfl) (seg_cell (o' := o0) (j := 2) hm52 (k := 0) rfl hp0 rfl)) ?_
   refine s_val (v := (.int .i64 (IntKind.wrap .i64 (Int.tdiv (Int.tmod (IntKind.wrap .i64 ((IntKind.wrap .i64 (a0.seed * 1103515245)) + 12345)) 2147483648) 65536)))) (won rfl) rfl rfl (x_quo rfl (ev (t := 73) rfl rfl) rfl (by decide)) ?_
   refine s_val (v := (.int .i64 (Int.tmod (IntKind.wrap .i64 (Int.tdiv (Int.tmod (IntKind.wrap .i64 ((IntKind.wrap .i64 (a0.seed * 1103515245)) + 12345)) 2147483648) 65536)) 256))) (won rfl) rfl rfl (x_rem rfl (ev (t := 74) rfl rfl) rfl (by decide)) ?_
   refine s_val (v := (.int .i64 (Int.tmod (IntKind.wrap .i64 (Int.tdiv (Int.tmod (IntKind.wrap .i64 ((IntKind.wrap .i64 (a0.seed * 1103515245)) + 12345)) 2147483648) 65536)) 256))) (won rfl) rfl rfl (x_assign rfl (ev (t := 75) rfl rfl)) ?_
   refine wpList_nil ?_
   refine nx ?_
   refine wp_ret ?_
   obtain rfl := Option.some.inj he
   refine r_ret (v := (.int .i64 (Int.tmod (IntKind.wrap .i64 (Int.tdiv (Int.tmod (IntKind.wrap .i64 ((IntKind.wrap .i64 (a0.seed * 1103515245)) + 12345)) 2147483648) 65536)) 256))) (rv_one rfl (RVs.tmp (v := (.int .i64 (Int.tmod (IntKind.wrap .i64 (Int.tdiv (Int.tmod (IntKind.wrap .i64 ((IntKind.wrap .i64 (a0.seed * 1103515245)) + 12345)) 2147483648) 65536)) 256))) rfl rfl RVs.nil)) rfl ?_
   exact ⟨rfl, Mem.pick [0, 1] rfl hm52⟩
def spec_l00Src_next (a0 : spec_l00Src) (a1 : Int) : Option (Int × spec_l00Src) := (bif (decide (a1 ≤ 1)) then (some (0, a0)) else (bif (decide (a1 ≤ 256)) then (spec_l00Src_byte a0).bind fun r31 => gd (a1 ≠ 0) ((some ((Int.tmod r31.1 a1), (spec_l00Src.mk a0.code r31.2.at_ r31.2.seed)))) else (spec_l00Src_byte a0).bind fun r35 => (spec_l00Src_byte (spec_l00Src.mk a0.code r35.2.at_ r35.2.seed)).bind fun r38 => (spec_l00Src_byte (spec_l00Src.mk a0.code r38.2.at_ r38.2.seed)).bind fun r41 => gd (a1 ≠ 0) ((some ((Int.tmod (IntKind.wrap .i64 ((IntKind.wrap .i64 ((IntKind.wrap .i64 (r35.1 * 65536)) + (IntKind.wrap .i64 (r38.1 * 256)))) + r41.1)) a1), (spec_l00Src.mk a0.code r41.2.at_ r41.2.seed))))))
set_option maxHeartbeats 400000 in
set_option maxRecDepth 100000 in
theorem spec_l00Src_next_ok {w0 w : World} {hR hF : Hp} {v0x0 : Value} {g0 T0 o0 : Nat} {fr0 : Nat × Nat} {pre0 post0 : List Value} (a0 : spec_l00Src) (a1 : Int) {r : (Int × spec_l00Src)} (H0x0 : RdF w0 (FK.int .u8) v0x0 a0.code hR) (hs : Sub hR hF) (hp0 : pre0.length = o0) (hm : Mem w0 w (cat [sg g0 T0 fr0 pre0 [v0x0, (.int .i64 a0.at_), (.int .i64 a0.seed)] post0, hF])) (he : spec_l00Src_next a0 a1 = some r) :
    Calls Try.prog 83 #[(.pointer (some ⟨g0, o0, none⟩)), (.int .i64 a1)] w (fun e w' => e = .returned (.int .i64 r.1) ∧ Mem w0 w' (cat [sg g0 T0 fr0 pre0 [v0x0, (.int .i64 r.2.at_), (.int .i64 r.2.seed)] post0, hF])) := by
 refine calls_fr (n := 31) Try.func83 rfl rfl rfl ?_
 unfold spec_l00Src_next at he
 refine wp_seq ?_
 refine wp_region_lit ?_
 refine s_val (v := (.int .i64 0)) (won rfl) rfl rfl (x_assign rfl rfl) ?_
 refine wpList_nil ?_
 refine nx ?_
 refine wp_seq ?_
 refine wp_seq ?_
 refine wp_region_lit ?_
 refine s_val (v := (.int .i64 a1)) (won rfl) rfl rfl (x_move rfl (ev (t := 1) rfl rfl)) ?_
 refine s_val (v := (.bool (decide (a1 ≤ 1)))) (won rfl) rfl rfl (x_leq rfl (ev (t := 8) rfl rfl) rfl) ?_
 refine wpList_nil ?_
 refine nx ?_
 rcases Bool.eq_false_or_eq_true ((decide (a1 ≤ 1))) with hb24 | hb24
 ·
  replace he := bifT he hb24
  refine c_true rfl (p := (decide (a1 ≤ 1))) rfl rfl hb24 ?_
  refine wp_seq ?_
  refine wp_region_lit ?_
  refine s_val (v := (.int .i64 0)) (won rfl) rfl rfl (x_assign rfl rfl) ?_
  refine wpList_nil ?_
  refine nx ?_
  refine wp_ret ?_
  refine xr ?_
  obtain rfl := Option.some.inj he
  refine r_ret (v := (.int .i64 0)) (rv_one rfl (RVs.tmp (v := (.int .i64 0)) rfl rfl RVs.nil)) rfl ?_
  exact ⟨rfl, Mem.pick [0, 1] rfl hm⟩
 ·
  replace he := bifF he hb24
  refine c_false rfl (p := (decide (a1 ≤ 1))) rfl rfl hb24 ?_
  refine wp_skip ?_
  refine nx ?_
  refine wp_seq ?_
  refine wp_seq ?_
  refine wp_region_lit ?_
  refine s_val (v := (.int .i64 a1)) (won rfl) rfl rfl (x_move rfl (ev (t := 1) rfl rfl)) ?_
  refine s_val (v := (.bool (decide (a1 ≤ 256)))) (won rfl) rfl rfl (x_leq rfl (ev (t := 10) rfl rfl) rfl) ?_
  refine wpList_nil ?_
  refine nx ?_
  rcases Bool.eq_false_or_eq_true ((decide (a1 ≤ 256))) with hb30 | hb30
  ·
   replace he := bifT he hb30
   refine c_true rfl (p := (decide (a1 ≤ 256))) rfl rfl hb30 ?_
   refine wp_seq ?_
   obtain ⟨r31, hr31, he⟩ := bindE he
   obtain ⟨hg34, he⟩ := gdE he
   refine wp_region_lit ?_
   refine s_val (v := (.pointer (some ⟨g0, o0, none⟩))) (won rfl) rfl rfl (x_move rfl (ev (t := 0) rfl rfl)) ?_
   refine s_call (won rfl) rfl rfl (x_call rfl rfl cl_94 (map_lit (map_cons (ev (t := 12) rfl rfl) map_nil))) (spec_l00Src_byte_ok (hR := (cat [hR])) (hF := cat [hF]) a0 (H0x0.mono (Sub.at_ (k := 0) rfl)) (subc (Sub.trans hs (Sub.at_ (k := 0) rfl)) subn) hp0 (Mem.grp [sg g0 T0 fr0 pre0 [v0x0, (.int .i64 a0.at_), (.int .i64 a0.seed)] post0] [hF] (Mem.pick [0, 1] rfl hm)) hr31) ?_
   rintro e w32 ⟨rfl, hm33⟩
   refine ⟨_, rfl, ?_⟩
   replace hm33 : Mem w0 w32 (cat [sg g0 T0 fr0 pre0 [v0x0, (.int .i64 r31.2.at_), (.int .i64 r31.2.seed)] post0, hF]) := Mem.ung [sg g0 T0 fr0 pre0 [v0x0, (.int .i64 r31.2.at_), (.int .i64 r31.2.seed)] post0] [hF] hm33
   refine s_val (v := (.int .i64 a1)) (won rfl) rfl rfl (x_move rfl (ev (t := 1) rfl rfl)) ?_
   refine s_val (v := (.int .i64 (Int.tmod r31.1 a1))) (won rfl) rfl rfl (x_rem rfl (ev (t := 13) rfl rfl) (ev (t := 14) rfl rfl) hg34) ?_
   refine s_val (v := (.int .i64 (Int.tmod r31.1 a1))) (won rfl) rfl rfl (x_assign rfl (ev (t := 15) rfl rfl)) ?_
   refine wpList_nil ?_
   refine nx ?_
   refine wp_ret ?_
   refine xr ?_
   obtain rfl := Option.some.inj he
   refine r_ret (v := (.int .i64 (Int.tmod r31.1 a1))) (rv_one rfl (RVs.tmp (v := (.int .i64 (Int.tmod r31.1 a1))) rfl rfl RVs.nil)) rfl ?_
   exact ⟨rfl, Mem.pick [0, 1] rfl hm33⟩
  ·
   replace he := bifF he hb30
   refine c_false rfl (p := (decide (a1 ≤ 256))) rfl rfl hb30 ?_
   refine wp_skip ?_
   refine nx ?_
   refine wp_seq ?_
   obtain ⟨r35, hr35, he⟩ := bindE he
   refine wp_region_lit ?_
   refine s_val (v := (.pointer (some ⟨g0, o0, none⟩))) (won rfl) rfl rfl (x_move rfl (ev (t := 0) rfl rfl)) ?_
   refine s_call (won rfl) rfl rfl (x_call rfl rfl cl_94 (map_lit (map_cons (ev (t := 16) rfl rfl) map_nil))) (spec_l00Src_byte_ok (hR := (cat [hR])) (hF := cat [hF]) a0 (H0x0.mono (Sub.at_ (k := 0) rfl)) (subc (Sub.trans hs (Sub.at_ (k := 0) rfl)) subn) hp0 (Mem.grp [sg g0 T0 fr0 pre0 [v0x0, (.int .i64 a0.at_), (.int .i64 a0.seed)] post0] [hF] (Mem.pick [0, 1] rfl hm)) hr35) ?_
   rintro e w36 ⟨rfl, hm37⟩
   refine ⟨_, rfl, ?_⟩
   replace hm37 : Mem w0 w36 (cat [sg g0 T0 fr0 pre0 [v0x0, (.int .i64 r35.2.at_), (.int .i64 r35.2.seed)] post0, hF]) := Mem.ung [sg g0 T0 fr0 pre0 [v0x0, (.int .i64 r35.2.at_), (.int .i64 r35.2.seed)] post0] [hF] hm37
   refine s_val (v := (.int .i64 r35.1)) (won rfl) rfl rfl (x_assign rfl (ev (t := 17) rfl rfl)) ?_
   refine wpList_nil ?_
   refine nx ?_
   refine wp_seq ?_
   obtain ⟨r38, hr38, he⟩ := bindE he
   refine wp_region_lit ?_
   refine s_val (v := (.pointer (some ⟨g0, o0, none⟩))) (won rfl) rfl rfl (x_move rfl (ev (t := 0) rfl rfl)) ?_
   refine s_call (won rfl) rfl rfl (x_call rfl rfl cl_94 (map_lit (map_cons (ev (t := 18) rfl rfl) map_nil))) (spec_l00Src_byte_ok (hR := (cat [hR])) (hF := cat [hF]) (spec_l00Src.mk a0.code r35.2.at_ r35.2.seed) (H0x0.mono (Sub.at_ (k := 0) rfl)) (subc (Sub.trans hs (Sub.at_ (k := 0) rfl)) subn) hp0 (Mem.grp [sg g0 T0 fr0 pre0 [v0x0, (.int .i64 r35.2.at_), (.int .i64 r35.2.seed)] post0] [hF] (Mem.pick [0, 1] rfl hm37)) hr38) ?_
   rintro e w39 ⟨rfl, hm40⟩
   refine ⟨_, rfl, ?_⟩
   replace hm40 : Mem w0 w39 (cat [sg g0 T0 fr0 pre0 [v0x0, (.int .i64 r38.2.at_), (.int .i64 r38.2.seed)] post0, hF]) := Mem.ung [sg g0 T0 fr0 pre0 [v0x0, (.int .i64 r38.2.at_), (.int .i64 r38.2.seed)] post0] [hF] hm40
   refine s_val (v := (.int .i64 r38.1)) (won rfl) rfl rfl (x_assign rfl (ev (t := 19) rfl rfl)) ?_
   refine wpList_nil ?_
   refine nx ?_
   refine wp_seq ?_
   obtain ⟨r41, hr41, he⟩ := bindE he
   refine wp_region_lit ?_
   refine s_val (v := (.pointer (some ⟨g0, o0, none⟩))) (won rfl) rfl rfl (x_move rfl (ev (t := 0) rfl rfl)) ?_
   refine s_call (won rfl) rfl rfl (x_call rfl rfl cl_94 (map_lit (map_cons (ev (t := 20) rfl rfl) map_nil))) (spec_l00Src_byte_ok (hR := (cat [hR])) (hF := cat [hF]) (spec_l00Src.mk a0.code r38.2.at_ r38.2.seed) (H0x0.mono (Sub.at_ (k := 0) rfl)) (subc (Sub.trans hs (Sub.at_ (k := 0) rfl)) subn) hp0 (Mem.grp [sg g0 T0 fr0 pre0 [v0x0, (.int .i64 r38.2.at_), (.int .i64 r38.2.seed)] post0] [hF] (Mem.pick [0, 1] rfl hm40)) hr41) ?_
   rintro e w42 ⟨rfl, hm43⟩
   refine ⟨_, rfl, ?_⟩
   replace hm43 : Mem w0 w42 (cat [sg g0 T0 fr0 pre0 [v0x0, (.int .i64 r41.2.at_), (.int .i64 r41.2.seed)] post0, hF]) := Mem.ung [sg g0 T0 fr0 pre0 [v0x0, (.int .i64 r41.2.at_), (.int .i64 r41.2.seed)] post0] [hF] hm43
   refine s_val (v := (.int .i64 r41.1)) (won rfl) rfl rfl (x_assign rfl (ev (t := 21) rfl rfl)) ?_
   refine wpList_nil ?_
   refine nx ?_
   refine wp_seq ?_
   obtain ⟨hg44, he⟩ := gdE he
   refine wp_region_lit ?_
   refine s_val (v := (.int .i64 r35.1)) (won rfl) rfl rfl (x_move rfl (ev (t := 5) rfl rfl)) ?_
   refine s_val (v := (.int .i64 (IntKind.wrap .i64 (r35.1 * 65536)))) (won rfl) rfl rfl (x_mul rfl (ev (t := 22) rfl rfl) rfl) ?_
   refine s_val (v := (.int .i64 r38.1)) (won rfl) rfl rfl (x_move rfl (ev (t := 6) rfl rfl)) ?_
   refine s_val (v := (.int .i64 (IntKind.wrap .i64 (r38.1 * 256)))) (won rfl) rfl rfl (x_mul rfl (ev (t := 24) rfl rfl) rfl) ?_
   refine s_val (v := (.int .i64 (IntKind.wrap .i64 ((IntKind.wrap .i64 (r35.1 * 65536)) + (IntKind.wrap .i64 (r38.1 * 256)))))) (won rfl) rfl rfl (x_add rfl (ev (t := 23) rfl rfl) (ev (t := 25) rfl rfl)) ?_
   refine s_val (v := (.int .i64 r41.1)) (won rfl) rfl rfl (x_move rfl (ev (t := 7) rfl rfl)) ?_
   refine s_val (v := (.int .i64 (IntKind.wrap .i64 ((IntKind.wrap .i64 ((IntKind.wrap .i64 (r35.1 * 65536)) + (IntKind.wrap .i64 (r38.1 * 256)))) + r41.1)))) (won rfl) rfl rfl (x_add rfl (ev (t := 26) rfl rfl) (ev (t := 27) rfl rfl)) ?_
   refine s_val (v := (.int .i64 a1)) (won rfl) rfl rfl (x_move rfl (ev (t := 1) rfl rfl)) ?_
   refine s_val (v := (.int .i64 (Int.tmod (IntKind.wrap .i64 ((IntKind.wrap .i64 ((IntKind.wrap .i64 (r35.1 * 65536)) + (IntKind.wrap .i64 (r38.1 * 256)))) + r41.1)) a1))) (won rfl) rfl rfl (x_rem rfl (ev (t := 28) rfl rfl) (ev (t := 29) rfl rfl) hg44) ?_
   refine s_val (v := (.int .i64 (Int.tmod (IntKind.wrap .i64 ((IntKind.wrap .i64 ((IntKind.wrap .i64 (r35.1 * 65536)) + (IntKind.wrap .i64 (r38.1 * 256)))) + r41.1)) a1))) (won rfl) rfl rfl (x_assign rfl (ev (t := 30) rfl rfl)) ?_
   refine wpList_nil ?_
   refine nx ?_
   refine wp_ret ?_
   obtain rfl := Option.some.inj he
   refine r_ret (v := (.int .i64 (Int.tmod (IntKind.wrap .i64 ((IntKind.wrap .i64 ((IntKind.wrap .i64 (r35.1 * 65536)) + (IntKind.wrap .i64 (r38.1 * 256)))) + r41.1)) a1))) (rv_one rfl (RVs.tmp (v := (.int .i64 (Int.tmod (IntKind.wrap .i64 ((IntKind.wrap .i64 ((IntKind.wrap .i64 (r35.1 * 65536)) + (IntKind.wrap .i64 (r38.1 * 256)))) + r41.1)) a1))) rfl rfl RVs.nil)) rfl ?_
   exact ⟨rfl, Mem.pick [0, 1] rfl hm43⟩
def spec_l00Src_chance (a0 : spec_l00Src) (a1 : Int) : Option (Bool × spec_l00Src) := (spec_l00Src_next a0 a1).bind fun r4 => (some ((decide (r4.1 = (IntKind.wrap .i64 (a1 - 1)))), (spec_l00Src.mk a0.code r4.2.at_ r4.2.seed)))
set_option maxHeartbeats 400000 in
set_option maxRecDepth 100000 in
theorem spec_l00Src_chance_ok {w0 w : World} {hR hF : Hp} {v0x0 : Value} {g0 T0 o0 : Nat} {fr0 : Nat × Nat} {pre0 post0 : List Value} (a0 : spec_l00Src) (a1 : Int) {r : (Bool × spec_l00Src)} (H0x0 : RdF w0 (FK.int .u8) v0x0 a0.code hR) (hs : Sub hR hF) (hp0 : pre0.length = o0) (hm : Mem w0 w (cat [sg g0 T0 fr0 pre0 [v0x0, (.int .i64 a0.at_), (.int .i64 a0.seed)] post0, hF])) (he : spec_l00Src_chance a0 a1 = some r) :
    Calls Try.prog 89 #[(.pointer (some ⟨g0, o0, none⟩)), (.int .i64 a1)] w (fun e w' => e = .returned (.bool r.1) ∧ Mem w0 w' (cat [sg g0 T0 fr0 pre0 [v0x0, (.int .i64 r.2.at_), (.int .i64 r.2.seed)] post0, hF])) := by
 refine calls_fr (n := 11) Try.func89 rfl rfl rfl ?_
 unfold spec_l00Src_chance at he
 refine wp_seq ?_
 refine wp_region_lit ?_
 refine s_val (v := (.bool false)) (won rfl) rfl rfl (x_assign rfl rfl) ?_
 refine wpList_nil ?_
 refine nx ?_
 refine wp_seq ?_
 obtain ⟨r4, hr4, he⟩ := bindE he
 refine wp_region_lit ?_
 refine s_val (v := (.pointer (some ⟨g0, o0, none⟩))) (won rfl) rfl rfl (x_move rfl (ev (t := 0) rfl rfl)) ?_
 refine s_val (v := (.int .i64 a1)) (won rfl) rfl rfl (x_move rfl (ev (t := 1) rfl rfl)) ?_
 refine s_call (won rfl) rfl rfl (x_call rfl rfl cl_83 (map_lit (map_cons (ev (t := 5) rfl rfl) (map_cons (ev (t := 6) rfl rfl) map_nil)))) (spec_l00Src_next_ok (hR := (cat [hR])) (hF := cat [hF]) a0 a1 (H0x0.mono (Sub.at_ (k := 0) rfl)) (subc (Sub.trans hs (Sub.at_ (k := 0) rfl)) subn) hp0 (Mem.grp [sg g0 T0 fr0 pre0 [v0x0, (.int .i64 a0.at_), (.int .i64 a0.seed)] post0] [hF] (Mem.pick [0, 1] rfl hm)) hr4) ?_
 rintro e w5 ⟨rfl, hm6⟩
 refine ⟨_, rfl, ?_⟩
 replace hm6 : Mem w0 w5 (cat [sg g0 T0 fr0 pre0 [v0x0, (.int .i64 r4.2.at_), (.int .i64 r4.2.seed)] post0, hF]) := Mem.ung [sg g0 T0 fr0 pre0 [v0x0, (.int .i64 r4.2.at_), (.int .i64 r4.2.seed)] post0] [hF] hm6
 refine s_val (v := (.int .i64 a1)) (won rfl) rfl rfl (x_move rfl (ev (t := 1) rfl rfl)) ?_
 refine s_val (v := (.int .i64 (IntKind.wrap .i64 (a1 - 1)))) (won rfl) rfl rfl (x_sub rfl (ev (t := 8) rfl rfl) rfl) ?_
 refine s_val (v := (.bool (decide (r4.1 = (IntKind.wrap .i64 (a1 - 1)))))) (won rfl) rfl rfl (x_eql rfl (ev (t := 7) rfl rfl) (ev (t := 9) rfl rfl)) ?_
 refine s_val (v := (.bool (decide (r4.1 = (IntKind.wrap .i64 (a1 - 1)))))) (won rfl) rfl rfl (x_assign rfl (ev (t := 10) rfl rfl)) ?_
 refine wpList_nil ?_
 refine nx ?_
 refine wp_ret ?_
 obtain rfl := Option.some.inj he
 refine r_ret (v := (.bool (decide (r4.1 = (IntKind.wrap .i64 (a1 - 1)))))) (rv_one rfl (RVs.tmp (v := (.bool (decide (r4.1 = (IntKind.wrap .i64 (a1 - 1)))))) rfl rfl RVs.nil)) rfl ?_
 exact ⟨rfl, Mem.pick [0, 1] rfl hm6⟩
def spec_l00Src_ringActs_l1 (F : Nat) (a0 : spec_l00Src) : Nat → Int → Int → (List impl_RingAct) → Int → Option (Int × Int × (List impl_RingAct))
  | 0, _, _, _, _ => none
  | k + 1, s56265, s56266, s56268, s56273 => (bif ((decide ((0 : Int) < s56273)) && (decide ((s56268.length : Int) < 300))) then ((spec_l00Src_next (spec_l00Src.mk a0.code s56265 s56266) 7).bind fun r62276 => ((bif (decide (r62276.1 = 0)) then (some (decide (r62276.1 = 0))) else (some (decide (r62276.1 = 1)))) : Option (Bool)).bind fun (s62286 : (Bool)) => (bif s62286 then (spec_l00Src_next (spec_l00Src.mk a0.code r62276.2.at_ r62276.2.seed) 5).bind fun r62293 => gd ((s56268.length + ([(impl_RingAct.mk 2 r62293.1)] : List impl_RingAct).length) * 16 ≤ 140737488355328) ((some (r62293.2.at_, r62293.2.seed, (s56268 ++ ([(impl_RingAct.mk 2 r62293.1)] : List impl_RingAct))))) else (bif (decide (r62276.1 = 2)) then (spec_l00Src_next (spec_l00Src.mk a0.code r62276.2.at_ r62276.2.seed) 5).bind fun r62309 => gd ((s56268.length + ([(impl_RingAct.mk 3 (IntKind.wrap .i64 (1 + r62309.1)))] : List impl_RingAct).length) * 16 ≤ 140737488355328) ((some (r62309.2.at_, r62309.2.seed, (s56268 ++ ([(impl_RingAct.mk 3 (IntKind.wrap .i64 (1 + r62309.1)))] : List impl_RingAct))))) else (bif (decide (r62276.1 = 3)) then (spec_l00Src_chance (spec_l00Src.mk a0.code r62276.2.at_ r62276.2.seed) 3).bind fun r62325 => (bif r62325.1 then (spec_l00Src_next (spec_l00Src.mk a0.code r62325.2.at_ r62325.2.seed) 2).bind fun r63301 => gd ((0 : Int) ≤ r63301.1 ∧ r63301.1 < (([4, 5] : List Int).length : Int)) ((spec_l00Src_next (spec_l00Src.mk a0.code r63301.2.at_ r63301.2.seed) 2).bind fun r63701 => gd ((s56268.length + ([(impl_RingAct.mk (ix ([4, 5] : List Int) r63301.1) r63701.1)] : List impl_RingAct).length) * 16 ≤ 140737488355328) ((some (r63701.2.at_, r63701.2.seed, (s56268 ++ ([(impl_RingAct.mk (ix ([4, 5] : List Int) r63301.1) r63701.1)] : List impl_RingAct)))))) else (some (r62325.2.at_, r62325.2.seed, s56268))) else (spec_l00Src_next (spec_l00Src.mk a0.code r62276.2.at_ r62276.2.seed) 40).bind fun r64248 => gd ((s56268.length + ([(impl_RingAct.mk 1 r64248.1)] : List impl_RingAct).length) * 16 ≤ 140737488355328) ((some (r64248.2.at_, r64248.2.seed, (s56268 ++ ([(impl_RingAct.mk 1 r64248.1)] : List impl_RingAct)))))))) : Option (Int × Int × (List impl_RingAct))).bind fun (s62273 : (Int × Int × (List impl_RingAct))) => spec_l00Src_ringActs_l1 F a0 k s62273.1 s62273.2.1 s62273.2.2 (IntKind.wrap .i64 (s56273 - 1)) else (some (s56265, s56266, s56268)))
def spec_l00Src_ringActs (F : Nat) (a0 : spec_l00Src) : Option ((List impl_RingAct) × spec_l00Src) := ((spec_l00Src_size a0 40).bind fun r48275 => (spec_l00Src_next a0 (IntKind.wrap .i64 (r48275 + 4))).bind fun r48278 => spec_l00Src_ringActs_l1 F a0 F r48278.2.at_ r48278.2.seed ([] : List impl_RingAct) r48278.1 : Option (Int × Int × (List impl_RingAct))).bind fun (s48272 : (Int × Int × (List impl_RingAct))) => (some (s48272.2.2, (spec_l00Src.mk a0.code s48272.1 s48272.2.1)))
set_option maxHeartbeats 400000 in
set_option maxRecDepth 100000 in
theorem spec_l00Src_ringActs_ok (F : Nat) {w0 w : World} {hR hF : Hp} {v0x0 : Value} {g0 T0 o0 : Nat} {fr0 : Nat × Nat} {pre0 post0 : List Value} (a0 : spec_l00Src) {r : ((List impl_RingAct) × spec_l00Src)} (H0x0 : RdF w0 (FK.int .u8) v0x0 a0.code hR) (hs : Sub hR hF) (hp0 : pre0.length = o0) (hm : Mem w0 w (cat [sg g0 T0 fr0 pre0 [v0x0, (.int .i64 a0.at_), (.int .i64 a0.seed)] post0, hF])) (he : spec_l00Src_ringActs F a0 = some r) :
    Calls Try.prog 73 #[(.pointer (some ⟨g0, o0, none⟩))] w (fun e w' => ∃ (v'0 : Value) (h'0 : Hp), e = .returned v'0 ∧ OwF 74 impl_RingAct.K v'0 r.1 h'0 ∧ Mem w0 w' (cat [sg g0 T0 fr0 pre0 [v0x0, (.int .i64 r.2.at_), (.int .i64 r.2.seed)] post0, h'0, hF])) := by
 refine calls_fr (n := 62) Try.func73 rfl rfl rfl ?_
 unfold spec_l00Src_ringActs at he
 refine wp_seq ?_
 refine wp_region_lit ?_
 refine s_val (v := (.slice none 0 0)) (won rfl) rfl rfl (x_assign rfl rfl) ?_
 refine wpList_nil ?_
 refine nx ?_
 refine wp_seq ?_
 refine wp_region_lit ?_
 refine s_exv (won rfl) rfl rfl (e_litp (cells := []) (ps := []) rfl slt_62 (pmap_lit pmap_nil) (fun w1 => run_bslice0 slt_62) hm) ?_
 rintro g32270 w32268 hm32269
 have H32271 : OwF 74 impl_RingAct.K (.slice (some ⟨g32270, 0, none⟩) 0 0) ([] : List impl_RingAct) (sg g32270 74 (0, 0) [] (encs impl_RingAct.K ([] : List impl_RingAct)) []) := OwF.lit g32270 ([] : List impl_RingAct) 0 rfl (by decide)
 replace hm32269 : Mem w0 w32268 (cat [(sg g32270 74 (0, 0) [] (encs impl_RingAct.K ([] : List impl_RingAct)) []), sg g0 T0 fr0 pre0 [v0x0, (.int .i64 a0.at_), (.int .i64 a0.seed)] post0, hF]) := hm32269
 refine s_val (v := (.slice (some ⟨g32270, 0, none⟩) 0 0)) (won rfl) rfl rfl (x_assign rfl (ev (t := 5) rfl rfl)) ?_
 refine wpList_nil ?_
 refine nx ?_
 obtain ⟨s48272, hT48274, hk48273⟩ := bindE he
 replace he := hT48274
 refine wp_seqJ (fun a w => ∃ (v48268 : Value) (h48269 : Hp) (f : Nat → Value), a = fr 62 f ∧ f 3 = v48268 ∧ OwF 74 impl_RingAct.K v48268 s48272.2.2 h48269 ∧ Mem w0 w (cat [sg g0 T0 fr0 pre0 [v0x0, (.int .i64 s48272.1), (.int .i64 s48272.2.1)] post0, h48269, hF])) ?_ ?_
 ·
  refine wp_seq ?_
  obtain ⟨r48275, hr48275, he⟩ := bindE he
  obtain ⟨r48278, hr48278, he⟩ := bindE he
  refine wp_region_lit ?_
  refine s_val (v := (.pointer (some ⟨g0, o0, none⟩))) (won rfl) rfl rfl (x_move rfl (ev (t := 0) rfl rfl)) ?_
  refine s_val (v := (.pointer (some ⟨g0, o0, none⟩))) (won rfl) rfl rfl (x_move rfl (ev (t := 0) rfl rfl)) ?_
  refine s_call (won rfl) rfl rfl (x_call rfl rfl cl_84 (map_lit (map_cons (ev (t := 7) rfl rfl) (map_cons rfl map_nil)))) (spec_l00Src_size_ok (hR := (cat [hR])) (hF := cat [(sg g32270 74 (0, 0) [] (encs impl_RingAct.K ([] : List impl_RingAct)) []), hF]) a0 40 (H0x0.mono (Sub.at_ (k := 0) rfl)) (subc (Sub.trans hs (Sub.at_ (k := 1) rfl)) subn) hp0 (Mem.grp [sg g0 T0 fr0 pre0 [v0x0, (.int .i64 a0.at_), (.int .i64 a0.seed)] post0] [(sg g32270 74 (0, 0) [] (encs impl_RingAct.K ([] : List impl_RingAct)) []), hF] (Mem.pick [1, 0, 2] rfl hm32269)) hr48275) ?_
  rintro e w48276 ⟨rfl, hm48277⟩
  refine ⟨_, rfl, ?_⟩
  replace hm48277 : Mem w0 w48276 (cat [sg g0 T0 fr0 pre0 [v0x0, (.int .i64 a0.at_), (.int .i64 a0.seed)] post0, (sg g32270 74 (0, 0) [] (encs impl_RingAct.K ([] : List impl_RingAct)) []), hF]) := Mem.ung [sg g0 T0 fr0 pre0 [v0x0, (.int .i64 a0.at_), (.int .i64 a0.seed)] post0] [(sg g32270 74 (0, 0) [] (encs impl_RingAct.K ([] : List impl_RingAct)) []), hF] hm48277
  refine s_val (v := (.int .i64 (IntKind.wrap .i64 (r48275 + 4)))) (won rfl) rfl rfl (x_add rfl (ev (t := 8) rfl rfl) rfl) ?_
  refine s_call (won rfl) rfl rfl (x_call rfl rfl cl_83 (map_lit (map_cons (ev (t := 6) rfl rfl) (map_cons (ev (t := 9) rfl rfl) map_nil)))) (spec_l00Src_next_ok (hR := (cat [hR])) (hF := cat [(sg g32270 74 (0, 0) [] (encs impl_RingAct.K ([] : List impl_RingAct)) []), hF]) a0 (IntKind.wrap .i64 (r48275 + 4)) (H0x0.mono (Sub.at_ (k := 0) rfl)) (subc (Sub.trans hs (Sub.at_ (k := 1) rfl)) subn) hp0 (Mem.grp [sg g0 T0 fr0 pre0 [v0x0, (.int .i64 a0.at_), (.int .i64 a0.seed)] post0] [(sg g32270 74 (0, 0) [] (encs impl_RingAct.K ([] : List impl_RingAct)) []), hF] (Mem.pick [0, 1, 2] rfl hm48277)) hr48278) ?_
  rintro e w48279 ⟨rfl, hm48280⟩
  refine ⟨_, rfl, ?_⟩
  replace hm48280 : Mem w0 w48279 (cat [sg g0 T0 fr0 pre0 [v0x0, (.int .i64 r48278.2.at_), (.int .i64 r48278.2.seed)] post0, (sg g32270 74 (0, 0) [] (encs impl_RingAct.K ([] : List impl_RingAct)) []), hF]) := Mem.ung [sg g0 T0 fr0 pre0 [v0x0, (.int .i64 r48278.2.at_), (.int .i64 r48278.2.seed)] post0] [(sg g32270 74 (0, 0) [] (encs impl_RingAct.K ([] : List impl_RingAct)) []), hF] hm48280
  refine s_val (v := (.int .i64 r48278.1)) (won rfl) rfl rfl (x_assign rfl (ev (t := 10) rfl rfl)) ?_
  refine wpList_nil ?_
  refine nx ?_
  refine wp_block ?_
  refine wp_fuel (I := fun k => fun a w => ∃ (s56265 : Int) (s56266 : Int) (s56268 : (List impl_RingAct)) (s56273 : Int) (v56269 : Value) (h56270 : Hp) (f : Nat → Value), spec_l00Src_ringActs_l1 F a0 k s56265 s56266 s56268 s56273 = some s48272 ∧ a = fr 62 f ∧ f 0 = (.pointer (some ⟨g0, o0, none⟩)) ∧ f 3 = v56269 ∧ f 4 = (.int .i64 s56273) ∧ OwF 74 impl_RingAct.K v56269 s56268 h56270 ∧ Mem w0 w (cat [sg g0 T0 fr0 pre0 [v0x0, (.int .i64 s56265), (.int .i64 s56266)] post0, h56270, hF])) F _ _ ⟨r48278.2.at_, r48278.2.seed, ([] : List impl_RingAct), r48278.1, (.slice (some ⟨g32270, 0, none⟩) 0 0), (sg g32270 74 (0, 0) [] (encs impl_RingAct.K ([] : List impl_RingAct)) []), _, he, rfl, rfl, rfl, rfl, H32271, Mem.pick [0, 1, 2] rfl hm48280⟩ ?_ ?_
  ·
   rintro a w ⟨s56265, s56266, s56268, s56273, v56269, h56270, f, he, rfl, q56267, q56272, q56274, H56271, hm60266⟩
   rw [spec_l00Src_ringActs_l1] at he; exact none_no he
  ·
   rintro k a w ⟨s56265, s56266, s56268, s56273, v56269, h56270, f, he, rfl, q56267, q56272, q56274, H56271, hm60268⟩
   rw [spec_l00Src_ringActs_l1] at he
   refine wp_seq ?_
   refine wp_seq ?_
   refine wp_region_lit ?_
   refine s_val (v := (.int .i64 s56273)) (won rfl) rfl rfl (x_move rfl (ev (t := 4) (v := (.int .i64 s56273)) rfl q56274)) ?_
   refine s_val (v := (.bool (decide ((0 : Int) < s56273)))) (won rfl) rfl rfl (x_gtr rfl (ev (t := 11) rfl rfl) rfl) ?_
   refine s_val (v := (.bool (decide ((0 : Int) < s56273)))) (won rfl) rfl rfl (x_move rfl (ev (t := 12) rfl rfl)) ?_
   refine s_cval (p := (decide ((0 : Int) < s56273))) (v := v56269) (won_t (j := 2) (t := 13) (q := (decide ((0 : Int) < s56273))) rfl rfl rfl rfl rfl) rfl rfl (fun hp => (x_move rfl (ev (t := 3) (v := v56269) rfl q56272))) ?_
   refine s_cval (p := (decide ((0 : Int) < s56273))) (v := (.int .i64 (s56268.length : Int))) (won_t (j := 2) (t := 13) (q := (decide ((0 : Int) < s56273))) rfl rfl rfl rfl rfl) rfl rfl (fun hp => (x_len rfl slt_62 (ev (t := 14) rfl (Eq.trans (b := cv (decide ((0 : Int) < s56273)) v56269) rfl (on_c hp))) (H56271).sl)) ?_
   refine s_cval (p := (decide ((0 : Int) < s56273))) (v := (.bool (decide ((s56268.length : Int) < 300)))) (won_t (j := 2) (t := 13) (q := (decide ((0 : Int) < s56273))) rfl rfl rfl rfl rfl) rfl rfl (fun hp => (x_lss rfl (ev (t := 15) rfl (Eq.trans (b := cv (decide ((0 : Int) < s56273)) (.int .i64 (s56268.length : Int))) rfl (on_c hp))) rfl)) ?_
   refine s_val (v := (.bool ((decide ((0 : Int) < s56273)) && (decide ((s56268.length : Int) < 300))))) (won rfl) rfl rfl (x_pick_and rfl (ev (t := 13) rfl rfl) (fun hq => ev rfl (Eq.trans (b := cv (decide ((0 : Int) < s56273)) (.bool (decide ((s56268.length : Int) < 300)))) rfl (on_c hq))) rfl) ?_
   refine wpList_nil ?_
   refine nx ?_
   rcases Bool.eq_false_or_eq_true (((decide ((0 : Int) < s56273)) && (decide ((s56268.length : Int) < 300)))) with hb60270 | hb60270
   ·
    replace he := bifT he hb60270
    refine c_true rfl (p := ((decide ((0 : Int) < s56273)) && (decide ((s56268.length : Int) < 300)))) rfl rfl hb60270 ?_
    refine wp_skip ?_
    refine nx ?_
    obtain ⟨s62273, hT62275, hk62274⟩ := bindE he
    replace he := hT62275
    refine wp_seqJ (fun a w => ∃ (v62268 : Value) (h62269 : Hp) (f : Nat → Value), a = fr 62 f ∧ f 0 = (.pointer (some ⟨g0, o0, none⟩)) ∧ f 3 = v62268 ∧ f 4 = (.int .i64 s56273) ∧ OwF 74 impl_RingAct.K v62268 s62273.2.2 h62269 ∧ Mem w0 w (cat [sg g0 T0 fr0 pre0 [v0x0, (.int .i64 s62273.1), (.int .i64 s62273.2.1)] post0, h62269, hF])) ?_ ?_
    ·
     refine wp_block ?_
     refine wp_seq ?_
     obtain ⟨r62276, hr62276, he⟩ := bindE he
     refine wp_region_lit ?_
     refine s_val (v := (.pointer (some ⟨g0, o0, none⟩))) (won rfl) rfl rfl (x_move rfl (ev (t := 0) (v := (.pointer (some ⟨g0, o0, none⟩))) rfl q56267)) ?_
     refine s_call (won rfl) rfl rfl (x_call rfl rfl cl_83 (map_lit (map_cons (ev (t := 20) rfl rfl) (map_cons rfl map_nil)))) (spec_l00Src_next_ok (hR := (cat [hR])) (hF := cat [h56270, hF]) (spec_l00Src.mk a0.code s56265 s56266) 7 (H0x0.mono (Sub.at_ (k := 0) rfl)) (subc (Sub.trans hs (Sub.at_ (k := 1) rfl)) subn) hp0 (Mem.grp [sg g0 T0 fr0 pre0 [v0x0, (.int .i64 s56265), (.int .i64 s56266)] post0] [h56270, hF] (Mem.pick [0, 1, 2] rfl hm60268)) hr62276) ?_
     rintro e w62277 ⟨rfl, hm62278⟩
     refine ⟨_, rfl, ?_⟩
     replace hm62278 : Mem w0 w62277 (cat [sg g0 T0 fr0 pre0 [v0x0, (.int .i64 r62276.2.at_), (.int .i64 r62276.2.seed)] post0, h56270, hF]) := Mem.ung [sg g0 T0 fr0 pre0 [v0x0, (.int .i64 r62276.2.at_), (.int .i64 r62276.2.seed)] post0] [h56270, hF] hm62278
     refine wpList_nil ?_
     refine nx ?_
     refine wp_block ?_
     obtain ⟨s62286, hT62288, hk62287⟩ := bindE he
     replace he := hT62288
     refine wp_seqJ (fun a w => ∃ (f : Nat → Value), a = fr 62 f ∧ f 0 = (.pointer (some ⟨g0, o0, none⟩)) ∧ f 3 = v56269 ∧ f 4 = (.int .i64 s56273) ∧ f 21 = (.int .i64 r62276.1) ∧ f 28 = (.bool s62286) ∧ Mem w0 w (cat [sg g0 T0 fr0 pre0 [v0x0, (.int .i64 r62276.2.at_), (.int .i64 r62276.2.seed)] post0, h56270, hF])) ?_ ?_
     ·
      refine wp_seq ?_
      refine wp_region_lit ?_
      refine s_val (v := (.bool (decide (r62276.1 = 0)))) (won rfl) rfl rfl (x_eql rfl (ev (t := 21) rfl rfl) rfl) ?_
      refine s_val (v := (.bool (decide (r62276.1 = 0)))) (won rfl) rfl rfl (x_assign rfl (ev (t := 29) rfl rfl)) ?_
      refine wpList_nil ?_
      refine nx ?_
      rcases Bool.eq_false_or_eq_true ((decide (r62276.1 = 0))) with hb62289 | hb62289
      ·
       replace he := bifT he hb62289
       refine c_true rfl (p := (decide (r62276.1 = 0))) rfl rfl hb62289 ?_
       refine wp_skip ?_
       refine nx ?_
       obtain rfl := Option.some.inj he
       exact ⟨_, rfl, q56267, q56272, q56274, rfl, rfl, Mem.pick [0, 1, 2] rfl hm62278⟩
      ·
       replace he := bifF he hb62289
       refine c_false rfl (p := (decide (r62276.1 = 0))) rfl rfl hb62289 ?_
       refine wp_region_lit ?_
       refine s_val (v := (.bool (decide (r62276.1 = 1)))) (won rfl) rfl rfl (x_eql rfl (ev (t := 21) rfl rfl) rfl) ?_
       refine s_val (v := (.bool (decide (r62276.1 = 1)))) (won rfl) rfl rfl (x_assign rfl (ev (t := 30) rfl rfl)) ?_
       refine wpList_nil ?_
       refine nx ?_
       obtain rfl := Option.some.inj he
       exact ⟨_, rfl, q56267, q56272, q56274, rfl, rfl, Mem.pick [0, 1, 2] rfl hm62278⟩
     ·
      rintro a w ⟨f, rfl, q62280, q62281, q62282, q62283, q62285, hm62291⟩
      replace he := hk62287
      rcases Bool.eq_false_or_eq_true (s62286) with hb62292 | hb62292
      ·
       replace he := bifT he hb62292
       refine c_true rfl (p := s62286) rfl q62285 hb62292 ?_
       obtain ⟨r62293, hr62293, he⟩ := bindE he
       obtain ⟨hg62301, he⟩ := gdE he
       refine wp_region_lit ?_
       refine s_val (v := v56269) (won rfl) rfl rfl (x_move rfl (ev (t := 3) (v := v56269) rfl q62281)) ?_
       refine s_val (v := (.pointer (some ⟨g0, o0, none⟩))) (won rfl) rfl rfl (x_move rfl (ev (t := 0) (v := (.pointer (some ⟨g0, o0, none⟩))) rfl q62280)) ?_
       refine s_call (won rfl) rfl rfl (x_call rfl rfl cl_83 (map_lit (map_cons (ev (t := 32) rfl rfl) (map_cons rfl map_nil)))) (spec_l00Src_next_ok (hR := (cat [hR])) (hF := cat [h56270, hF]) (spec_l00Src.mk a0.code r62276.2.at_ r62276.2.seed) 5 (H0x0.mono (Sub.at_ (k := 0) rfl)) (subc (Sub.trans hs (Sub.at_ (k := 1) rfl)) subn) hp0 (Mem.grp [sg g0 T0 fr0 pre0 [v0x0, (.int .i64 r62276.2.at_), (.int .i64 r62276.2.seed)] post0] [h56270, hF] (Mem.pick [0, 1, 2] rfl hm62291)) hr62293) ?_
       rintro e w62294 ⟨rfl, hm62295⟩
       refine ⟨_, rfl, ?_⟩
       replace hm62295 : Mem w0 w62294 (cat [sg g0 T0 fr0 pre0 [v0x0, (.int .i64 r62293.2.at_), (.int .i64 r62293.2.seed)] post0, h56270, hF]) := Mem.ung [sg g0 T0 fr0 pre0 [v0x0, (.int .i64 r62293.2.at_), (.int .i64 r62293.2.seed)] post0] [h56270, hF] hm62295
       refine s_val (v := (.agg #[(.int .i64 2), (.int .i64 r62293.1)])) (won rfl) rfl rfl (x_build (cells := [(.int .i64 2), (.int .i64 r62293.1)]) (zc := [.int .i64 0, .int .i64 0]) (sizes := [(0, 1), (1, 1)]) (ps := [(0, (.int .i64 2)), (1, (.int .i64 r62293.1))]) rfl zt_74 rfl uf_74 ufz_74 (pmap_lit (pmap_cons rfl (pmap_cons (ev (t := 33) rfl rfl) pmap_nil))) (fill_cons (cs := [(.int .i64 2)]) rfl rfl rfl (fill_cons (cs := [(.int .i64 r62293.1)]) rfl rfl rfl fill_nil))) ?_
       refine s_exv (won rfl) rfl rfl (e_litp (cells := [(.int .i64 2), (.int .i64 r62293.1)]) (ps := [(0, (.agg #[(.int .i64 2), (.int .i64 r62293.1)]))]) rfl slt_62 (pmap_lit (pmap_cons (ev (t := 34) rfl rfl) pmap_nil)) (fun w1 => run_bslicez (cells := [(.int .i64 2), (.int .i64 r62293.1)]) (zs := [.int .i64 0, .int .i64 0]) (zc := [.int .i64 0, .int .i64 0]) slt_62 rfl rfl (by kernel_rfl) (fill_cons (cs := [(.int .i64 2), (.int .i64 r62293.1)]) rfl rfl rfl fill_nil) (by decide)) hm62295) ?_
       rintro g62298 w62296 hm62297
       have H62299 : OwF 74 impl_RingAct.K (.slice (some ⟨g62298, 0, none⟩) 1 1) ([(impl_RingAct.mk 2 r62293.1)] : List impl_RingAct) (sg g62298 74 (0, 0) [] (encs impl_RingAct.K ([(impl_RingAct.mk 2 r62293.1)] : List impl_RingAct)) []) := OwF.lit g62298 ([(impl_RingAct.mk 2 r62293.1)] : List impl_RingAct) 1 rfl (by decide)
       replace hm62297 : Mem w0 w62296 (cat [(sg g62298 74 (0, 0) [] (encs impl_RingAct.K ([(impl_RingAct.mk 2 r62293.1)] : List impl_RingAct)) []), sg g0 T0 fr0 pre0 [v0x0, (.int .i64 r62293.2.at_), (.int .i64 r62293.2.seed)] post0, h56270, hF]) := hm62297
       refine s_exv (won rfl) rfl rfl (e_append (bytes := 16) rfl slt_62 rfl (ev (t := 31) rfl rfl) (ev (t := 35) rfl rfl) H56271 (k := 2) rfl (H62299.rd w0) (Sub.at_ (k := 0) rfl) hm62297 hg62301 (len63 hg62301 rfl)) ?_
       rintro p62303 w62305 ⟨H62304, hm62306⟩
       replace hm62306 : Mem w0 w62305 (cat [(sg g62298 74 (0, 0) [] (encs impl_RingAct.K ([(impl_RingAct.mk 2 r62293.1)] : List impl_RingAct)) []), sg g0 T0 fr0 pre0 [v0x0, (.int .i64 r62293.2.at_), (.int .i64 r62293.2.seed)] post0, p62303.2, hF]) := hm62306
       refine s_val (v := p62303.1) (won rfl) rfl rfl (x_assign rfl (ev (t := 36) rfl rfl)) ?_
       refine wpList_nil ?_
       have hm62307 : Mem w0 w62305 (cat [sg g0 T0 fr0 pre0 [v0x0, (.int .i64 r62293.2.at_), (.int .i64 r62293.2.seed)] post0, p62303.2, hF]) := Mem.pick [1, 2, 3] rfl hm62306
       refine nb ?_
       refine nb ?_
       refine nx ?_
       obtain rfl := Option.some.inj he
       exact ⟨p62303.1, p62303.2, _, rfl, q62280, rfl, q62282, H62304, Mem.pick [0, 1, 2] rfl hm62307⟩
      ·
       replace he := bifF he hb62292
       refine c_false rfl (p := s62286) rfl q62285 hb62292 ?_
       refine wp_seq ?_
       refine wp_region_lit ?_
       refine s_val (v := (.bool (decide (r62276.1 = 2)))) (won rfl) rfl rfl (x_eql rfl (ev (t := 21) (v := (.int .i64 r62276.1)) rfl q62283) rfl) ?_
       refine s_val (v := (.bool (decide (r62276.1 = 2)))) (won rfl) rfl rfl (x_assign rfl (ev (t := 38) rfl rfl)) ?_
       refine wpList_nil ?_
       refine nx ?_
       rcases Bool.eq_false_or_eq_true ((decide (r62276.1 = 2))) with hb62308 | hb62308
       ·
        replace he := bifT he hb62308
        refine c_true rfl (p := (decide (r62276.1 = 2))) rfl rfl hb62308 ?_
        obtain ⟨r62309, hr62309, he⟩ := bindE he
        obtain ⟨hg62317, he⟩ := gdE he
        refine wp_region_lit ?_
        refine s_val (v := v56269) (won rfl) rfl rfl (x_move rfl (ev (t := 3) (v := v56269) rfl q62281)) ?_
        refine s_val (v := (.pointer (some ⟨g0, o0, none⟩))) (won rfl) rfl rfl (x_move rfl (ev (t := 0) (v := (.pointer (some ⟨g0, o0, none⟩))) rfl q62280)) ?_
        refine s_call (won rfl) rfl rfl (x_call rfl rfl cl_83 (map_lit (map_cons (ev (t := 40) rfl rfl) (map_cons rfl map_nil)))) (spec_l00Src_next_ok (hR := (cat [hR])) (hF := cat [h56270, hF]) (spec_l00Src.mk a0.code r62276.2.at_ r62276.2.seed) 5 (H0x0.mono (Sub.at_ (k := 0) rfl)) (subc (Sub.trans hs (Sub.at_ (k := 1) rfl)) subn) hp0 (Mem.grp [sg g0 T0 fr0 pre0 [v0x0, (.int .i64 r62276.2.at_), (.int .i64 r62276.2.seed)] post0] [h56270, hF] (Mem.pick [0, 1, 2] rfl hm62291)) hr62309) ?_
        rintro e w62310 ⟨rfl, hm62311⟩
        refine ⟨_, rfl, ?_⟩
        replace hm62311 : Mem w0 w62310 (cat [sg g0 T0 fr0 pre0 [v0x0, (.int .i64 r62309.2.at_), (.int .i64 r62309.2.seed)] post0, h56270, hF]) := Mem.ung [sg g0 T0 fr0 pre0 [v0x0, (.int .i64 r62309.2.at_), (.int .i64 r62309.2.seed)] post0] [h56270, hF] hm62311
        refine s_val (v := (.int .i64 (IntKind.wrap .i64 (1 + r62309.1)))) (won rfl) rfl rfl (x_add rfl rfl (ev (t := 41) rfl rfl)) ?_
        refine s_val (v := (.agg #[(.int .i64 3), (.int .i64 (IntKind.wrap .i64 (1 + r62309.1)))])) (won rfl) rfl rfl (x_build (cells := [(.int .i64 3), (.int .i64 (IntKind.wrap .i64 (1 + r62309.1)))]) (zc := [.int .i64 0, .int .i64 0]) (sizes := [(0, 1), (1, 1)]) (ps := [(0, (.int .i64 3)), (1, (.int .i64 (IntKind.wrap .i64 (1 + r62309.1))))]) rfl zt_74 rfl uf_74 ufz_74 (pmap_lit (pmap_cons rfl (pmap_cons (ev (t := 42) rfl rfl) pmap_nil))) (fill_cons (cs := [(.int .i64 3)]) rfl rfl rfl (fill_cons (cs := [(.int .i64 (IntKind.wrap .i64 (1 + r62309.1)))]) rfl rfl rfl fill_nil))) ?_
        refine s_exv (won rfl) rfl rfl (e_litp (cells := [(.int .i64 3), (.int .i64 (IntKind.wrap .i64 (1 + r62309.1)))]) (ps := [(0, (.agg #[(.int .i64 3), (.int .i64 (IntKind.wrap .i64 (1 + r62309.1)))]))]) rfl slt_62 (pmap_lit (pmap_cons (ev (t := 43) rfl rfl) pmap_nil)) (fun w1 => run_bslicez (cells := [(.int .i64 3), (.int .i64 (IntKind.wrap .i64 (1 + r62309.1)))]) (zs := [.int .i64 0, .int .i64 0]) (zc := [.int .i64 0, .int .i64 0]) slt_62 rfl rfl (by kernel_rfl) (fill_cons (cs := [(.int .i64 3), (.int .i64 (IntKind.wrap .i64 (1 + r62309.1)))]) rfl rfl rfl fill_nil) (by decide)) hm62311) ?_
        rintro g62314 w62312 hm62313
        have H62315 : OwF 74 impl_RingAct.K (.slice (some ⟨g62314, 0, none⟩) 1 1) ([(impl_RingAct.mk 3 (IntKind.wrap .i64 (1 + r62309.1)))] : List impl_RingAct) (sg g62314 74 (0, 0) [] (encs impl_RingAct.K ([(impl_RingAct.mk 3 (IntKind.wrap .i64 (1 + r62309.1)))] : List impl_RingAct)) []) := OwF.lit g62314 ([(impl_RingAct.mk 3 (IntKind.wrap .i64 (1 + r62309.1)))] : List impl_RingAct) 1 rfl (by decide)
        replace hm62313 : Mem w0 w62312 (cat [(sg g62314 74 (0, 0) [] (encs impl_RingAct.K ([(impl_RingAct.mk 3 (IntKind.wrap .i64 (1 + r62309.1)))] : List impl_RingAct)) []), sg g0 T0 fr0 pre0 [v0x0, (.int .i64 r62309.2.at_), (.int .i64 r62309.2.seed)] post0, h56270, hF]) := hm62313
        refine s_exv (won rfl) rfl rfl (e_append (bytes := 16) rfl slt_62 rfl (ev (t := 39) rfl rfl) (ev (t := 44) rfl rfl) H56271 (k := 2) rfl (H62315.rd w0) (Sub.at_ (k := 0) rfl) hm62313 hg62317 (len63 hg62317 rfl)) ?_
        rintro p62319 w62321 ⟨H62320, hm62322⟩
        replace hm62322 : Mem w0 w62321 (cat [(sg g62314 74 (0, 0) [] (encs impl_RingAct.K ([(impl_RingAct.mk 3 (IntKind.wrap .i64 (1 + r62309.1)))] : List impl_RingAct)) []), sg g0 T0 fr0 pre0 [v0x0, (.int .i64 r62309.2.at_), (.int .i64 r62309.2.seed)] post0, p62319.2, hF]) := hm62322
        refine s_val (v := p62319.1) (won rfl) rfl rfl (x_assign rfl (ev (t := 45) rfl rfl)) ?_
        refine wpList_nil ?_
        have hm62323 : Mem w0 w62321 (cat [sg g0 T0 fr0 pre0 [v0x0, (.int .i64 r62309.2.at_), (.int .i64 r62309.2.seed)] post0, p62319.2, hF]) := Mem.pick [1, 2, 3] rfl hm62322
        refine nb ?_
        refine nb ?_
        refine nx ?_
        obtain rfl := Option.some.inj he
        exact ⟨p62319.1, p62319.2, _, rfl, q62280, rfl, q62282, H62320, Mem.pick [0, 1, 2] rfl hm62323⟩
       ·
        replace he := bifF he hb62308
        refine c_false rfl (p := (decide (r62276.1 = 2))) rfl rfl hb62308 ?_
        refine wp_seq ?_
        refine wp_region_lit ?_
        refine s_val (v := (.bool (decide (r62276.1 = 3)))) (won rfl) rfl rfl (x_eql rfl (ev (t := 21) (v := (.int .i64 r62276.1)) rfl q62283) rfl) ?_
        refine s_val (v := (.bool (decide (r62276.1 = 3)))) (won rfl) rfl rfl (x_assign rfl (ev (t := 47) rfl rfl)) ?_
        refine wpList_nil ?_
        refine nx ?_
        rcases Bool.eq_false_or_eq_true ((decide (r62276.1 = 3))) with hb62324 | hb62324
        ·
         replace he := bifT he hb62324
         refine c_true rfl (p := (decide (r62276.1 = 3))) rfl rfl hb62324 ?_
         refine wp_seq ?_
         obtain ⟨r62325, hr62325, he⟩ := bindE he
         refine wp_region_lit ?_
         refine s_val (v := (.pointer (some ⟨g0, o0, none⟩))) (won rfl) rfl rfl (x_move rfl (ev (t := 0) (v := (.pointer (some ⟨g0, o0, none⟩))) rfl q62280)) ?_
         refine s_call (won rfl) rfl rfl (x_call rfl rfl cl_89 (map_lit (map_cons (ev (t := 48) rfl rfl) (map_cons rfl map_nil)))) (spec_l00Src_chance_ok (hR := (cat [hR])) (hF := cat [h56270, hF]) (spec_l00Src.mk a0.code r62276.2.at_ r62276.2.seed) 3 (H0x0.mono (Sub.at_ (k := 0) rfl)) (subc (Sub.trans hs (Sub.at_ (k := 1) rfl)) subn) hp0 (Mem.grp [sg g0 T0 fr0 pre0 [v0x0, (.int .i64 r62276.2.at_), (.int .i64 r62276.2.seed)] post0] [h56270, hF] (Mem.pick [0, 1, 2] rfl hm62291)) hr62325) ?_
         rintro e w62326 ⟨rfl, hm62327⟩
         refine ⟨_, rfl, ?_⟩
         replace hm62327 : Mem w0 w62326 (cat [sg g0 T0 fr0 pre0 [v0x0, (.int .i64 r62325.2.at_), (.int .i64 r62325.2.seed)] post0, h56270, hF]) := Mem.ung [sg g0 T0 fr0 pre0 [v0x0, (.int .i64 r62325.2.at_), (.int .i64 r62325.2.seed)] post0] [h56270, hF] hm62327
         refine wpList_nil ?_
         refine nx ?_
         rcases Bool.eq_false_or_eq_true (r62325.1) with hb62328 | hb62328
         ·
          replace he := bifT he hb62328
          refine c_true rfl (p := r62325.1) rfl rfl hb62328 ?_
          obtain ⟨r63301, hr63301, he⟩ := bindE he
          obtain ⟨hg63401, he⟩ := gdE he
          obtain ⟨r63701, hr63701, he⟩ := bindE he
          obtain ⟨hg64001, he⟩ := gdE he
          refine wp_drawF (I := fun f b a w => ∃ (vs : Nat → Value) (g63103 : Nat) (g63903 : Nat) (p64003 : Value × Hp), a = fr 62 (sel b [(0, 50), (1, 51), (2, 52), (3, 53), (4, 54), (5, 55), (6, 56), (7, 57), (8, 58), (9, 59), (10, 60), (11, 3)] vs f) ∧ (b 0 = true → vs 0 = v56269) ∧ (b 1 = true → vs 1 = (.slice (some ⟨g63103, 0, none⟩) 2 2)) ∧ (b 2 = true → vs 2 = (.pointer (some ⟨g0, o0, none⟩))) ∧ (b 3 = true → vs 3 = (.int .i64 r63301.1)) ∧ (b 4 = true → vs 4 = (.pointer (some ((slA (.slice (some ⟨g63103, 0, none⟩) 2 2)).add (Int.toNat r63301.1 * 1))))) ∧ (b 5 = true → vs 5 = (.int .i64 (ix ([4, 5] : List Int) r63301.1))) ∧ (b 6 = true → vs 6 = (.pointer (some ⟨g0, o0, none⟩))) ∧ (b 7 = true → vs 7 = (.int .i64 r63701.1)) ∧ (b 8 = true → vs 8 = (.agg #[(.int .i64 (ix ([4, 5] : List Int) r63301.1)), (.int .i64 r63701.1)])) ∧ (b 9 = true → vs 9 = (.slice (some ⟨g63903, 0, none⟩) 1 1)) ∧ (b 10 = true → vs 10 = p64003.1) ∧ (b 11 = true → vs 11 = p64003.1) ∧ (b 1 = true → OwF 3 (FK.int .i64) (.slice (some ⟨g63103, 0, none⟩) 2 2) ([4, 5] : List Int) (sg g63103 3 (0, 0) [] (encs (FK.int .i64) ([4, 5] : List Int)) [])) ∧ (b 9 = true → OwF 74 impl_RingAct.K (.slice (some ⟨g63903, 0, none⟩) 1 1) ([(impl_RingAct.mk (ix ([4, 5] : List Int) r63301.1) r63701.1)] : List impl_RingAct) (sg g63903 74 (0, 0) [] (encs impl_RingAct.K ([(impl_RingAct.mk (ix ([4, 5] : List Int) r63301.1) r63701.1)] : List impl_RingAct)) [])) ∧ (b 10 = true → OwF 74 impl_RingAct.K p64003.1 (s56268 ++ ([(impl_RingAct.mk (ix ([4, 5] : List Int) r63301.1) r63701.1)] : List impl_RingAct)) p64003.2) ∧ Mem w0 w (cat [(bif b 7 then sg g0 T0 fr0 pre0 [v0x0, (.int .i64 r63701.2.at_), (.int .i64 r63701.2.seed)] post0 else (bif b 3 then sg g0 T0 fr0 pre0 [v0x0, (.int .i64 r63301.2.at_), (.int .i64 r63301.2.seed)] post0 else sg g0 T0 fr0 pre0 [v0x0, (.int .i64 r62325.2.at_), (.int .i64 r62325.2.seed)] post0)), (bif b 10 then [] else h56270), hF, (bif b 1 then (sg g63103 3 (0, 0) [] (encs (FK.int .i64) ([4, 5] : List Int)) []) else []), (bif b 9 then (sg g63903 74 (0, 0) [] (encs impl_RingAct.K ([(impl_RingAct.mk (ix ([4, 5] : List Int) r63301.1) r63701.1)] : List impl_RingAct)) []) else []), (bif b 10 then p64003.2 else [])])) mixed (by kernel_rfl) ⟨fun _ => undef, 0, 0, (undef, []), (by rw [sel_false]), fun h => fno h, fun h => fno h, fun h => fno h, fun h => fno h, fun h => fno h, fun h => fno h, fun h => fno h, fun h => fno h, fun h => fno h, fun h => fno h, fun h => fno h, fun h => fno h, fun h => fno h, fun h => fno h, fun h => fno h, Mem.drew (Mem.pick [0, 1, 2, 1000, 1001, 1002] rfl hm62327)⟩ (steps_cons (i := 0) ?_ (steps_cons (i := 1) ?_ (steps_cons (i := 2) ?_ (steps_cons (i := 3) ?_ (steps_cons (i := 4) ?_ (steps_cons (i := 5) ?_ (steps_cons (i := 6) ?_ (steps_cons (i := 7) ?_ (steps_cons (i := 8) ?_ (steps_cons (i := 9) ?_ (steps_cons (i := 10) ?_ (steps_cons (i := 11) ?_ steps_nil)))))))))))) ?_
          ·
           intro b a w hI hbi hn hc K hK
           obtain ⟨vs, g63103, g63903, p64003, ha, y0, y1, y2, y3, y4, y5, y6, y7, y8, y9, y10, y11, H63104, H63904, H64004, hm⟩ := hI
           subst ha
           have b10 : b 10 = false := later (j := 10) hc rfl (i := 0) (da rfl) hbi
           have b11 : b 11 = false := later (j := 11) hc rfl (i := 0) (da rfl) hbi
           have hm64201 : Mem w0 w (cat [(bif b 7 then sg g0 T0 fr0 pre0 [v0x0, (.int .i64 r63701.2.at_), (.int .i64 r63701.2.seed)] post0 else (bif b 3 then sg g0 T0 fr0 pre0 [v0x0, (.int .i64 r63301.2.at_), (.int .i64 r63301.2.seed)] post0 else sg g0 T0 fr0 pre0 [v0x0, (.int .i64 r62325.2.at_), (.int .i64 r62325.2.seed)] post0)), h56270, hF, (bif b 1 then (sg g63103 3 (0, 0) [] (encs (FK.int .i64) ([4, 5] : List Int)) []) else []), (bif b 9 then (sg g63903 74 (0, 0) [] (encs impl_RingAct.K ([(impl_RingAct.mk (ix ([4, 5] : List Int) r63301.1) r63701.1)] : List impl_RingAct)) []) else [])]) := Mem.pick [0, 1, 2, 3, 4] rfl (Mem.cg (B := [(bif b 7 then sg g0 T0 fr0 pre0 [v0x0, (.int .i64 r63701.2.at_), (.int .i64 r63701.2.seed)] post0 else (bif b 3 then sg g0 T0 fr0 pre0 [v0x0, (.int .i64 r63301.2.at_), (.int .i64 r63301.2.seed)] post0 else sg g0 T0 fr0 pre0 [v0x0, (.int .i64 r62325.2.at_), (.int .i64 r62325.2.seed)] post0)), h56270, hF, (bif b 1 then (sg g63103 3 (0, 0) [] (encs (FK.int .i64) ([4, 5] : List Int)) []) else []), (bif b 9 then (sg g63903 74 (0, 0) [] (encs impl_RingAct.K ([(impl_RingAct.mk (ix ([4, 5] : List Int) r63301.1) r63701.1)] : List impl_RingAct)) []) else []), []]) (cat_cons rfl (cat_cons (off_ b10 rfl) (cat_cons rfl (cat_cons rfl (cat_cons rfl (cat_cons (off_ b10 rfl) rfl)))))) hm)
           refine e_val (i := 0) hbi rfl rfl (v := v56269) (won rfl) rfl rfl (x_move rfl (ev (t := 3) (v := v56269) rfl ((sel_off (p := (11, 3)) rfl b11).trans q62281))) ?_
           exact hK _ _ ⟨_, g63103, g63903, p64003, rfl, fun _ => rfl, y1, y2, y3, y4, y5, y6, y7, y8, y9, y10, y11, H63104, H63904, H64004, Mem.gc (A := [(bif b 7 then sg g0 T0 fr0 pre0 [v0x0, (.int .i64 r63701.2.at_), (.int .i64 r63701.2.seed)] post0 else (bif b 3 then sg g0 T0 fr0 pre0 [v0x0, (.int .i64 r63301.2.at_), (.int .i64 r63301.2.seed)] post0 else sg g0 T0 fr0 pre0 [v0x0, (.int .i64 r62325.2.at_), (.int .i64 r62325.2.seed)] post0)), h56270, hF, (bif b 1 then (sg g63103 3 (0, 0) [] (encs (FK.int .i64) ([4, 5] : List Int)) []) else []), (bif b 9 then (sg g63903 74 (0, 0) [] (encs impl_RingAct.K ([(impl_RingAct.mk (ix ([4, 5] : List Int) r63301.1) r63701.1)] : List impl_RingAct)) []) else []), []]) (cat_cons rfl (cat_cons (off_ b10 rfl) (cat_cons rfl (cat_cons rfl (cat_cons rfl (cat_cons (off_ b10 rfl) rfl)))))) (Mem.pick [0, 1, 2, 3, 4, 1005] rfl hm64201)⟩
          ·
           intro b a w hI hbi hn hc K hK
           obtain ⟨vs, g63103, g63903, p64003, ha, y0, y1, y2, y3, y4, y5, y6, y7, y8, y9, y10, y11, H63104, H63904, H64004, hm⟩ := hI
           subst ha
           have b4 : b 4 = false := later (j := 4) hc rfl (i := 1) (da rfl) hbi
           have b5 : b 5 = false := later (j := 5) hc rfl (i := 4) (da rfl) b4
           have b8 : b 8 = false := later (j := 8) hc rfl (i := 5) (da rfl) b5
           have b9 : b 9 = false := later (j := 9) hc rfl (i := 8) (da rfl) b8
           have b10 : b 10 = false := later (j := 10) hc rfl (i := 9) (da rfl) b9
           have b11 : b 11 = false := later (j := 11) hc rfl (i := 1) (da rfl) hbi
           have hm64204 : Mem w0 w (cat [(bif b 7 then sg g0 T0 fr0 pre0 [v0x0, (.int .i64 r63701.2.at_), (.int .i64 r63701.2.seed)] post0 else (bif b 3 then sg g0 T0 fr0 pre0 [v0x0, (.int .i64 r63301.2.at_), (.int .i64 r63301.2.seed)] post0 else sg g0 T0 fr0 pre0 [v0x0, (.int .i64 r62325.2.at_), (.int .i64 r62325.2.seed)] post0)), h56270, hF]) := Mem.pick [0, 1, 2] rfl (Mem.cg (B := [(bif b 7 then sg g0 T0 fr0 pre0 [v0x0, (.int .i64 r63701.2.at_), (.int .i64 r63701.2.seed)] post0 else (bif b 3 then sg g0 T0 fr0 pre0 [v0x0, (.int .i64 r63301.2.at_), (.int .i64 r63301.2.seed)] post0 else sg g0 T0 fr0 pre0 [v0x0, (.int .i64 r62325.2.at_), (.int .i64 r62325.2.seed)] post0)), h56270, hF, [], [], []]) (cat_cons rfl (cat_cons (off_ b10 rfl) (cat_cons rfl (cat_cons (off_ hbi rfl) (cat_cons (off_ b9 rfl) (cat_cons (off_ b10 rfl) rfl)))))) hm)
           refine e_exv (i := 1) hbi rfl rfl (won rfl) rfl rfl (e_litp (cells := [(.int .i64 4), (.int .i64 5)]) (ps := [(0, (.int .i64 4)), (1, (.int .i64 5))]) rfl slt_26 (pmap_lit (pmap_cons rfl (pmap_cons rfl pmap_nil))) (fun w1 => run_bslicez (cells := [(.int .i64 4), (.int .i64 5)]) (zs := [.int .i64 0, .int .i64 0]) (zc := [.int .i64 0]) slt_26 rfl rfl (by kernel_rfl) (fill_cons (cs := [(.int .i64 4)]) rfl rfl rfl (fill_cons (cs := [(.int .i64 5)]) rfl rfl rfl fill_nil)) (by decide)) hm64204) ?_
           rintro g63103 w63101 hm63102
           have H63104 : OwF 3 (FK.int .i64) (.slice (some ⟨g63103, 0, none⟩) 2 2) ([4, 5] : List Int) (sg g63103 3 (0, 0) [] (encs (FK.int .i64) ([4, 5] : List Int)) []) := OwF.lit g63103 ([4, 5] : List Int) 2 rfl (by decide)
           replace hm63102 : Mem w0 w63101 (cat [(sg g63103 3 (0, 0) [] (encs (FK.int .i64) ([4, 5] : List Int)) []), (bif b 7 then sg g0 T0 fr0 pre0 [v0x0, (.int .i64 r63701.2.at_), (.int .i64 r63701.2.seed)] post0 else (bif b 3 then sg g0 T0 fr0 pre0 [v0x0, (.int .i64 r63301.2.at_), (.int .i64 r63301.2.seed)] post0 else sg g0 T0 fr0 pre0 [v0x0, (.int .i64 r62325.2.at_), (.int .i64 r62325.2.seed)] post0)), h56270, hF]) := hm63102
           exact hK _ _ ⟨_, g63103, g63903, p64003, rfl, y0, fun _ => rfl, y2, y3, fun hb => ab b4 hb, y5, y6, y7, y8, y9, y10, y11, fun _ => H63104, H63904, H64004, Mem.gc (A := [(bif b 7 then sg g0 T0 fr0 pre0 [v0x0, (.int .i64 r63701.2.at_), (.int .i64 r63701.2.seed)] post0 else (bif b 3 then sg g0 T0 fr0 pre0 [v0x0, (.int .i64 r63301.2.at_), (.int .i64 r63301.2.seed)] post0 else sg g0 T0 fr0 pre0 [v0x0, (.int .i64 r62325.2.at_), (.int .i64 r62325.2.seed)] post0)), h56270, hF, (sg g63103 3 (0, 0) [] (encs (FK.int .i64) ([4, 5] : List Int)) []), [], []]) (cat_cons rfl (cat_cons (off_ b10 rfl) (cat_cons rfl (cat_cons (on_ rfl rfl) (cat_cons (off_ b9 rfl) (cat_cons (off_ b10 rfl) rfl)))))) (Mem.pick [1, 2, 3, 0, 1004, 1005] rfl hm63102)⟩
          ·
           intro b a w hI hbi hn hc K hK
           obtain ⟨vs, g63103, g63903, p64003, ha, y0, y1, y2, y3, y4, y5, y6, y7, y8, y9, y10, y11, H63104, H63904, H64004, hm⟩ := hI
           subst ha
           have b3 : b 3 = false := later (j := 3) hc rfl (i := 2) (da rfl) hbi
           have b4 : b 4 = false := later (j := 4) hc rfl (i := 3) (da rfl) b3
           have b5 : b 5 = false := later (j := 5) hc rfl (i := 4) (da rfl) b4
           have b7 : b 7 = false := later (j := 7) hc rfl (i := 3) (da rfl) b3
           have b8 : b 8 = false := later (j := 8) hc rfl (i := 5) (da rfl) b5
           have b9 : b 9 = false := later (j := 9) hc rfl (i := 8) (da rfl) b8
           have b10 : b 10 = false := later (j := 10) hc rfl (i := 7) (da rfl) b7
           have b11 : b 11 = false := later (j := 11) hc rfl (i := 2) (da rfl) hbi
           have hm64207 : Mem w0 w (cat [sg g0 T0 fr0 pre0 [v0x0, (.int .i64 r62325.2.at_), (.int .i64 r62325.2.seed)] post0, h56270, hF, (bif b 1 then (sg g63103 3 (0, 0) [] (encs (FK.int .i64) ([4, 5] : List Int)) []) else [])]) := Mem.pick [0, 1, 2, 3] rfl (Mem.cg (B := [sg g0 T0 fr0 pre0 [v0x0, (.int .i64 r62325.2.at_), (.int .i64 r62325.2.seed)] post0, h56270, hF, (bif b 1 then (sg g63103 3 (0, 0) [] (encs (FK.int .i64) ([4, 5] : List Int)) []) else []), [], []]) (cat_cons (off_ b7 (off_ b3 rfl)) (cat_cons (off_ b10 rfl) (cat_cons rfl (cat_cons rfl (cat_cons (off_ b9 rfl) (cat_cons (off_ b10 rfl) rfl)))))) hm)
           refine e_val (i := 2) hbi rfl rfl (v := (.pointer (some ⟨g0, o0, none⟩))) (won rfl) rfl rfl (x_move rfl (ev (t := 0) (v := (.pointer (some ⟨g0, o0, none⟩))) rfl ((sel_no rfl).trans q62280))) ?_
           exact hK _ _ ⟨_, g63103, g63903, p64003, rfl, y0, y1, fun _ => rfl, y3, y4, y5, y6, y7, y8, y9, y10, y11, H63104, H63904, H64004, Mem.gc (A := [sg g0 T0 fr0 pre0 [v0x0, (.int .i64 r62325.2.at_), (.int .i64 r62325.2.seed)] post0, h56270, hF, (bif b 1 then (sg g63103 3 (0, 0) [] (encs (FK.int .i64) ([4, 5] : List Int)) []) else []), [], []]) (cat_cons (off_ b7 (off_ b3 rfl)) (cat_cons (off_ b10 rfl) (cat_cons rfl (cat_cons rfl (cat_cons (off_ b9 rfl) (cat_cons (off_ b10 rfl) rfl)))))) (Mem.pick [0, 1, 2, 3, 1004, 1005] rfl hm64207)⟩
          ·
           intro b a w hI hbi hn hc K hK
           obtain ⟨vs, g63103, g63903, p64003, ha, y0, y1, y2, y3, y4, y5, y6, y7, y8, y9, y10, y11, H63104, H63904, H64004, hm⟩ := hI
           subst ha
           have b2 : b 2 = true := hn 2 (da rfl)
           have b4 : b 4 = false := later (j := 4) hc rfl (i := 3) (da rfl) hbi
           have b5 : b 5 = false := later (j := 5) hc rfl (i := 4) (da rfl) b4
           have b7 : b 7 = false := later (j := 7) hc rfl (i := 3) (da rfl) hbi
           have b8 : b 8 = false := later (j := 8) hc rfl (i := 5) (da rfl) b5
           have b9 : b 9 = false := later (j := 9) hc rfl (i := 8) (da rfl) b8
           have b10 : b 10 = false := later (j := 10) hc rfl (i := 7) (da rfl) b7
           have b11 : b 11 = false := later (j := 11) hc rfl (i := 3) (da rfl) hbi
           have hm64210 : Mem w0 w (cat [sg g0 T0 fr0 pre0 [v0x0, (.int .i64 r62325.2.at_), (.int .i64 r62325.2.seed)] post0, h56270, hF, (bif b 1 then (sg g63103 3 (0, 0) [] (encs (FK.int .i64) ([4, 5] : List Int)) []) else [])]) := Mem.pick [0, 1, 2, 3] rfl (Mem.cg (B := [sg g0 T0 fr0 pre0 [v0x0, (.int .i64 r62325.2.at_), (.int .i64 r62325.2.seed)] post0, h56270, hF, (bif b 1 then (sg g63103 3 (0, 0) [] (encs (FK.int .i64) ([4, 5] : List Int)) []) else []), [], []]) (cat_cons (off_ b7 (off_ hbi rfl)) (cat_cons (off_ b10 rfl) (cat_cons rfl (cat_cons rfl (cat_cons (off_ b9 rfl) (cat_cons (off_ b10 rfl) rfl)))))) hm)
           refine e_call (i := 3) hbi rfl rfl (won rfl) rfl rfl (x_call rfl rfl cl_83 (map_lit (map_cons (ev (t := 52) (v := (.pointer (some ⟨g0, o0, none⟩))) rfl ((sel_on (p := (2, 52)) rfl b2).trans (y2 b2))) (map_cons rfl map_nil)))) (spec_l00Src_next_ok (hR := (cat [hR])) (hF := cat [h56270, hF, (bif b 1 then (sg g63103 3 (0, 0) [] (encs (FK.int .i64) ([4, 5] : List Int)) []) else [])]) (spec_l00Src.mk a0.code r62325.2.at_ r62325.2.seed) 2 (H0x0.mono (Sub.at_ (k := 0) rfl)) (subc (Sub.trans hs (Sub.at_ (k := 1) rfl)) subn) hp0 (Mem.grp [sg g0 T0 fr0 pre0 [v0x0, (.int .i64 r62325.2.at_), (.int .i64 r62325.2.seed)] post0] [h56270, hF, (bif b 1 then (sg g63103 3 (0, 0) [] (encs (FK.int .i64) ([4, 5] : List Int)) []) else [])] (Mem.pick [0, 1, 2, 3] rfl hm64210)) hr63301) ?_
           rintro e w63302 ⟨rfl, hm63303⟩
           refine ⟨_, rfl, ?_⟩
           replace hm63303 : Mem w0 w63302 (cat [sg g0 T0 fr0 pre0 [v0x0, (.int .i64 r63301.2.at_), (.int .i64 r63301.2.seed)] post0, h56270, hF, (bif b 1 then (sg g63103 3 (0, 0) [] (encs (FK.int .i64) ([4, 5] : List Int)) []) else [])]) := Mem.ung [sg g0 T0 fr0 pre0 [v0x0, (.int .i64 r63301.2.at_), (.int .i64 r63301.2.seed)] post0] [h56270, hF, (bif b 1 then (sg g63103 3 (0, 0) [] (encs (FK.int .i64) ([4, 5] : List Int)) []) else [])] hm63303
           exact hK _ _ ⟨_, g63103, g63903, p64003, rfl, y0, y1, y2, fun _ => rfl, y4, y5, y6, y7, y8, y9, y10, y11, H63104, H63904, H64004, Mem.gc (A := [sg g0 T0 fr0 pre0 [v0x0, (.int .i64 r63301.2.at_), (.int .i64 r63301.2.seed)] post0, h56270, hF, (bif b 1 then (sg g63103 3 (0, 0) [] (encs (FK.int .i64) ([4, 5] : List Int)) []) else []), [], []]) (cat_cons (off_ b7 (on_ rfl rfl)) (cat_cons (off_ b10 rfl) (cat_cons rfl (cat_cons rfl (cat_cons (off_ b9 rfl) (cat_cons (off_ b10 rfl) rfl)))))) (Mem.pick [0, 1, 2, 3, 1004, 1005] rfl hm63303)⟩
          ·
           intro b a w hI hbi hn hc K hK
           obtain ⟨vs, g63103, g63903, p64003, ha, y0, y1, y2, y3, y4, y5, y6, y7, y8, y9, y10, y11, H63104, H63904, H64004, hm⟩ := hI
           subst ha
           have b1 : b 1 = true := hn 1 (da rfl)
           have b3 : b 3 = true := hn 3 (da rfl)
           have b2 : b 2 = true := hc 3 _ rfl b3 2 (da rfl)
           have b5 : b 5 = false := later (j := 5) hc rfl (i := 4) (da rfl) hbi
           have b8 : b 8 = false := later (j := 8) hc rfl (i := 5) (da rfl) b5
           have b9 : b 9 = false := later (j := 9) hc rfl (i := 8) (da rfl) b8
           have b10 : b 10 = false := later (j := 10) hc rfl (i := 9) (da rfl) b9
           have b11 : b 11 = false := later (j := 11) hc rfl (i := 4) (da rfl) hbi
           have H63104 := H63104 b1
           have hm64213 : Mem w0 w (cat [(bif b 7 then sg g0 T0 fr0 pre0 [v0x0, (.int .i64 r63701.2.at_), (.int .i64 r63701.2.seed)] post0 else (bif b 3 then sg g0 T0 fr0 pre0 [v0x0, (.int .i64 r63301.2.at_), (.int .i64 r63301.2.seed)] post0 else sg g0 T0 fr0 pre0 [v0x0, (.int .i64 r62325.2.at_), (.int .i64 r62325.2.seed)] post0)), h56270, hF, (sg g63103 3 (0, 0) [] (encs (FK.int .i64) ([4, 5] : List Int)) [])]) := Mem.pick [0, 1, 2, 3] rfl (Mem.cg (B := [(bif b 7 then sg g0 T0 fr0 pre0 [v0x0, (.int .i64 r63701.2.at_), (.int .i64 r63701.2.seed)] post0 else (bif b 3 then sg g0 T0 fr0 pre0 [v0x0, (.int .i64 r63301.2.at_), (.int .i64 r63301.2.seed)] post0 else sg g0 T0 fr0 pre0 [v0x0, (.int .i64 r62325.2.at_), (.int .i64 r62325.2.seed)] post0)), h56270, hF, (sg g63103 3 (0, 0) [] (encs (FK.int .i64) ([4, 5] : List Int)) []), [], []]) (cat_cons rfl (cat_cons (off_ b10 rfl) (cat_cons rfl (cat_cons (on_ b1 rfl) (cat_cons (off_ b9 rfl) (cat_cons (off_ b10 rfl) rfl)))))) hm)
           refine e_val (i := 4) hbi rfl rfl (v := (.pointer (some ((slA (.slice (some ⟨g63103, 0, none⟩) 2 2)).add (Int.toNat r63301.1 * 1))))) (won rfl) rfl rfl (x_index (d := (FK.int .i64)) rfl slt_26 (ev (t := 51) (v := (.slice (some ⟨g63103, 0, none⟩) 2 2)) rfl ((sel_on (p := (1, 51)) rfl b1).trans (y1 b1))) (ev (t := 53) (v := (.int .i64 r63301.1)) rfl ((sel_on (p := (3, 53)) rfl b3).trans (y3 b3))) (H63104.rd w0) hg63401.1 hg63401.2) ?_
           exact hK _ _ ⟨_, g63103, g63903, p64003, rfl, y0, y1, y2, y3, fun _ => rfl, y5, y6, y7, y8, y9, y10, y11, fun _ => H63104, H63904, H64004, Mem.gc (A := [(bif b 7 then sg g0 T0 fr0 pre0 [v0x0, (.int .i64 r63701.2.at_), (.int .i64 r63701.2.seed)] post0 else (bif b 3 then sg g0 T0 fr0 pre0 [v0x0, (.int .i64 r63301.2.at_), (.int .i64 r63301.2.seed)] post0 else sg g0 T0 fr0 pre0 [v0x0, (.int .i64 r62325.2.at_), (.int .i64 r62325.2.seed)] post0)), h56270, hF, (sg g63103 3 (0, 0) [] (encs (FK.int .i64) ([4, 5] : List Int)) []), [], []]) (cat_cons rfl (cat_cons (off_ b10 rfl) (cat_cons rfl (cat_cons (on_ b1 rfl) (cat_cons (off_ b9 rfl) (cat_cons (off_ b10 rfl) rfl)))))) (Mem.pick [0, 1, 2, 3, 1004, 1005] rfl hm64213)⟩
          ·
           intro b a w hI hbi hn hc K hK
           obtain ⟨vs, g63103, g63903, p64003, ha, y0, y1, y2, y3, y4, y5, y6, y7, y8, y9, y10, y11, H63104, H63904, H64004, hm⟩ := hI
           subst ha
           have b4 : b 4 = true := hn 4 (da rfl)
           have b1 : b 1 = true := hc 4 _ rfl b4 1 (da rfl)
           have b3 : b 3 = true := hc 4 _ rfl b4 3 (da rfl)
           have b2 : b 2 = true := hc 3 _ rfl b3 2 (da rfl)
           have b8 : b 8 = false := later (j := 8) hc rfl (i := 5) (da rfl) hbi
           have b9 : b 9 = false := later (j := 9) hc rfl (i := 8) (da rfl) b8
           have b10 : b 10 = false := later (j := 10) hc rfl (i := 9) (da rfl) b9
           have b11 : b 11 = false := later (j := 11) hc rfl (i := 5) (da rfl) hbi
           have H63104 := H63104 b1
           have hm64216 : Mem w0 w (cat [(bif b 7 then sg g0 T0 fr0 pre0 [v0x0, (.int .i64 r63701.2.at_), (.int .i64 r63701.2.seed)] post0 else (bif b 3 then sg g0 T0 fr0 pre0 [v0x0, (.int .i64 r63301.2.at_), (.int .i64 r63301.2.seed)] post0 else sg g0 T0 fr0 pre0 [v0x0, (.int .i64 r62325.2.at_), (.int .i64 r62325.2.seed)] post0)), h56270, hF, (sg g63103 3 (0, 0) [] (encs (FK.int .i64) ([4, 5] : List Int)) [])]) := Mem.pick [0, 1, 2, 3] rfl (Mem.cg (B := [(bif b 7 then sg g0 T0 fr0 pre0 [v0x0, (.int .i64 r63701.2.at_), (.int .i64 r63701.2.seed)] post0 else (bif b 3 then sg g0 T0 fr0 pre0 [v0x0, (.int .i64 r63301.2.at_), (.int .i64 r63301.2.seed)] post0 else sg g0 T0 fr0 pre0 [v0x0, (.int .i64 r62325.2.at_), (.int .i64 r62325.2.seed)] post0)), h56270, hF, (sg g63103 3 (0, 0) [] (encs (FK.int .i64) ([4, 5] : List Int)) []), [], []]) (cat_cons rfl (cat_cons (off_ b10 rfl) (cat_cons rfl (cat_cons (on_ b1 rfl) (cat_cons (off_ b9 rfl) (cat_cons (off_ b10 rfl) rfl)))))) hm)
           refine e_val (i := 5) hbi rfl rfl (v := (.int .i64 (ix ([4, 5] : List Int) r63301.1))) (won rfl) rfl rfl (x_load rfl ty1x3 (ev (t := 54) (v := (.pointer (some ((slA (.slice (some ⟨g63103, 0, none⟩) 2 2)).add (Int.toNat r63301.1 * 1))))) rfl ((sel_on (p := (4, 54)) rfl b4).trans (y4 b4))) (RdF.cell0 (H63104.rd w0) hm64216 (Sub.at_ (k := 3) rfl) hg63401.1 hg63401.2 rfl)) ?_
           exact hK _ _ ⟨_, g63103, g63903, p64003, rfl, y0, y1, y2, y3, y4, fun _ => rfl, y6, y7, y8, y9, y10, y11, fun _ => H63104, H63904, H64004, Mem.gc (A := [(bif b 7 then sg g0 T0 fr0 pre0 [v0x0, (.int .i64 r63701.2.at_), (.int .i64 r63701.2.seed)] post0 else (bif b 3 then sg g0 T0 fr0 pre0 [v0x0, (.int .i64 r63301.2.at_), (.int .i64 r63301.2.seed)] post0 else sg g0 T0 fr0 pre0 [v0x0, (.int .i64 r62325.2.at_), (.int .i64 r62325.2.seed)] post0)), h56270, hF, (sg g63103 3 (0, 0) [] (encs (FK.int .i64) ([4, 5] : List Int)) []), [], []]) (cat_cons rfl (cat_cons (off_ b10 rfl) (cat_cons rfl (cat_cons (on_ b1 rfl) (cat_cons (off_ b9 rfl) (cat_cons (off_ b10 rfl) rfl)))))) (Mem.pick [0, 1, 2, 3, 1004, 1005] rfl hm64216)⟩
          ·
           intro b a w hI hbi hn hc K hK
           obtain ⟨vs, g63103, g63903, p64003, ha, y0, y1, y2, y3, y4, y5, y6, y7, y8, y9, y10, y11, H63104, H63904, H64004, hm⟩ := hI
           subst ha
           have b7 : b 7 = false := later (j := 7) hc rfl (i := 6) (da rfl) hbi
           have b8 : b 8 = false := later (j := 8) hc rfl (i := 7) (da rfl) b7
           have b9 : b 9 = false := later (j := 9) hc rfl (i := 8) (da rfl) b8
           have b10 : b 10 = false := later (j := 10) hc rfl (i := 7) (da rfl) b7
           have b11 : b 11 = false := later (j := 11) hc rfl (i := 6) (da rfl) hbi
           have hm64219 : Mem w0 w (cat [(bif b 3 then sg g0 T0 fr0 pre0 [v0x0, (.int .i64 r63301.2.at_), (.int .i64 r63301.2.seed)] post0 else sg g0 T0 fr0 pre0 [v0x0, (.int .i64 r62325.2.at_), (.int .i64 r62325.2.seed)] post0), h56270, hF, (bif b 1 then (sg g63103 3 (0, 0) [] (encs (FK.int .i64) ([4, 5] : List Int)) []) else [])]) := Mem.pick [0, 1, 2, 3] rfl (Mem.cg (B := [(bif b 3 then sg g0 T0 fr0 pre0 [v0x0, (.int .i64 r63301.2.at_), (.int .i64 r63301.2.seed)] post0 else sg g0 T0 fr0 pre0 [v0x0, (.int .i64 r62325.2.at_), (.int .i64 r62325.2.seed)] post0), h56270, hF, (bif b 1 then (sg g63103 3 (0, 0) [] (encs (FK.int .i64) ([4, 5] : List Int)) []) else []), [], []]) (cat_cons (off_ b7 rfl) (cat_cons (off_ b10 rfl) (cat_cons rfl (cat_cons rfl (cat_cons (off_ b9 rfl) (cat_cons (off_ b10 rfl) rfl)))))) hm)
           refine e_val (i := 6) hbi rfl rfl (v := (.pointer (some ⟨g0, o0, none⟩))) (won rfl) rfl rfl (x_move rfl (ev (t := 0) (v := (.pointer (some ⟨g0, o0, none⟩))) rfl ((sel_no rfl).trans q62280))) ?_
           exact hK _ _ ⟨_, g63103, g63903, p64003, rfl, y0, y1, y2, y3, y4, y5, fun _ => rfl, y7, y8, y9, y10, y11, H63104, H63904, H64004, Mem.gc (A := [(bif b 3 then sg g0 T0 fr0 pre0 [v0x0, (.int .i64 r63301.2.at_), (.int .i64 r63301.2.seed)] post0 else sg g0 T0 fr0 pre0 [v0x0, (.int .i64 r62325.2.at_), (.int .i64 r62325.2.seed)] post0), h56270, hF, (bif b 1 then (sg g63103 3 (0, 0) [] (encs (FK.int .i64) ([4, 5] : List Int)) []) else []), [], []]) (cat_cons (off_ b7 rfl) (cat_cons (off_ b10 rfl) (cat_cons rfl (cat_cons rfl (cat_cons (off_ b9 rfl) (cat_cons (off_ b10 rfl) rfl)))))) (Mem.pick [0, 1, 2, 3, 1004, 1005] rfl hm64219)⟩
          ·
           intro b a w hI hbi hn hc K hK
           obtain ⟨vs, g63103, g63903, p64003, ha, y0, y1, y2, y3, y4, y5, y6, y7, y8, y9, y10, y11, H63104, H63904, H64004, hm⟩ := hI
           subst ha
           have b3 : b 3 = true := hn 3 (da rfl)
           have b6 : b 6 = true := hn 6 (da rfl)
           have b2 : b 2 = true := hc 3 _ rfl b3 2 (da rfl)
           have b8 : b 8 = false := later (j := 8) hc rfl (i := 7) (da rfl) hbi
           have b9 : b 9 = false := later (j := 9) hc rfl (i := 8) (da rfl) b8
           have b10 : b 10 = false := later (j := 10) hc rfl (i := 7) (da rfl) hbi
           have b11 : b 11 = false := later (j := 11) hc rfl (i := 7) (da rfl) hbi
           have hm64222 : Mem w0 w (cat [sg g0 T0 fr0 pre0 [v0x0, (.int .i64 r63301.2.at_), (.int .i64 r63301.2.seed)] post0, h56270, hF, (bif b 1 then (sg g63103 3 (0, 0) [] (encs (FK.int .i64) ([4, 5] : List Int)) []) else [])]) := Mem.pick [0, 1, 2, 3] rfl (Mem.cg (B := [sg g0 T0 fr0 pre0 [v0x0, (.int .i64 r63301.2.at_), (.int .i64 r63301.2.seed)] post0, h56270, hF, (bif b 1 then (sg g63103 3 (0, 0) [] (encs (FK.int .i64) ([4, 5] : List Int)) []) else []), [], []]) (cat_cons (off_ hbi (on_ b3 rfl)) (cat_cons (off_ b10 rfl) (cat_cons rfl (cat_cons rfl (cat_cons (off_ b9 rfl) (cat_cons (off_ b10 rfl) rfl)))))) hm)
           refine e_call (i := 7) hbi rfl rfl (won rfl) rfl rfl (x_call rfl rfl cl_83 (map_lit (map_cons (ev (t := 56) (v := (.pointer (some ⟨g0, o0, none⟩))) rfl ((sel_on (p := (6, 56)) rfl b6).trans (y6 b6))) (map_cons rfl map_nil)))) (spec_l00Src_next_ok (hR := (cat [hR])) (hF := cat [h56270, hF, (bif b 1 then (sg g63103 3 (0, 0) [] (encs (FK.int .i64) ([4, 5] : List Int)) []) else [])]) (spec_l00Src.mk a0.code r63301.2.at_ r63301.2.seed) 2 (H0x0.mono (Sub.at_ (k := 0) rfl)) (subc (Sub.trans hs (Sub.at_ (k := 1) rfl)) subn) hp0 (Mem.grp [sg g0 T0 fr0 pre0 [v0x0, (.int .i64 r63301.2.at_), (.int .i64 r63301.2.seed)] post0] [h56270, hF, (bif b 1 then (sg g63103 3 (0, 0) [] (encs (FK.int .i64) ([4, 5] : List Int)) []) else [])] (Mem.pick [0, 1, 2, 3] rfl hm64222)) hr63701) ?_
           rintro e w63702 ⟨rfl, hm63703⟩
           refine ⟨_, rfl, ?_⟩
           replace hm63703 : Mem w0 w63702 (cat [sg g0 T0 fr0 pre0 [v0x0, (.int .i64 r63701.2.at_), (.int .i64 r63701.2.seed)] post0, h56270, hF, (bif b 1 then (sg g63103 3 (0, 0) [] (encs (FK.int .i64) ([4, 5] : List Int)) []) else [])]) := Mem.ung [sg g0 T0 fr0 pre0 [v0x0, (.int .i64 r63701.2.at_), (.int .i64 r63701.2.seed)] post0] [h56270, hF, (bif b 1 then (sg g63103 3 (0, 0) [] (encs (FK.int .i64) ([4, 5] : List Int)) []) else [])] hm63703
           exact hK _ _ ⟨_, g63103, g63903, p64003, rfl, y0, y1, y2, y3, y4, y5, y6, fun _ => rfl, y8, y9, y10, y11, H63104, H63904, H64004, Mem.gc (A := [sg g0 T0 fr0 pre0 [v0x0, (.int .i64 r63701.2.at_), (.int .i64 r63701.2.seed)] post0, h56270, hF, (bif b 1 then (sg g63103 3 (0, 0) [] (encs (FK.int .i64) ([4, 5] : List Int)) []) else []), [], []]) (cat_cons (on_ rfl rfl) (cat_cons (off_ b10 rfl) (cat_cons rfl (cat_cons rfl (cat_cons (off_ b9 rfl) (cat_cons (off_ b10 rfl) rfl)))))) (Mem.pick [0, 1, 2, 3, 1004, 1005] rfl hm63703)⟩
          ·
           intro b a w hI hbi hn hc K hK
           obtain ⟨vs, g63103, g63903, p64003, ha, y0, y1, y2, y3, y4, y5, y6, y7, y8, y9, y10, y11, H63104, H63904, H64004, hm⟩ := hI
           subst ha
           have b5 : b 5 = true := hn 5 (da rfl)
           have b7 : b 7 = true := hn 7 (da rfl)
           have b4 : b 4 = true := hc 5 _ rfl b5 4 (da rfl)
           have b3 : b 3 = true := hc 7 _ rfl b7 3 (da rfl)
           have b6 : b 6 = true := hc 7 _ rfl b7 6 (da rfl)
           have b1 : b 1 = true := hc 4 _ rfl b4 1 (da rfl)
           have b2 : b 2 = true := hc 3 _ rfl b3 2 (da rfl)
           have b9 : b 9 = false := later (j := 9) hc rfl (i := 8) (da rfl) hbi
           have b10 : b 10 = false := later (j := 10) hc rfl (i := 9) (da rfl) b9
           have b11 : b 11 = false := later (j := 11) hc rfl (i := 8) (da rfl) hbi
           have H63104 := H63104 b1
           have hm64225 : Mem w0 w (cat [sg g0 T0 fr0 pre0 [v0x0, (.int .i64 r63701.2.at_), (.int .i64 r63701.2.seed)] post0, h56270, hF, (sg g63103 3 (0, 0) [] (encs (FK.int .i64) ([4, 5] : List Int)) [])]) := Mem.pick [0, 1, 2, 3] rfl (Mem.cg (B := [sg g0 T0 fr0 pre0 [v0x0, (.int .i64 r63701.2.at_), (.int .i64 r63701.2.seed)] post0, h56270, hF, (sg g63103 3 (0, 0) [] (encs (FK.int .i64) ([4, 5] : List Int)) []), [], []]) (cat_cons (on_ b7 rfl) (cat_cons (off_ b10 rfl) (cat_cons rfl (cat_cons (on_ b1 rfl) (cat_cons (off_ b9 rfl) (cat_cons (off_ b10 rfl) rfl)))))) hm)
           refine e_val (i := 8) hbi rfl rfl (v := (.agg #[(.int .i64 (ix ([4, 5] : List Int) r63301.1)), (.int .i64 r63701.1)])) (won rfl) rfl rfl (x_build (cells := [(.int .i64 (ix ([4, 5] : List Int) r63301.1)), (.int .i64 r63701.1)]) (zc := [.int .i64 0, .int .i64 0]) (sizes := [(0, 1), (1, 1)]) (ps := [(0, (.int .i64 (ix ([4, 5] : List Int) r63301.1))), (1, (.int .i64 r63701.1))]) rfl zt_74 rfl uf_74 ufz_74 (pmap_lit (pmap_cons (ev (t := 55) (v := (.int .i64 (ix ([4, 5] : List Int) r63301.1))) rfl ((sel_on (p := (5, 55)) rfl b5).trans (y5 b5))) (pmap_cons (ev (t := 57) (v := (.int .i64 r63701.1)) rfl ((sel_on (p := (7, 57)) rfl b7).trans (y7 b7))) pmap_nil))) (fill_cons (cs := [(.int .i64 (ix ([4, 5] : List Int) r63301.1))]) rfl rfl rfl (fill_cons (cs := [(.int .i64 r63701.1)]) rfl rfl rfl fill_nil))) ?_
           exact hK _ _ ⟨_, g63103, g63903, p64003, rfl, y0, y1, y2, y3, y4, y5, y6, y7, fun _ => rfl, y9, y10, y11, fun _ => H63104, H63904, H64004, Mem.gc (A := [sg g0 T0 fr0 pre0 [v0x0, (.int .i64 r63701.2.at_), (.int .i64 r63701.2.seed)] post0, h56270, hF, (sg g63103 3 (0, 0) [] (encs (FK.int .i64) ([4, 5] : List Int)) []), [], []]) (cat_cons (on_ b7 rfl) (cat_cons (off_ b10 rfl) (cat_cons rfl (cat_cons (on_ b1 rfl) (cat_cons (off_ b9 rfl) (cat_cons (off_ b10 rfl) rfl)))))) (Mem.pick [0, 1, 2, 3, 1004, 1005] rfl hm64225)⟩
          ·
           intro b a w hI hbi hn hc K hK
           obtain ⟨vs, g63103, g63903, p64003, ha, y0, y1, y2, y3, y4, y5, y6, y7, y8, y9, y10, y11, H63104, H63904, H64004, hm⟩ := hI
           subst ha
           have b8 : b 8 = true := hn 8 (da rfl)
           have b5 : b 5 = true := hc 8 _ rfl b8 5 (da rfl)
           have b7 : b 7 = true := hc 8 _ rfl b8 7 (da rfl)
           have b4 : b 4 = true := hc 5 _ rfl b5 4 (da rfl)
           have b3 : b 3 = true := hc 7 _ rfl b7 3 (da rfl)
           have b6 : b 6 = true := hc 7 _ rfl b7 6 (da rfl)
           have b1 : b 1 = true := hc 4 _ rfl b4 1 (da rfl)
           have b2 : b 2 = true := hc 3 _ rfl b3 2 (da rfl)
           have b10 : b 10 = false := later (j := 10) hc rfl (i := 9) (da rfl) hbi
           have b11 : b 11 = false := later (j := 11) hc rfl (i := 9) (da rfl) hbi
           have H63104 := H63104 b1
           have hm64228 : Mem w0 w (cat [sg g0 T0 fr0 pre0 [v0x0, (.int .i64 r63701.2.at_), (.int .i64 r63701.2.seed)] post0, h56270, hF, (sg g63103 3 (0, 0) [] (encs (FK.int .i64) ([4, 5] : List Int)) [])]) := Mem.pick [0, 1, 2, 3] rfl (Mem.cg (B := [sg g0 T0 fr0 pre0 [v0x0, (.int .i64 r63701.2.at_), (.int .i64 r63701.2.seed)] post0, h56270, hF, (sg g63103 3 (0, 0) [] (encs (FK.int .i64) ([4, 5] : List Int)) []), [], []]) (cat_cons (on_ b7 rfl) (cat_cons (off_ b10 rfl) (cat_cons rfl (cat_cons (on_ b1 rfl) (cat_cons (off_ hbi rfl) (cat_cons (off_ b10 rfl) rfl)))))) hm)
           refine e_exv (i := 9) hbi rfl rfl (won rfl) rfl rfl (e_litp (cells := [(.int .i64 (ix ([4, 5] : List Int) r63301.1)), (.int .i64 r63701.1)]) (ps := [(0, (.agg #[(.int .i64 (ix ([4, 5] : List Int) r63301.1)), (.int .i64 r63701.1)]))]) rfl slt_62 (pmap_lit (pmap_cons (ev (t := 58) (v := (.agg #[(.int .i64 (ix ([4, 5] : List Int) r63301.1)), (.int .i64 r63701.1)])) rfl ((sel_on (p := (8, 58)) rfl b8).trans (y8 b8))) pmap_nil)) (fun w1 => run_bslicez (cells := [(.int .i64 (ix ([4, 5] : List Int) r63301.1)), (.int .i64 r63701.1)]) (zs := [.int .i64 0, .int .i64 0]) (zc := [.int .i64 0, .int .i64 0]) slt_62 rfl rfl (by kernel_rfl) (fill_cons (cs := [(.int .i64 (ix ([4, 5] : List Int) r63301.1)), (.int .i64 r63701.1)]) rfl rfl rfl fill_nil) (by decide)) hm64228) ?_
           rintro g63903 w63901 hm63902
           have H63904 : OwF 74 impl_RingAct.K (.slice (some ⟨g63903, 0, none⟩) 1 1) ([(impl_RingAct.mk (ix ([4, 5] : List Int) r63301.1) r63701.1)] : List impl_RingAct) (sg g63903 74 (0, 0) [] (encs impl_RingAct.K ([(impl_RingAct.mk (ix ([4, 5] : List Int) r63301.1) r63701.1)] : List impl_RingAct)) []) := OwF.lit g63903 ([(impl_RingAct.mk (ix ([4, 5] : List Int) r63301.1) r63701.1)] : List impl_RingAct) 1 rfl (by decide)
           replace hm63902 : Mem w0 w63901 (cat [(sg g63903 74 (0, 0) [] (encs impl_RingAct.K ([(impl_RingAct.mk (ix ([4, 5] : List Int) r63301.1) r63701.1)] : List impl_RingAct)) []), sg g0 T0 fr0 pre0 [v0x0, (.int .i64 r63701.2.at_), (.int .i64 r63701.2.seed)] post0, h56270, hF, (sg g63103 3 (0, 0) [] (encs (FK.int .i64) ([4, 5] : List Int)) [])]) := hm63902
           exact hK _ _ ⟨_, g63103, g63903, p64003, rfl, y0, y1, y2, y3, y4, y5, y6, y7, y8, fun _ => rfl, y10, y11, fun _ => H63104, fun _ => H63904, H64004, Mem.gc (A := [sg g0 T0 fr0 pre0 [v0x0, (.int .i64 r63701.2.at_), (.int .i64 r63701.2.seed)] post0, h56270, hF, (sg g63103 3 (0, 0) [] (encs (FK.int .i64) ([4, 5] : List Int)) []), (sg g63903 74 (0, 0) [] (encs impl_RingAct.K ([(impl_RingAct.mk (ix ([4, 5] : List Int) r63301.1) r63701.1)] : List impl_RingAct)) []), []]) (cat_cons (on_ b7 rfl) (cat_cons (off_ b10 rfl) (cat_cons rfl (cat_cons (on_ b1 rfl) (cat_cons (on_ rfl rfl) (cat_cons (off_ b10 rfl) rfl)))))) (Mem.pick [1, 2, 3, 4, 0, 1005] rfl hm63902)⟩
          ·
           intro b a w hI hbi hn hc K hK
           obtain ⟨vs, g63103, g63903, p64003, ha, y0, y1, y2, y3, y4, y5, y6, y7, y8, y9, y10, y11, H63104, H63904, H64004, hm⟩ := hI
           subst ha
           have b0 : b 0 = true := hn 0 (da rfl)
           have b7 : b 7 = true := hn 7 (da rfl)
           have b9 : b 9 = true := hn 9 (da rfl)
           have b3 : b 3 = true := hc 7 _ rfl b7 3 (da rfl)
           have b6 : b 6 = true := hc 7 _ rfl b7 6 (da rfl)
           have b8 : b 8 = true := hc 9 _ rfl b9 8 (da rfl)
           have b2 : b 2 = true := hc 3 _ rfl b3 2 (da rfl)
           have b5 : b 5 = true := hc 8 _ rfl b8 5 (da rfl)
           have b4 : b 4 = true := hc 5 _ rfl b5 4 (da rfl)
           have b1 : b 1 = true := hc 4 _ rfl b4 1 (da rfl)
           have b11 : b 11 = false := later (j := 11) hc rfl (i := 10) (da rfl) hbi
           have H63104 := H63104 b1
           have H63904 := H63904 b9
           have hm64231 : Mem w0 w (cat [sg g0 T0 fr0 pre0 [v0x0, (.int .i64 r63701.2.at_), (.int .i64 r63701.2.seed)] post0, h56270, hF, (sg g63103 3 (0, 0) [] (encs (FK.int .i64) ([4, 5] : List Int)) []), (sg g63903 74 (0, 0) [] (encs impl_RingAct.K ([(impl_RingAct.mk (ix ([4, 5] : List Int) r63301.1) r63701.1)] : List impl_RingAct)) [])]) := Mem.pick [0, 1, 2, 3, 4] rfl (Mem.cg (B := [sg g0 T0 fr0 pre0 [v0x0, (.int .i64 r63701.2.at_), (.int .i64 r63701.2.seed)] post0, h56270, hF, (sg g63103 3 (0, 0) [] (encs (FK.int .i64) ([4, 5] : List Int)) []), (sg g63903 74 (0, 0) [] (encs impl_RingAct.K ([(impl_RingAct.mk (ix ([4, 5] : List Int) r63301.1) r63701.1)] : List impl_RingAct)) []), []]) (cat_cons (on_ b7 rfl) (cat_cons (off_ hbi rfl) (cat_cons rfl (cat_cons (on_ b1 rfl) (cat_cons (on_ b9 rfl) (cat_cons (off_ hbi rfl) rfl)))))) hm)
           refine e_exv (i := 10) hbi rfl rfl (won rfl) rfl rfl (e_append (bytes := 16) rfl slt_62 rfl (ev (t := 50) (v := v56269) rfl ((sel_on (p := (0, 50)) rfl b0).trans (y0 b0))) (ev (t := 59) (v := (.slice (some ⟨g63903, 0, none⟩) 1 1)) rfl ((sel_on (p := (9, 59)) rfl b9).trans (y9 b9))) H56271 (k := 1) rfl (H63904.rd w0) (Sub.at_ (k := 4) rfl) hm64231 hg64001 (len63 hg64001 rfl)) ?_
           rintro p64003 w64005 ⟨H64004, hm64006⟩
           replace hm64006 : Mem w0 w64005 (cat [sg g0 T0 fr0 pre0 [v0x0, (.int .i64 r63701.2.at_), (.int .i64 r63701.2.seed)] post0, p64003.2, hF, (sg g63103 3 (0, 0) [] (encs (FK.int .i64) ([4, 5] : List Int)) []), (sg g63903 74 (0, 0) [] (encs impl_RingAct.K ([(impl_RingAct.mk (ix ([4, 5] : List Int) r63301.1) r63701.1)] : List impl_RingAct)) [])]) := hm64006
           exact hK _ _ ⟨_, g63103, g63903, p64003, rfl, y0, y1, y2, y3, y4, y5, y6, y7, y8, y9, fun _ => rfl, fun hb => ab b11 hb, fun _ => H63104, fun _ => H63904, fun _ => H64004, Mem.gc (A := [sg g0 T0 fr0 pre0 [v0x0, (.int .i64 r63701.2.at_), (.int .i64 r63701.2.seed)] post0, [], hF, (sg g63103 3 (0, 0) [] (encs (FK.int .i64) ([4, 5] : List Int)) []), (sg g63903 74 (0, 0) [] (encs impl_RingAct.K ([(impl_RingAct.mk (ix ([4, 5] : List Int) r63301.1) r63701.1)] : List impl_RingAct)) []), p64003.2]) (cat_cons (on_ b7 rfl) (cat_cons (on_ rfl rfl) (cat_cons rfl (cat_cons (on_ b1 rfl) (cat_cons (on_ b9 rfl) (cat_cons (on_ rfl rfl) rfl)))))) (Mem.pick [0, 1001, 2, 3, 4, 1] rfl hm64006)⟩
          ·
           intro b a w hI hbi hn hc K hK
           obtain ⟨vs, g63103, g63903, p64003, ha, y0, y1, y2, y3, y4, y5, y6, y7, y8, y9, y10, y11, H63104, H63904, H64004, hm⟩ := hI
           subst ha
           have b0 : b 0 = true := hn 0 (da rfl)
           have b1 : b 1 = true := hn 1 (da rfl)
           have b2 : b 2 = true := hn 2 (da rfl)
           have b3 : b 3 = true := hn 3 (da rfl)
           have b4 : b 4 = true := hn 4 (da rfl)
           have b5 : b 5 = true := hn 5 (da rfl)
           have b6 : b 6 = true := hn 6 (da rfl)
           have b7 : b 7 = true := hn 7 (da rfl)
           have b8 : b 8 = true := hn 8 (da rfl)
           have b9 : b 9 = true := hn 9 (da rfl)
           have b10 : b 10 = true := hn 10 (da rfl)
           have H63104 := H63104 b1
           have H63904 := H63904 b9
           have H64004 := H64004 b10
           have hm64234 : Mem w0 w (cat [sg g0 T0 fr0 pre0 [v0x0, (.int .i64 r63701.2.at_), (.int .i64 r63701.2.seed)] post0, hF, (sg g63103 3 (0, 0) [] (encs (FK.int .i64) ([4, 5] : List Int)) []), (sg g63903 74 (0, 0) [] (encs impl_RingAct.K ([(impl_RingAct.mk (ix ([4, 5] : List Int) r63301.1) r63701.1)] : List impl_RingAct)) []), p64003.2]) := Mem.pick [0, 2, 3, 4, 5] rfl (Mem.cg (B := [sg g0 T0 fr0 pre0 [v0x0, (.int .i64 r63701.2.at_), (.int .i64 r63701.2.seed)] post0, [], hF, (sg g63103 3 (0, 0) [] (encs (FK.int .i64) ([4, 5] : List Int)) []), (sg g63903 74 (0, 0) [] (encs impl_RingAct.K ([(impl_RingAct.mk (ix ([4, 5] : List Int) r63301.1) r63701.1)] : List impl_RingAct)) []), p64003.2]) (cat_cons (on_ b7 rfl) (cat_cons (on_ b10 rfl) (cat_cons rfl (cat_cons (on_ b1 rfl) (cat_cons (on_ b9 rfl) (cat_cons (on_ b10 rfl) rfl)))))) hm)
           refine e_val (i := 11) hbi rfl rfl (v := p64003.1) (won rfl) rfl rfl (x_assign rfl (ev (t := 60) (v := p64003.1) rfl ((sel_on (p := (10, 60)) rfl b10).trans (y10 b10)))) ?_
           exact hK _ _ ⟨_, g63103, g63903, p64003, rfl, y0, y1, y2, y3, y4, y5, y6, y7, y8, y9, y10, fun _ => rfl, fun _ => H63104, fun _ => H63904, fun _ => H64004, Mem.gc (A := [sg g0 T0 fr0 pre0 [v0x0, (.int .i64 r63701.2.at_), (.int .i64 r63701.2.seed)] post0, [], hF, (sg g63103 3 (0, 0) [] (encs (FK.int .i64) ([4, 5] : List Int)) []), (sg g63903 74 (0, 0) [] (encs impl_RingAct.K ([(impl_RingAct.mk (ix ([4, 5] : List Int) r63301.1) r63701.1)] : List impl_RingAct)) []), p64003.2]) (cat_cons (on_ b7 rfl) (cat_cons (on_ b10 rfl) (cat_cons rfl (cat_cons (on_ b1 rfl) (cat_cons (on_ b9 rfl) (cat_cons (on_ b10 rfl) rfl)))))) (Mem.pick [0, 1001, 1, 2, 3, 4] rfl hm64234)⟩
          intro b a w hall hI
          obtain ⟨vs, g63103, g63903, p64003, ha, y0, y1, y2, y3, y4, y5, y6, y7, y8, y9, y10, y11, H63104, H63904, H64004, hm⟩ := hI
          have b0 : b 0 = true := hall 0 rfl
          have b1 : b 1 = true := hall 1 rfl
          have b2 : b 2 = true := hall 2 rfl
          have b3 : b 3 = true := hall 3 rfl
          have b4 : b 4 = true := hall 4 rfl
          have b5 : b 5 = true := hall 5 rfl
          have b6 : b 6 = true := hall 6 rfl
          have b7 : b 7 = true := hall 7 rfl
          have b8 : b 8 = true := hall 8 rfl
          have b9 : b 9 = true := hall 9 rfl
          have b10 : b 10 = true := hall 10 rfl
          have b11 : b 11 = true := hall 11 rfl
          replace H63104 := H63104 b1
          replace H63904 := H63904 b9
          replace H64004 := H64004 b10
          have hm64237 : Mem w0 w (cat [sg g0 T0 fr0 pre0 [v0x0, (.int .i64 r63701.2.at_), (.int .i64 r63701.2.seed)] post0, hF, (sg g63103 3 (0, 0) [] (encs (FK.int .i64) ([4, 5] : List Int)) []), (sg g63903 74 (0, 0) [] (encs impl_RingAct.K ([(impl_RingAct.mk (ix ([4, 5] : List Int) r63301.1) r63701.1)] : List impl_RingAct)) []), p64003.2]) := Mem.pick [0, 2, 3, 4, 5] rfl (Mem.cg (B := [sg g0 T0 fr0 pre0 [v0x0, (.int .i64 r63701.2.at_), (.int .i64 r63701.2.seed)] post0, [], hF, (sg g63103 3 (0, 0) [] (encs (FK.int .i64) ([4, 5] : List Int)) []), (sg g63903 74 (0, 0) [] (encs impl_RingAct.K ([(impl_RingAct.mk (ix ([4, 5] : List Int) r63301.1) r63701.1)] : List impl_RingAct)) []), p64003.2]) (cat_cons (on_ b7 rfl) (cat_cons (on_ b10 rfl) (cat_cons rfl (cat_cons (on_ b1 rfl) (cat_cons (on_ b9 rfl) (cat_cons (on_ b10 rfl) rfl)))))) hm)
          obtain ⟨f63000, ha', z63000x0, z63000x3, z63000x4⟩ : ∃ f' : Nat → Value, a = fr 62 f' ∧ f' 0 = (.pointer (some ⟨g0, o0, none⟩)) ∧ f' 3 = p64003.1 ∧ f' 4 = (.int .i64 s56273) := ⟨_, ha, (sel_no rfl).trans q62280, (sel_on (p := (11, 3)) rfl b11).trans (y11 b11), (sel_no rfl).trans q62282⟩
          subst ha'
          have hm64247 : Mem w0 w (cat [sg g0 T0 fr0 pre0 [v0x0, (.int .i64 r63701.2.at_), (.int .i64 r63701.2.seed)] post0, hF, p64003.2]) := Mem.pick [0, 1, 4] rfl hm64237
          refine nb ?_
          refine nb ?_
          refine nx ?_
          obtain rfl := Option.some.inj he
          exact ⟨p64003.1, p64003.2, _, rfl, z63000x0, z63000x3, z63000x4, H64004, Mem.pick [0, 2, 1] rfl hm64247⟩
         ·
          replace he := bifF he hb62328
          refine c_false rfl (p := r62325.1) rfl rfl hb62328 ?_
          refine wp_skip ?_
          refine nb ?_
          refine nb ?_
          refine nx ?_
          obtain rfl := Option.some.inj he
          exact ⟨v56269, h56270, _, rfl, q62280, q62281, q62282, H56271, Mem.pick [0, 1, 2] rfl hm62327⟩
        ·
         replace he := bifF he hb62324
         refine c_false rfl (p := (decide (r62276.1 = 3))) rfl rfl hb62324 ?_
         obtain ⟨r64248, hr64248, he⟩ := bindE he
         obtain ⟨hg64256, he⟩ := gdE he
         refine wp_region_lit ?_
         refine s_val (v := v56269) (won rfl) rfl rfl (x_move rfl (ev (t := 3) (v := v56269) rfl q62281)) ?_
         refine s_val (v := (.pointer (some ⟨g0, o0, none⟩))) (won rfl) rfl rfl (x_move rfl (ev (t := 0) (v := (.pointer (some ⟨g0, o0, none⟩))) rfl q62280)) ?_
         refine s_call (won rfl) rfl rfl (x_call rfl rfl cl_83 (map_lit (map_cons (ev (t := 23) rfl rfl) (map_cons rfl map_nil)))) (spec_l00Src_next_ok (hR := (cat [hR])) (hF := cat [h56270, hF]) (spec_l00Src.mk a0.code r62276.2.at_ r62276.2.seed) 40 (H0x0.mono (Sub.at_ (k := 0) rfl)) (subc (Sub.trans hs (Sub.at_ (k := 1) rfl)) subn) hp0 (Mem.grp [sg g0 T0 fr0 pre0 [v0x0, (.int .i64 r62276.2.at_), (.int .i64 r62276.2.seed)] post0] [h56270, hF] (Mem.pick [0, 1, 2] rfl hm62291)) hr64248) ?_
         rintro e w64249 ⟨rfl, hm64250⟩
         refine ⟨_, rfl, ?_⟩
         replace hm64250 : Mem w0 w64249 (cat [sg g0 T0 fr0 pre0 [v0x0, (.int .i64 r64248.2.at_), (.int .i64 r64248.2.seed)] post0, h56270, hF]) := Mem.ung [sg g0 T0 fr0 pre0 [v0x0, (.int .i64 r64248.2.at_), (.int .i64 r64248.2.seed)] post0] [h56270, hF] hm64250
         refine s_val (v := (.agg #[(.int .i64 1), (.int .i64 r64248.1)])) (won rfl) rfl rfl (x_build (cells := [(.int .i64 1), (.int .i64 r64248.1)]) (zc := [.int .i64 0, .int .i64 0]) (sizes := [(0, 1), (1, 1)]) (ps := [(0, (.int .i64 1)), (1, (.int .i64 r64248.1))]) rfl zt_74 rfl uf_74 ufz_74 (pmap_lit (pmap_cons rfl (pmap_cons (ev (t := 24) rfl rfl) pmap_nil))) (fill_cons (cs := [(.int .i64 1)]) rfl rfl rfl (fill_cons (cs := [(.int .i64 r64248.1)]) rfl rfl rfl fill_nil))) ?_
         refine s_exv (won rfl) rfl rfl (e_litp (cells := [(.int .i64 1), (.int .i64 r64248.1)]) (ps := [(0, (.agg #[(.int .i64 1), (.int .i64 r64248.1)]))]) rfl slt_62 (pmap_lit (pmap_cons (ev (t := 25) rfl rfl) pmap_nil)) (fun w1 => run_bslicez (cells := [(.int .i64 1), (.int .i64 r64248.1)]) (zs := [.int .i64 0, .int .i64 0]) (zc := [.int .i64 0, .int .i64 0]) slt_62 rfl rfl (by kernel_rfl) (fill_cons (cs := [(.int .i64 1), (.int .i64 r64248.1)]) rfl rfl rfl fill_nil) (by decide)) hm64250) ?_
         rintro g64253 w64251 hm64252
         have H64254 : OwF 74 impl_RingAct.K (.slice (some ⟨g64253, 0, none⟩) 1 1) ([(impl_RingAct.mk 1 r64248.1)] : List impl_RingAct) (sg g64253 74 (0, 0) [] (encs impl_RingAct.K ([(impl_RingAct.mk 1 r64248.1)] : List impl_RingAct)) []) := OwF.lit g64253 ([(impl_RingAct.mk 1 r64248.1)] : List impl_RingAct) 1 rfl (by decide)
         replace hm64252 : Mem w0 w64251 (cat [(sg g64253 74 (0, 0) [] (encs impl_RingAct.K ([(impl_RingAct.mk 1 r64248.1)] : List impl_RingAct)) []), sg g0 T0 fr0 pre0 [v0x0, (.int .i64 r64248.2.at_), (.int .i64 r64248.2.seed)] post0, h56270, hF]) := hm64252
         refine s_exv (won rfl) rfl rfl (e_append (bytes := 16) rfl slt_62 rfl (ev (t := 22) rfl rfl) (ev (t := 26) rfl rfl) H56271 (k := 2) rfl (H64254.rd w0) (Sub.at_ (k := 0) rfl) hm64252 hg64256 (len63 hg64256 rfl)) ?_
         rintro p64258 w64260 ⟨H64259, hm64261⟩
         replace hm64261 : Mem w0 w64260 (cat [(sg g64253 74 (0, 0) [] (encs impl_RingAct.K ([(impl_RingAct.mk 1 r64248.1)] : List impl_RingAct)) []), sg g0 T0 fr0 pre0 [v0x0, (.int .i64 r64248.2.at_), (.int .i64 r64248.2.seed)] post0, p64258.2, hF]) := hm64261
         refine s_val (v := p64258.1) (won rfl) rfl rfl (x_assign rfl (ev (t := 27) rfl rfl)) ?_
         refine wpList_nil ?_
         have hm64262 : Mem w0 w64260 (cat [sg g0 T0 fr0 pre0 [v0x0, (.int .i64 r64248.2.at_), (.int .i64 r64248.2.seed)] post0, p64258.2, hF]) := Mem.pick [1, 2, 3] rfl hm64261
         refine nb ?_
         refine nb ?_
         refine nx ?_
         obtain rfl := Option.some.inj he
         exact ⟨p64258.1, p64258.2, _, rfl, q62280, rfl, q62282, H64259, Mem.pick [0, 1, 2] rfl hm64262⟩
    ·
     rintro a w ⟨v62268, h62269, f, rfl, q62265, q62271, q62272, H62270, hm64264⟩
     replace he := hk62274
     refine wp_region_lit ?_
     refine s_val (v := (.int .i64 s56273)) (won rfl) rfl rfl (x_move rfl (ev (t := 4) (v := (.int .i64 s56273)) rfl q62272)) ?_
     refine s_val (v := (.int .i64 (IntKind.wrap .i64 (s56273 - 1)))) (won rfl) rfl rfl (x_sub rfl (ev (t := 18) rfl rfl) rfl) ?_
     refine s_val (v := (.int .i64 (IntKind.wrap .i64 (s56273 - 1)))) (won rfl) rfl rfl (x_assign rfl (ev (t := 19) rfl rfl)) ?_
     refine wpList_nil ?_
     refine nx ?_
     exact ⟨s62273.1, s62273.2.1, s62273.2.2, (IntKind.wrap .i64 (s56273 - 1)), v62268, h62269, _, he, rfl, q62265, q62271, rfl, H62270, Mem.pick [0, 1, 2] rfl hm64264⟩
   ·
    replace he := bifF he hb60270
    refine c_false rfl (p := ((decide ((0 : Int) < s56273)) && (decide ((s56268.length : Int) < 300)))) rfl rfl hb60270 ?_
    refine wp_exit ?_
    refine xs ?_
    refine xs ?_
    refine xb ?_
    refine nx ?_
    obtain rfl := Option.some.inj he
    exact ⟨v56269, h56270, _, rfl, q56272, H56271, Mem.pick [0, 1, 2] rfl hm60268⟩
 ·
  rintro a w ⟨v48268, h48269, f, rfl, q48271, H48270, hm64266⟩
  replace he := hk48273
  refine wp_seq ?_
  refine wp_region_lit ?_
  refine s_val (v := v48268) (won rfl) rfl rfl (x_move rfl (ev (t := 3) (v := v48268) rfl q48271)) ?_
  refine s_val (v := v48268) (won rfl) rfl rfl (x_assign rfl (ev (t := 61) rfl rfl)) ?_
  refine wpList_nil ?_
  refine nx ?_
  refine wp_ret ?_
  obtain rfl := Option.some.inj he
  refine r_ret (v := v48268) (rv_one rfl (RVs.tmp (v := v48268) rfl rfl RVs.nil)) rfl ?_
  exact ⟨v48268, h48269, rfl, H48270, Mem.pick [0, 1, 2] rfl hm64266⟩
def spec_RingActsOf (F : Nat) (a0 : (List Int)) : Option ((List impl_RingAct)) := (spec_l00Source a0).bind fun r19 => (spec_l00Src_ringActs F r19).bind fun r27 => (some r27.1)
set_option maxHeartbeats 400000 in
set_option maxRecDepth 100000 in
theorem spec_RingActsOf_ok (F : Nat) {w0 w : World} {hR hF : Hp} {v0x0 : Value} (a0 : (List Int)) {r : ((List impl_RingAct))} (H0x0 : RdF w0 (FK.int .u8) v0x0 a0 hR) (hs : Sub hR hF) (hm : Mem w0 w (cat [hF])) (he : spec_RingActsOf F a0 = some r) :
    Calls Try.prog 33 #[v0x0] w (fun e w' => ∃ (v'0 : Value) (h'0 : Hp), e = .returned v'0 ∧ OwF 74 impl_RingAct.K v'0 r h'0 ∧ Mem w0 w' (cat [h'0, hF])) := by
 refine calls_fr (n := 6) Try.func33 rfl rfl rfl ?_
 unfold spec_RingActsOf at he
 refine wp_seq ?_
 refine wp_region_lit ?_
 refine s_val (v := (.slice none 0 0)) (won rfl) rfl rfl (x_assign rfl rfl) ?_
 refine wpList_nil ?_
 refine nx ?_
 refine wp_seq ?_
 obtain ⟨r19, hr19, he⟩ := bindE he
 obtain ⟨r27, hr27, he⟩ := bindE he
 refine wp_region_lit ?_
 refine s_val (v := v0x0) (won rfl) rfl rfl (x_move rfl (ev (t := 0) rfl rfl)) ?_
 refine s_call (won rfl) rfl rfl (x_call rfl rfl cl_56 (map_lit (map_cons (ev (t := 3) rfl rfl) map_nil))) (spec_l00Source_ok (hR := (cat [hR])) (hF := cat [hF]) a0 (H0x0.mono (Sub.at_ (k := 0) rfl)) (subc (Sub.trans hs (Sub.at_ (k := 0) rfl)) subn) (Mem.one hm) hr19) ?_
 rintro e w25 ⟨g20, v23, rfl, H24, hm26⟩
 refine ⟨_, rfl, ?_⟩
 replace hm26 : Mem w0 w25 (cat [sg g20 118 (0, 0) [] [v23, (.int .i64 r19.at_), (.int .i64 r19.seed)] [], hF]) := Mem.ung [sg g20 118 (0, 0) [] [v23, (.int .i64 r19.at_), (.int .i64 r19.seed)] []] [hF] hm26
 refine s_call (won rfl) rfl rfl (x_call rfl rfl cl_73 (map_lit (map_cons (ev (t := 4) rfl rfl) map_nil))) (spec_l00Src_ringActs_ok F (hR := (cat [hR])) (hF := cat [hF]) r19 (H24.mono (subc (subc (Sub.at_ (k := 0) rfl) subn) subn)) (subc (Sub.trans hs (Sub.at_ (k := 0) rfl)) subn) rfl (Mem.grp [sg g20 118 (0, 0) [] [v23, (.int .i64 r19.at_), (.int .i64 r19.seed)] []] [hF] (Mem.pick [0, 1] rfl hm26)) hr27) ?_
 rintro e w32 ⟨v29, h31, rfl, H30, hm33⟩
 refine ⟨_, rfl, ?_⟩
 replace hm33 : Mem w0 w32 (cat [sg g20 118 (0, 0) [] [v23, (.int .i64 r27.2.at_), (.int .i64 r27.2.seed)] [], h31, hF]) := Mem.ung [sg g20 118 (0, 0) [] [v23, (.int .i64 r27.2.at_), (.int .i64 r27.2.seed)] [], h31] [hF] hm33
 refine s_val (v := v29) (won rfl) rfl rfl (x_assign rfl (ev (t := 5) rfl rfl)) ?_
 refine wpList_nil ?_
 have hm34 : Mem w0 w32 (cat [h31, hF]) := Mem.pick [1, 2] rfl hm33
 refine nx ?_
 refine wp_ret ?_
 obtain rfl := Option.some.inj he
 refine r_ret (v := v29) (rv_one rfl (RVs.tmp (v := v29) rfl rfl RVs.nil)) rfl ?_
 exact ⟨v29, h31, rfl, H30, Mem.pick [0, 1] rfl hm34⟩
def impl_inRange (a0 : Int) (a1 : Int) (a2 : Int) : Option (Bool) := (some ((decide (a1 ≤ a0)) && (decide (a0 ≤ a2))))
set_option maxHeartbeats 400000 in
set_option maxRecDepth 100000 in
theorem impl_inRange_ok {w0 w : World} {hR hF : Hp} (a0 : Int) (a1 : Int) (a2 : Int) {r : (Bool)} (hm : Mem w0 w (cat [hF])) (he : impl_inRange a0 a1 a2 = some r) :
    Calls Try.prog 58 #[(.int .i64 a0), (.int .i64 a1), (.int .i64 a2)] w (fun e w' => e = .returned (.bool r) ∧ Mem w0 w' (cat [hF])) := by
 refine calls_fr (n := 15) Try.func58 rfl rfl rfl ?_
 unfold impl_inRange at he
 refine wp_seq ?_
 refine wp_region_lit ?_
 refine s_val (v := (.bool false)) (won rfl) rfl rfl (x_assign rfl rfl) ?_
 refine wpList_nil ?_
 refine nx ?_
 refine wp_seq ?_
 refine wp_region_lit ?_
 refine s_val (v := (.int .i64 a0)) (won rfl) rfl rfl (x_move rfl (ev (t := 0) rfl rfl)) ?_
 refine s_val (v := (.int .i64 a1)) (won rfl) rfl rfl (x_move rfl (ev (t := 1) rfl rfl)) ?_
 refine s_val (v := (.bool (decide (a1 ≤ a0)))) (won rfl) rfl rfl (x_geq rfl (ev (t := 7) rfl rfl) (ev (t := 8) rfl rfl)) ?_
 refine s_val (v := (.bool (decide (a1 ≤ a0)))) (won rfl) rfl rfl (x_move rfl (ev (t := 9) rfl rfl)) ?_
 refine s_cval (p := (decide (a1 ≤ a0))) (v := (.int .i64 a0)) (won_t (j := 3) (t := 10) (q := (decide (a1 ≤ a0))) rfl rfl rfl rfl rfl) rfl rfl (fun hp => (x_move rfl (ev (t := 0) rfl rfl))) ?_
 refine s_cval (p := (decide (a1 ≤ a0))) (v := (.int .i64 a2)) (won_t (j := 3) (t := 10) (q := (decide (a1 ≤ a0))) rfl rfl rfl rfl rfl) rfl rfl (fun hp => (x_move rfl (ev (t := 2) rfl rfl))) ?_
 refine s_cval (p := (decide (a1 ≤ a0))) (v := (.bool (decide (a0 ≤ a2)))) (won_t (j := 3) (t := 10) (q := (decide (a1 ≤ a0))) rfl rfl rfl rfl rfl) rfl rfl (fun hp => (x_leq rfl (ev (t := 11) rfl (Eq.trans (b := cv (decide (a1 ≤ a0)) (.int .i64 a0)) rfl (on_c hp))) (ev (t := 12) rfl (Eq.trans (b := cv (decide (a1 ≤ a0)) (.int .i64 a2)) rfl (on_c hp))))) ?_
 refine s_val (v := (.bool ((decide (a1 ≤ a0)) && (decide (a0 ≤ a2))))) (won rfl) rfl rfl (x_pick_and rfl (ev (t := 10) rfl rfl) (fun hq => ev rfl (Eq.trans (b := cv (decide (a1 ≤ a0)) (.bool (decide (a0 ≤ a2)))) rfl (on_c hq))) rfl) ?_
 refine s_val (v := (.bool ((decide (a1 ≤ a0)) && (decide (a0 ≤ a2))))) (won rfl) rfl rfl (x_assign rfl (ev (t := 14) rfl rfl)) ?_
 refine wpList_nil ?_
 refine nx ?_
 refine wp_ret ?_
 obtain rfl := Option.some.inj he
 refine r_ret (v := (.bool ((decide (a1 ≤ a0)) && (decide (a0 ≤ a2))))) (rv_one rfl (RVs.tmp (v := (.bool ((decide (a1 ≤ a0)) && (decide (a0 ≤ a2))))) rfl rfl RVs.nil)) rfl ?_
 exact ⟨rfl, Mem.pick [0] rfl hm⟩
def impl_NewRing (a0 : Int) (a1 : Int) : Option (impl_Ring × Int) := (impl_inRange a0 1 16).bind fun r50 => (bif (!(!r50)) then impl_inRange a1 1 16 else some false).bind fun r53 => (bif ((!r50) || (!r53)) then (some ((impl_Ring.mk 0 false ([] : List Int) ([] : List Int) 0 0 0 0), 4)) else (some ((impl_Ring.mk a0 true ([] : List Int) ([] : List Int) 0 0 a1 0), 0)))
set_option maxHeartbeats 400000 in
set_option maxRecDepth 100000 in
theorem impl_NewRing_ok {w0 w : World} {hR hF : Hp} (a0 : Int) (a1 : Int) {r : (impl_Ring × Int)} (hm : Mem w0 w (cat [hF])) (he : impl_NewRing a0 a1 = some r) :
    Calls Try.prog 74 #[(.int .i64 a0), (.int .i64 a1)] w (fun e w' => ∃ (v'0 : Value) (h'0 : Hp) (v'1 : Value) (h'1 : Hp), e = .returned (.tuple #[(.agg #[(.int .i64 r.1.Size), (.bool r.1.Up), v'0, v'1, (.int .i64 r.1.Lost), (.int .i64 r.1.Pending), (.int .i64 r.1.Every), (.int .i64 r.1.Signals)]), (.int .i64 r.2)]) ∧ OwF 3 (FK.int .i64) v'0 r.1.Posted h'0 ∧ OwF 3 (FK.int .i64) v'1 r.1.Done h'1 ∧ Mem w0 w' (cat [h'0, h'1, hF])) := by
 refine calls_fr (n := 18) Try.func74 rfl rfl rfl ?_
 unfold impl_NewRing at he
 refine wp_seq ?_
 refine wp_region_lit ?_
 refine s_exv (won rfl) rfl rfl (e_alloc (vs := [(.int .i64 0), (.bool false), (.slice none 0 0), (.slice none 0 0), (.int .i64 0), (.int .i64 0), (.int .i64 0), (.int .i64 0)]) rfl zt_65 rfl hm) ?_
 rintro g35 w36 hm37
 refine s_val (v := (.int .i64 0)) (won rfl) rfl rfl (x_assign rfl rfl) ?_
 refine wpList_nil ?_
 refine nx ?_
 refine wp_seq ?_
 refine wp_seq ?_
 obtain ⟨r50, hr50, he⟩ := bindE he
 obtain ⟨r53, hr53, he⟩ := bindE he
 refine wp_region_lit ?_
 refine s_val (v := (.int .i64 a0)) (won rfl) rfl rfl (x_move rfl (ev (t := 0) rfl rfl)) ?_
 refine s_call (won rfl) rfl rfl (x_call rfl rfl cl_58 (map_lit (map_cons (ev (t := 6) rfl rfl) (map_cons rfl (map_cons rfl map_nil))))) (impl_inRange_ok (hR := (cat [])) (hF := cat [sg g35 65 (0, 0) [] [(.int .i64 0), (.bool false), (.slice none 0 0), (.slice none 0 0), (.int .i64 0), (.int .i64 0), (.int .i64 0), (.int .i64 0)] [], hF]) a0 1 16  (Mem.one hm37) hr50) ?_
 rintro e w51 ⟨rfl, hm52⟩
 refine ⟨_, rfl, ?_⟩
 replace hm52 : Mem w0 w51 (cat [sg g35 65 (0, 0) [] [(.int .i64 0), (.bool false), (.slice none 0 0), (.slice none 0 0), (.int .i64 0), (.int .i64 0), (.int .i64 0), (.int .i64 0)] [], hF]) := Mem.un hm52
 refine s_val (v := (.bool (!r50))) (won rfl) rfl rfl (x_not rfl (ev (t := 7) rfl rfl)) ?_
 refine s_val (v := (.bool (!r50))) (won rfl) rfl rfl (x_move rfl (ev (t := 8) rfl rfl)) ?_
 refine s_cval (p := (!(!r50))) (v := (.int .i64 a1)) (won_f (j := 3) (t := 9) (q := (!r50)) rfl rfl rfl rfl rfl) rfl rfl (fun hp => (x_move rfl (ev (t := 1) rfl rfl))) ?_
 refine s_ccall (p := (!(!r50))) (v := (.bool r53)) (J := fun w' => Mem w0 w' (cat [sg g35 65 (0, 0) [] [(.int .i64 0), (.bool false), (.slice none 0 0), (.slice none 0 0), (.int .i64 0), (.int .i64 0), (.int .i64 0), (.int .i64 0)] [], hF])) (won_f (j := 3) (t := 9) (q := (!r50)) rfl rfl rfl rfl rfl) rfl rfl (fun hp => (x_call rfl rfl cl_58 (map_lit (map_cons (ev (t := 10) rfl (Eq.trans (b := cv (!(!r50)) (.int .i64 a1)) rfl (on_c hp))) (map_cons rfl (map_cons rfl map_nil)))))) (fun hp => ((impl_inRange_ok (hR := (cat [])) (hF := cat [sg g35 65 (0, 0) [] [(.int .i64 0), (.bool false), (.slice none 0 0), (.slice none 0 0), (.int .i64 0), (.int .i64 0), (.int .i64 0), (.int .i64 0)] [], hF]) a1 1 16  (Mem.one hm52) (bifT hr53 hp))).mono fun e w2 h => ⟨h.1, Mem.un h.2⟩) hm52 ?_
 intro w54 hm55
 refine s_cval (p := (!(!r50))) (v := (.bool (!r53))) (won_f (j := 3) (t := 9) (q := (!r50)) rfl rfl rfl rfl rfl) rfl rfl (fun hp => (x_not rfl (ev (t := 11) rfl (Eq.trans (b := cv (!(!r50)) (.bool r53)) rfl (on_c hp))))) ?_
 refine s_val (v := (.bool ((!r50) || (!r53)))) (won rfl) rfl rfl (x_pick_or rfl (ev (t := 9) rfl rfl) rfl (fun hq => ev rfl (Eq.trans (b := cv (!(!r50)) (.bool (!r53))) rfl (on_c (not_i hq))))) ?_
 refine wpList_nil ?_
 refine nx ?_
 rcases Bool.eq_false_or_eq_true (((!r50) || (!r53))) with hb56 | hb56
 ·
  replace he := bifT he hb56
  refine c_true rfl (p := ((!r50) || (!r53))) rfl rfl hb56 ?_
  refine wp_seq ?_
  refine wp_region_lit ?_
  refine s_val (v := (.agg #[(.int .i64 0), (.bool false), (.slice none 0 0), (.slice none 0 0), (.int .i64 0), (.int .i64 0), (.int .i64 0), (.int .i64 0)])) (won rfl) rfl rfl (x_build (cells := [(.int .i64 0), (.bool false), (.slice none 0 0), (.slice none 0 0), (.int .i64 0), (.int .i64 0), (.int .i64 0), (.int .i64 0)]) (zc := [.int .i64 0, .bool false, .slice none 0 0, .slice none 0 0, .int .i64 0, .int .i64 0, .int .i64 0, .int .i64 0]) (sizes := [(0, 1), (1, 1), (2, 1), (3, 1), (4, 1), (5, 1), (6, 1), (7, 1)]) (ps := []) rfl zt_65 rfl uf_65 ufz_65 (pmap_lit pmap_nil) fill_nil) ?_
  refine s_exs (won rfl) rfl (e_store (vs := [(.int .i64 0), (.bool false), (.slice none 0 0), (.slice none 0 0), (.int .i64 0), (.int .i64 0), (.int .i64 0), (.int .i64 0)]) (o' := 0) (j := 0) rfl sz_65 (ev (t := 4) rfl rfl) (ev (t := 14) rfl rfl) rfl rfl hm55 (k := 0) rfl rfl rfl) ?_
  intro w59 hm60
  replace hm60 : Mem w0 w59 (cat [sg g35 65 (0, 0) [] [(.int .i64 0), (.bool false), (.slice none 0 0), (.slice none 0 0), (.int .i64 0), (.int .i64 0), (.int .i64 0), (.int .i64 0)] [], hF]) := hm60
  refine s_val (v := (.int .i64 4)) (won rfl) rfl rfl (x_assign rfl rfl) ?_
  refine wpList_nil ?_
  refine nx ?_
  refine wp_ret ?_
  refine xr ?_
  obtain rfl := Option.some.inj he
  refine r_ret (v := (.tuple #[(.agg #[(.int .i64 0), (.bool false), (.slice none 0 0), (.slice none 0 0), (.int .i64 0), (.int .i64 0), (.int .i64 0), (.int .i64 0)]), (.int .i64 4)])) (rv_list rfl rfl (RVs.cell (cs := [(.int .i64 0), (.bool false), (.slice none 0 0), (.slice none 0 0), (.int .i64 0), (.int .i64 0), (.int .i64 0), (.int .i64 0)]) rfl rfl tyN_65 (seg_cells (o' := 0) (j := 0) hm60 (k := 0) rfl rfl rfl) (RVs.tmp (v := (.int .i64 4)) rfl rfl RVs.nil))) rfl ?_
  exact ⟨(.slice none 0 0), [], (.slice none 0 0), [], rfl, (OwF.nil 3 (FK.int .i64)), (OwF.nil 3 (FK.int .i64)), Mem.pick [1000, 1001, 1] rfl hm60⟩
 ·
  replace he := bifF he hb56
  refine c_false rfl (p := ((!r50) || (!r53))) rfl rfl hb56 ?_
  refine wp_skip ?_
  refine nx ?_
  refine wp_seq ?_
  refine wp_region_lit ?_
  refine s_val (v := (.int .i64 a0)) (won rfl) rfl rfl (x_move rfl (ev (t := 0) rfl rfl)) ?_
  refine s_val (v := (.int .i64 a1)) (won rfl) rfl rfl (x_move rfl (ev (t := 1) rfl rfl)) ?_
  refine s_val (v := (.agg #[(.int .i64 a0), (.bool true), (.slice none 0 0), (.slice none 0 0), (.int .i64 0), (.int .i64 0), (.int .i64 a1), (.int .i64 0)])) (won rfl) rfl rfl (x_build (cells := [(.int .i64 a0), (.bool true), (.slice none 0 0), (.slice none 0 0), (.int .i64 0), (.int .i64 0), (.int .i64 a1), (.int .i64 0)]) (zc := [.int .i64 0, .bool false, .slice none 0 0, .slice none 0 0, .int .i64 0, .int .i64 0, .int .i64 0, .int .i64 0]) (sizes := [(0, 1), (1, 1), (2, 1), (3, 1), (4, 1), (5, 1), (6, 1), (7, 1)]) (ps := [(0, (.int .i64 a0)), (1, (.bool true)), (6, (.int .i64 a1))]) rfl zt_65 rfl uf_65 ufz_65 (pmap_lit (pmap_cons (ev (t := 15) rfl rfl) (pmap_cons rfl (pmap_cons (ev (t := 16) rfl rfl) pmap_nil)))) (fill_cons (cs := [(.int .i64 a0)]) rfl rfl rfl (fill_cons (cs := [(.bool true)]) rfl rfl rfl (fill_cons (cs := [(.int .i64 a1)]) rfl rfl rfl fill_nil)))) ?_
  refine s_exs (won rfl) rfl (e_store (vs := [(.int .i64 a0), (.bool true), (.slice none 0 0), (.slice none 0 0), (.int .i64 0), (.int .i64 0), (.int .i64 a1), (.int .i64 0)]) (o' := 0) (j := 0) rfl sz_65 (ev (t := 4) rfl rfl) (ev (t := 17) rfl rfl) rfl rfl hm55 (k := 0) rfl rfl rfl) ?_
  intro w63 hm64
  replace hm64 : Mem w0 w63 (cat [sg g35 65 (0, 0) [] [(.int .i64 a0), (.bool true), (.slice none 0 0), (.slice none 0 0), (.int .i64 0), (.int .i64 0), (.int .i64 a1), (.int .i64 0)] [], hF]) := hm64
  refine s_val (v := (.int .i64 0)) (won rfl) rfl rfl (x_assign rfl rfl) ?_
  refine wpList_nil ?_
  refine nx ?_
  refine wp_ret ?_
  obtain rfl := Option.some.inj he
  refine r_ret (v := (.tuple #[(.agg #[(.int .i64 a0), (.bool true), (.slice none 0 0), (.slice none 0 0), (.int .i64 0), (.int .i64 0), (.int .i64 a1), (.int .i64 0)]), (.int .i64 0)])) (rv_list rfl rfl (RVs.cell (cs := [(.int .i64 a0), (.bool true), (.slice none 0 0), (.slice none 0 0), (.int .i64 0), (.int .i64 0), (.int .i64 a1), (.int .i64 0)]) rfl rfl tyN_65 (seg_cells (o' := 0) (j := 0) hm64 (k := 0) rfl rfl rfl) (RVs.tmp (v := (.int .i64 0)) rfl rfl RVs.nil))) rfl ?_
  exact ⟨(.slice none 0 0), [], (.slice none 0 0), [], rfl, (OwF.nil 3 (FK.int .i64)), (OwF.nil 3 (FK.int .i64)), Mem.pick [1000, 1001, 1] rfl hm64⟩
def slices_Index___int_int__l1 (F : Nat) (a0 : (List Int)) (a1 : Int) : Nat → Int → Option (Fl (Int) (Unit))
  | 0, _ => none
  | k + 1, s117 => (bif (decide (s117 < (a0.length : Int))) then gd ((0 : Int) ≤ s117 ∧ s117 < (a0.length : Int)) ((bif (decide (a1 = (ix a0 s117))) then (some (Fl.out s117)) else slices_Index___int_int__l1 F a0 a1 k (IntKind.wrap .i64 (s117 + 1)))) else (some (Fl.go ())))
def slices_Index___int_int_ (F : Nat) (a0 : (List Int)) (a1 : Int) : Option (Int) := (slices_Index___int_int__l1 F a0 a1 F 0 : Option (Fl (Int) (Unit))).bind fun l101 => l101.on fun (s100 : (Unit)) => (some (-1))
set_option maxHeartbeats 400000 in
set_option maxRecDepth 100000 in
theorem slices_Index___int_int__ok (F : Nat) {w0 w : World} {hR hF : Hp} {v0x0 : Value} (a0 : (List Int)) (a1 : Int) {r : (Int)} (H0x0 : RdF w0 (FK.int .i64) v0x0 a0 hR) (hs : Sub hR hF) (hm : Mem w0 w (cat [hF])) (he : slices_Index___int_int_ F a0 a1 = some r) :
    Calls Try.prog 93 #[v0x0, (.int .i64 a1)] w (fun e w' => e = .returned (.int .i64 r) ∧ Mem w0 w' (cat [hF])) := by
 refine calls_fr (n := 19) Try.func93 rfl rfl rfl ?_
 unfold slices_Index___int_int_ at he
 refine wp_seq ?_
 refine wp_region_lit ?_
 refine s_val (v := (.int .i64 0)) (won rfl) rfl rfl (x_assign rfl rfl) ?_
 refine wpList_nil ?_
 refine nx ?_
 obtain ⟨l101, hT103, hk102⟩ := bindE he
 replace he := hT103
 refine wp_seqJ (fun a w => ∃ (s100 : (Unit)) (f : Nat → Value), l101 = Fl.go s100 ∧ a = fr 19 f ∧ Mem w0 w (cat [hF])) ?_ ?_
 ·
  refine wp_seq ?_
  refine wp_region_lit ?_
  refine s_val (v := v0x0) (won rfl) rfl rfl (x_move rfl (ev (t := 0) rfl rfl)) ?_
  refine s_val (v := (.int .i64 (a0.length : Int))) (won rfl) rfl rfl (x_len rfl slt_26 (ev (t := 6) rfl rfl) (H0x0).sl) ?_
  refine s_val (v := (.int .i64 0)) (won rfl) rfl rfl (x_move rfl rfl) ?_
  refine wpList_nil ?_
  refine nx ?_
  refine wp_block ?_
  refine wp_fuel (I := fun k => fun a w => ∃ (s117 : Int) (f : Nat → Value), slices_Index___int_int__l1 F a0 a1 k s117 = some l101 ∧ a = fr 19 f ∧ f 0 = v0x0 ∧ f 1 = (.int .i64 a1) ∧ f 7 = (.int .i64 (a0.length : Int)) ∧ f 8 = (.int .i64 s117) ∧ Mem w0 w (cat [hF])) F _ _ ⟨0, _, he, rfl, rfl, rfl, rfl, rfl, Mem.pick [0] rfl hm⟩ ?_ ?_
  ·
   rintro a w ⟨s117, f, he, rfl, q114, q115, q116, q118, hm126⟩
   rw [slices_Index___int_int__l1] at he; exact none_no he
  ·
   rintro k a w ⟨s117, f, he, rfl, q114, q115, q116, q118, hm128⟩
   rw [slices_Index___int_int__l1] at he
   refine wp_seq ?_
   refine wp_region_lit ?_
   refine s_val (v := (.bool (decide (s117 < (a0.length : Int))))) (won rfl) rfl rfl (x_lss rfl (ev (t := 8) (v := (.int .i64 s117)) rfl q118) (ev (t := 7) (v := (.int .i64 (a0.length : Int))) rfl q116)) ?_
   refine wpList_nil ?_
   refine nx ?_
   refine wp_seq ?_
   rcases Bool.eq_false_or_eq_true ((decide (s117 < (a0.length : Int)))) with hb130 | hb130
   ·
    replace he := bifT he hb130
    refine c_true rfl (p := (decide (s117 < (a0.length : Int)))) rfl rfl hb130 ?_
    refine wp_skip ?_
    refine nx ?_
    refine wp_seq ?_
    refine wp_block ?_
    refine wp_seq ?_
    refine wp_region_lit ?_
    refine s_val (v := (.int .i64 s117)) (won rfl) rfl rfl (x_move rfl (ev (t := 8) (v := (.int .i64 s117)) rfl q118)) ?_
    refine s_val (v := (.int .i64 s117)) (won rfl) rfl rfl (x_assign rfl (ev (t := 10) rfl rfl)) ?_
    refine wpList_nil ?_
    refine nx ?_
    refine wp_seq ?_
    obtain ⟨hg133, he⟩ := gdE he
    refine wp_region_lit ?_
    refine s_val (v := (.int .i64 a1)) (won rfl) rfl rfl (x_move rfl (ev (t := 1) (v := (.int .i64 a1)) rfl q115)) ?_
    refine s_val (v := v0x0) (won rfl) rfl rfl (x_move rfl (ev (t := 0) (v := v0x0) rfl q114)) ?_
    refine s_val (v := (.int .i64 s117)) (won rfl) rfl rfl (x_move rfl (ev (t := 5) rfl rfl)) ?_
    refine s_val (v := (.pointer (some ((slA v0x0).add (Int.toNat s117 * 1))))) (won rfl) rfl rfl (x_index (d := (FK.int .i64)) rfl slt_26 (ev (t := 12) rfl rfl) (ev (t := 13) rfl rfl) H0x0 hg133.1 hg133.2) ?_
    refine s_val (v := (.int .i64 (ix a0 s117))) (won rfl) rfl rfl (x_load rfl ty1x3 (ev (t := 14) rfl rfl) (RdF.cell0 H0x0 hm128 (Sub.trans hs (Sub.at_ (k := 0) rfl)) hg133.1 hg133.2 rfl)) ?_
    refine s_val (v := (.bool (decide (a1 = (ix a0 s117))))) (won rfl) rfl rfl (x_eql rfl (ev (t := 11) rfl rfl) (ev (t := 15) rfl rfl)) ?_
    refine wpList_nil ?_
    refine nx ?_
    rcases Bool.eq_false_or_eq_true ((decide (a1 = (ix a0 s117)))) with hb134 | hb134
    ·
     replace he := bifT he hb134
     refine c_true rfl (p := (decide (a1 = (ix a0 s117)))) rfl rfl hb134 ?_
     refine wp_seq ?_
     refine wp_region_lit ?_
     refine s_val (v := (.int .i64 s117)) (won rfl) rfl rfl (x_move rfl (ev (t := 5) rfl rfl)) ?_
     refine s_val (v := (.int .i64 s117)) (won rfl) rfl rfl (x_assign rfl (ev (t := 17) rfl rfl)) ?_
     refine wpList_nil ?_
     refine nx ?_
     refine wp_ret ?_
     refine rb ?_
     refine xr ?_
     refine xr ?_
     refine rb ?_
     refine xr ?_
     obtain rfl := Option.some.inj he
     replace he := outE hk102
     obtain rfl := Option.some.inj he
     refine r_ret (v := (.int .i64 s117)) (rv_one rfl (RVs.tmp (v := (.int .i64 s117)) rfl rfl RVs.nil)) rfl ?_
     exact ⟨rfl, Mem.pick [0] rfl hm128⟩
    ·
     replace he := bifF he hb134
     refine c_false rfl (p := (decide (a1 = (ix a0 s117)))) rfl rfl hb134 ?_
     refine wp_skip ?_
     refine nb ?_
     refine nx ?_
     refine wp_region_lit ?_
     refine s_val (v := (.int .i64 (IntKind.wrap .i64 (s117 + 1)))) (won rfl) rfl rfl (x_add rfl (ev (t := 8) (v := (.int .i64 s117)) rfl q118) rfl) ?_
     refine s_val (v := (.int .i64 (IntKind.wrap .i64 (s117 + 1)))) (won rfl) rfl rfl (x_move rfl (ev (t := 18) rfl rfl)) ?_
     refine wpList_nil ?_
     refine nx ?_
     exact ⟨(IntKind.wrap .i64 (s117 + 1)), _, he, rfl, q114, q115, q116, rfl, Mem.pick [0] rfl hm128⟩
   ·
    replace he := bifF he hb130
    refine c_false rfl (p := (decide (s117 < (a0.length : Int)))) rfl rfl hb130 ?_
    refine wp_exit ?_
    refine xs ?_
    refine xs ?_
    refine xb ?_
    refine nx ?_
    obtain rfl := Option.some.inj he
    exact ⟨(), _, rfl, rfl, Mem.pick [0] rfl hm128⟩
 ·
  rintro a w ⟨s100, f, rfl, rfl, hm136⟩
  replace he := goE hk102
  refine wp_seq ?_
  refine wp_region_lit ?_
  refine s_val (v := (.int .i64 (-1))) (won rfl) rfl rfl (x_assign rfl rfl) ?_
  refine wpList_nil ?_
  refine nx ?_
  refine wp_ret ?_
  obtain rfl := Option.some.inj he
  refine r_ret (v := (.int .i64 (-1))) (rv_one rfl (RVs.tmp (v := (.int .i64 (-1))) rfl rfl RVs.nil)) rfl ?_
  exact ⟨rfl, Mem.pick [0] rfl hm136⟩
def slices_Contains___int_int_ (F : Nat) (a0 : (List Int)) (a1 : Int) : Option (Bool) := (slices_Index___int_int_ F a0 a1).bind fun r4 => (some (decide ((0 : Int) ≤ r4)))
set_option maxHeartbeats 400000 in
set_option maxRecDepth 100000 in
theorem slices_Contains___int_int__ok (F : Nat) {w0 w : World} {hR hF : Hp} {v0x0 : Value} (a0 : (List Int)) (a1 : Int) {r : (Bool)} (H0x0 : RdF w0 (FK.int .i64) v0x0 a0 hR) (hs : Sub hR hF) (hm : Mem w0 w (cat [hF])) (he : slices_Contains___int_int_ F a0 a1 = some r) :
    Calls Try.prog 79 #[v0x0, (.int .i64 a1)] w (fun e w' => e = .returned (.bool r) ∧ Mem w0 w' (cat [hF])) := by
 refine calls_fr (n := 9) Try.func79 rfl rfl rfl ?_
 unfold slices_Contains___int_int_ at he
 refine wp_seq ?_
 refine wp_region_lit ?_
 refine s_val (v := (.bool false)) (won rfl) rfl rfl (x_assign rfl rfl) ?_
 refine wpList_nil ?_
 refine nx ?_
 refine wp_seq ?_
 obtain ⟨r4, hr4, he⟩ := bindE he
 refine wp_region_lit ?_
 refine s_val (v := v0x0) (won rfl) rfl rfl (x_move rfl (ev (t := 0) rfl rfl)) ?_
 refine s_val (v := (.int .i64 a1)) (won rfl) rfl rfl (x_move rfl (ev (t := 1) rfl rfl)) ?_
 refine s_call (won rfl) rfl rfl (x_call rfl rfl cl_93 (map_lit (map_cons (ev (t := 5) rfl rfl) (map_cons (ev (t := 6) rfl rfl) map_nil)))) (slices_Index___int_int__ok F (hR := (cat [hR])) (hF := cat [hF]) a0 a1 (H0x0.mono (Sub.at_ (k := 0) rfl)) (subc (Sub.trans hs (Sub.at_ (k := 0) rfl)) subn) (Mem.one hm) hr4) ?_
 rintro e w5 ⟨rfl, hm6⟩
 refine ⟨_, rfl, ?_⟩
 replace hm6 : Mem w0 w5 (cat [hF]) := Mem.un hm6
 refine s_val (v := (.bool (decide ((0 : Int) ≤ r4)))) (won rfl) rfl rfl (x_geq rfl (ev (t := 7) rfl rfl) rfl) ?_
 refine s_val (v := (.bool (decide ((0 : Int) ≤ r4)))) (won rfl) rfl rfl (x_assign rfl (ev (t := 8) rfl rfl)) ?_
 refine wpList_nil ?_
 refine nx ?_
 refine wp_ret ?_
 obtain rfl := Option.some.inj he
 refine r_ret (v := (.bool (decide ((0 : Int) ≤ r4)))) (rv_one rfl (RVs.tmp (v := (.bool (decide ((0 : Int) ≤ r4)))) rfl rfl RVs.nil)) rfl ?_
 exact ⟨rfl, Mem.pick [0] rfl hm6⟩
def impl_Ring_post (F : Nat) (a0 : impl_Ring) (a1 : Int) : Option (Int × impl_Ring) := (impl_inRange a1 0 999).bind fun r90 => (bif (!r90) then (some (4, a0)) else (slices_Contains___int_int_ F a0.Posted a1).bind fun r94 => (bif (!r94) then slices_Contains___int_int_ F a0.Done a1 else some false).bind fun r97 => (bif (r94 || r97) then (some (9, a0)) else (bif (decide ((IntKind.wrap .i64 ((a0.Posted.length : Int) + (a0.Done.length : Int))) = a0.Size)) then (some (7, a0)) else gd ((a0.Posted.length + ([a1] : List Int).length) * 8 ≤ 140737488355328) ((some (0, (impl_Ring.mk a0.Size a0.Up (a0.Posted ++ ([a1] : List Int)) a0.Done a0.Lost a0.Pending a0.Every a0.Signals)))))))
set_option maxHeartbeats 400000 in
set_option maxRecDepth 100000 in
theorem impl_Ring_post_ok (F : Nat) {w0 w : World} {hR hF : Hp} {v0x2 : Value} {h0x2 : Hp} {v0x3 : Value} {g0 T0 o0 : Nat} {fr0 : Nat × Nat} {pre0 post0 : List Value} (a0 : impl_Ring) (a1 : Int) {r : (Int × impl_Ring)} (H0x2 : OwF 3 (FK.int .i64) v0x2 a0.Posted h0x2) (H0x3 : RdF w0 (FK.int .i64) v0x3 a0.Done hR) (hs : Sub hR hF) (hp0 : pre0.length = o0) (hm : Mem w0 w (cat [sg g0 T0 fr0 pre0 [(.int .i64 a0.Size), (.bool a0.Up), v0x2, v0x3, (.int .i64 a0.Lost), (.int .i64 a0.Pending), (.int .i64 a0.Every), (.int .i64 a0.Signals)] post0, h0x2, hF])) (he : impl_Ring_post F a0 a1 = some r) :
    Calls Try.prog 90 #[(.pointer (some ⟨g0, o0, none⟩)), (.int .i64 a1)] w (fun e w' => ∃ (v'0 : Value) (h'0 : Hp), e = .returned (.int .i64 r.1) ∧ OwF 3 (FK.int .i64) v'0 r.2.Posted h'0 ∧ Mem w0 w' (cat [sg g0 T0 fr0 pre0 [(.int .i64 a0.Size), (.bool a0.Up), v'0, v0x3, (.int .i64 a0.Lost), (.int .i64 a0.Pending), (.int .i64 a0.Every), (.int .i64 a0.Signals)] post0, h'0, hF])) := by
 refine calls_fr (n := 51) Try.func90 rfl rfl rfl ?_
 unfold impl_Ring_post at he
 refine wp_seq ?_
 refine wp_region_lit ?_
 refine s_val (v := (.int .i64 0)) (won rfl) rfl rfl (x_assign rfl rfl) ?_
 refine wpList_nil ?_
 refine nx ?_
 refine wp_seq ?_
 refine wp_block ?_
 refine wp_seq ?_
 obtain ⟨r90, hr90, he⟩ := bindE he
 refine wp_region_lit ?_
 refine s_val (v := (.int .i64 a1)) (won rfl) rfl rfl (x_move rfl (ev (t := 1) rfl rfl)) ?_
 refine s_call (won rfl) rfl rfl (x_call rfl rfl cl_58 (map_lit (map_cons (ev (t := 6) rfl rfl) (map_cons rfl (map_cons rfl map_nil))))) (impl_inRange_ok (hR := (cat [])) (hF := cat [sg g0 T0 fr0 pre0 [(.int .i64 a0.Size), (.bool a0.Up), v0x2, v0x3, (.int .i64 a0.Lost), (.int .i64 a0.Pending), (.int .i64 a0.Every), (.int .i64 a0.Signals)] post0, h0x2, hF]) a1 0 999  (Mem.one hm) hr90) ?_
 rintro e w91 ⟨rfl, hm92⟩
 refine ⟨_, rfl, ?_⟩
 replace hm92 : Mem w0 w91 (cat [sg g0 T0 fr0 pre0 [(.int .i64 a0.Size), (.bool a0.Up), v0x2, v0x3, (.int .i64 a0.Lost), (.int .i64 a0.Pending), (.int .i64 a0.Every), (.int .i64 a0.Signals)] post0, h0x2, hF]) := Mem.un hm92
 refine s_val (v := (.bool (!r90))) (won rfl) rfl rfl (x_not rfl (ev (t := 7) rfl rfl)) ?_
 refine s_val (v := (.bool (!r90))) (won rfl) rfl rfl (x_assign rfl (ev (t := 8) rfl rfl)) ?_
 refine wpList_nil ?_
 refine nx ?_
 rcases Bool.eq_false_or_eq_true ((!r90)) with hb93 | hb93
 ·
  replace he := bifT he hb93
  refine c_true rfl (p := (!r90)) rfl rfl hb93 ?_
  refine wp_seq ?_
  refine wp_region_lit ?_
  refine s_val (v := (.int .i64 4)) (won rfl) rfl rfl (x_assign rfl rfl) ?_
  refine wpList_nil ?_
  refine nx ?_
  refine wp_ret ?_
  refine rb ?_
  refine xr ?_
  obtain rfl := Option.some.inj he
  refine r_ret (v := (.int .i64 4)) (rv_one rfl (RVs.tmp (v := (.int .i64 4)) rfl rfl RVs.nil)) rfl ?_
  exact ⟨v0x2, h0x2, rfl, H0x2, Mem.pick [0, 1, 2] rfl hm92⟩
 ·
  replace he := bifF he hb93
  refine c_false rfl (p := (!r90)) rfl rfl hb93 ?_
  refine wp_seq ?_
  obtain ⟨r94, hr94, he⟩ := bindE he
  obtain ⟨r97, hr97, he⟩ := bindE he
  refine wp_region_lit ?_
  refine s_val (v := (.pointer (some ⟨g0, o0, none⟩))) (won rfl) rfl rfl (x_move rfl (ev (t := 0) rfl rfl)) ?_
  refine s_val (v := (.pointer (some ⟨g0, o0, none⟩))) (won rfl) rfl rfl (x_nil rfl (ev (t := 10) rfl rfl)) ?_
  refine s_val (v := (.pointer (some ⟨g0, o0 + 2, none⟩))) (won rfl) rfl rfl (x_field rfl fa_65x2 (ev (t := 11) rfl rfl)) ?_
  refine s_val (v := v0x2) (won rfl) rfl rfl (x_load rfl ty1x26 (ev (t := 12) rfl rfl) (seg_cell (o' := o0) (j := 2) hm92 (k := 0) rfl hp0 rfl)) ?_
  refine s_val (v := (.int .i64 a1)) (won rfl) rfl rfl (x_move rfl (ev (t := 1) rfl rfl)) ?_
  refine s_call (won rfl) rfl rfl (x_call rfl rfl cl_79 (map_lit (map_cons (ev (t := 13) rfl rfl) (map_cons (ev (t := 14) rfl rfl) map_nil)))) (slices_Contains___int_int__ok F (hR := (cat [h0x2])) (hF := cat [sg g0 T0 fr0 pre0 [(.int .i64 a0.Size), (.bool a0.Up), v0x2, v0x3, (.int .i64 a0.Lost), (.int .i64 a0.Pending), (.int .i64 a0.Every), (.int .i64 a0.Signals)] post0, h0x2, hF]) a0.Posted a1 ((H0x2.rd w0).mono (Sub.at_ (k := 0) rfl)) (subc (Sub.at_ (k := 1) rfl) subn) (Mem.one hm92) hr94) ?_
  rintro e w95 ⟨rfl, hm96⟩
  refine ⟨_, rfl, ?_⟩
  replace hm96 : Mem w0 w95 (cat [sg g0 T0 fr0 pre0 [(.int .i64 a0.Size), (.bool a0.Up), v0x2, v0x3, (.int .i64 a0.Lost), (.int .i64 a0.Pending), (.int .i64 a0.Every), (.int .i64 a0.Signals)] post0, h0x2, hF]) := Mem.un hm96
  refine s_val (v := (.bool r94)) (won rfl) rfl rfl (x_move rfl (ev (t := 15) rfl rfl)) ?_
  refine s_cval (p := (!r94)) (v := (.pointer (some ⟨g0, o0, none⟩))) (won_f (j := 6) (t := 16) (q := r94) rfl rfl rfl rfl rfl) rfl rfl (fun hp => (x_move rfl (ev (t := 0) rfl rfl))) ?_
  refine s_cval (p := (!r94)) (v := (.pointer (some ⟨g0, o0, none⟩))) (won_f (j := 6) (t := 16) (q := r94) rfl rfl rfl rfl rfl) rfl rfl (fun hp => (x_nil rfl (ev (t := 17) rfl (Eq.trans (b := cv (!r94) (.pointer (some ⟨g0, o0, none⟩))) rfl (on_c hp))))) ?_
  refine s_cval (p := (!r94)) (v := (.pointer (some ⟨g0, o0 + 3, none⟩))) (won_f (j := 6) (t := 16) (q := r94) rfl rfl rfl rfl rfl) rfl rfl (fun hp => (x_field rfl fa_65x3 (ev (t := 18) rfl (Eq.trans (b := cv (!r94) (.pointer (some ⟨g0, o0, none⟩))) rfl (on_c hp))))) ?_
  refine s_cval (p := (!r94)) (v := v0x3) (won_f (j := 6) (t := 16) (q := r94) rfl rfl rfl rfl rfl) rfl rfl (fun hp => (x_load rfl ty1x26 (ev (t := 19) rfl (Eq.trans (b := cv (!r94) (.pointer (some ⟨g0, o0 + 3, none⟩))) rfl (on_c hp))) (seg_cell (o' := o0) (j := 3) hm96 (k := 0) rfl hp0 rfl))) ?_
  refine s_cval (p := (!r94)) (v := (.int .i64 a1)) (won_f (j := 6) (t := 16) (q := r94) rfl rfl rfl rfl rfl) rfl rfl (fun hp => (x_move rfl (ev (t := 1) rfl rfl))) ?_
  refine s_ccall (p := (!r94)) (v := (.bool r97)) (J := fun w' => Mem w0 w' (cat [sg g0 T0 fr0 pre0 [(.int .i64 a0.Size), (.bool a0.Up), v0x2, v0x3, (.int .i64 a0.Lost), (.int .i64 a0.Pending), (.int .i64 a0.Every), (.int .i64 a0.Signals)] post0, h0x2, hF])) (won_f (j := 6) (t := 16) (q := r94) rfl rfl rfl rfl rfl) rfl rfl (fun hp => (x_call rfl rfl cl_79 (map_lit (map_cons (ev (t := 20) rfl (Eq.trans (b := cv (!r94) v0x3) rfl (on_c hp))) (map_cons (ev (t := 21) rfl (Eq.trans (b := cv (!r94) (.int .i64 a1)) rfl (on_c hp))) map_nil))))) (fun hp => ((slices_Contains___int_int__ok F (hR := (cat [hR])) (hF := cat [sg g0 T0 fr0 pre0 [(.int .i64 a0.Size), (.bool a0.Up), v0x2, v0x3, (.int .i64 a0.Lost), (.int .i64 a0.Pending), (.int .i64 a0.Every), (.int .i64 a0.Signals)] post0, h0x2, hF]) a0.Done a1 (H0x3.mono (Sub.at_ (k := 0) rfl)) (subc (Sub.trans hs (Sub.at_ (k := 2) rfl)) subn) (Mem.one hm96) (bifT hr97 hp))).mono fun e w2 h => ⟨h.1, Mem.un h.2⟩) hm96 ?_
  intro w98 hm99
  refine s_val (v := (.bool (r94 || r97))) (won rfl) rfl rfl (x_pick_or rfl (ev (t := 16) rfl rfl) rfl (fun hq => ev rfl (Eq.trans (b := cv (!r94) (.bool r97)) rfl (on_c (not_i hq))))) ?_
  refine s_val (v := (.bool (r94 || r97))) (won rfl) rfl rfl (x_assign rfl (ev (t := 23) rfl rfl)) ?_
  refine wpList_nil ?_
  refine nx ?_
  rcases Bool.eq_false_or_eq_true ((r94 || r97)) with hb100 | hb100
  ·
   replace he := bifT he hb100
   refine c_true rfl (p := (r94 || r97)) rfl rfl hb100 ?_
   refine wp_seq ?_
   refine wp_region_lit ?_
   refine s_val (v := (.int .i64 9)) (won rfl) rfl rfl (x_assign rfl rfl) ?_
   refine wpList_nil ?_
   refine nx ?_
   refine wp_ret ?_
   refine rb ?_
   refine xr ?_
   obtain rfl := Option.some.inj he
   refine r_ret (v := (.int .i64 9)) (rv_one rfl (RVs.tmp (v := (.int .i64 9)) rfl rfl RVs.nil)) rfl ?_
   exact ⟨v0x2, h0x2, rfl, H0x2, Mem.pick [0, 1, 2] rfl hm99⟩
  ·
   replace he := bifF he hb100
   refine c_false rfl (p := (r94 || r97)) rfl rfl hb100 ?_
   refine wp_seq ?_
   refine wp_qregion (cat [sg g0 T0 fr0 pre0 [(.int .i64 a0.Size), (.bool a0.Up), v0x2, v0x3, (.int .i64 a0.Lost), (.int .i64 a0.Pending), (.int .i64 a0.Every), (.int .i64 a0.Signals)] post0, h0x2, hF]) mixed (by kernel_rfl) hm99 ?_
   refine q_val (v := (.pointer (some ⟨g0, o0, none⟩))) (won rfl) rfl rfl (fun wq hq => (x_move rfl (ev (t := 0) rfl rfl))) ?_
   refine q_val (v := (.pointer (some ⟨g0, o0, none⟩))) (won rfl) rfl rfl (fun wq hq => (x_nil rfl (ev (t := 25) rfl rfl))) ?_
   refine q_val (v := (.pointer (some ⟨g0, o0 + 2, none⟩))) (won rfl) rfl rfl (fun wq hq => (x_field rfl fa_65x2 (ev (t := 26) rfl rfl))) ?_
   refine q_val (v := v0x2) (won rfl) rfl rfl (fun wq hq => (x_load rfl ty1x26 (ev (t := 27) rfl rfl) (seg_cell (o' := o0) (j := 2) hq (k := 0) rfl hp0 rfl))) ?_
   refine q_val (v := (.int .i64 (a0.Posted.length : Int))) (won rfl) rfl rfl (fun wq hq => (x_len rfl slt_26 (ev (t := 28) rfl rfl) (H0x2).sl)) ?_
   refine q_val (v := (.pointer (some ⟨g0, o0, none⟩))) (won rfl) rfl rfl (fun wq hq => (x_move rfl (ev (t := 0) rfl rfl))) ?_
   refine q_val (v := (.pointer (some ⟨g0, o0, none⟩))) (won rfl) rfl rfl (fun wq hq => (x_nil rfl (ev (t := 30) rfl rfl))) ?_
   refine q_val (v := (.pointer (some ⟨g0, o0 + 3, none⟩))) (won rfl) rfl rfl (fun wq hq => (x_field rfl fa_65x3 (ev (t := 31) rfl rfl))) ?_
   refine q_val (v := v0x3) (won rfl) rfl rfl (fun wq hq => (x_load rfl ty1x26 (ev (t := 32) rfl rfl) (seg_cell (o' := o0) (j := 3) hq (k := 0) rfl hp0 rfl))) ?_
   refine q_val (v := (.int .i64 (a0.Done.length : Int))) (won rfl) rfl rfl (fun wq hq => (x_len rfl slt_26 (ev (t := 33) rfl rfl) (H0x3).sl)) ?_
   refine q_val (v := (.int .i64 (IntKind.wrap .i64 ((a0.Posted.length : Int) + (a0.Done.length : Int))))) (won rfl) rfl rfl (fun wq hq => (x_add rfl (ev (t := 29) rfl rfl) (ev (t := 34) rfl rfl))) ?_
   refine q_val (v := (.pointer (some ⟨g0, o0, none⟩))) (won rfl) rfl rfl (fun wq hq => (x_move rfl (ev (t := 0) rfl rfl))) ?_
   refine q_val (v := (.pointer (some ⟨g0, o0, none⟩))) (won rfl) rfl rfl (fun wq hq => (x_nil rfl (ev (t := 36) rfl rfl))) ?_
   refine q_val (v := (.pointer (some ⟨g0, o0, none⟩))) (won rfl) rfl rfl (fun wq hq => (x_field rfl fa_65x0 (ev (t := 37) rfl rfl))) ?_
   refine q_val (v := (.int .i64 a0.Size)) (won rfl) rfl rfl (fun wq hq => (x_load rfl ty1x3 (ev (t := 38) rfl rfl) (seg_cell (o' := o0) (j := 0) hq (k := 0) rfl hp0 rfl))) ?_
   refine q_val (v := (.bool (decide ((IntKind.wrap .i64 ((a0.Posted.length : Int) + (a0.Done.length : Int))) = a0.Size)))) (won rfl) rfl rfl (fun wq hq => (x_eql rfl (ev (t := 35) rfl rfl) (ev (t := 39) rfl rfl))) ?_
   refine q_val (v := (.bool (decide ((IntKind.wrap .i64 ((a0.Posted.length : Int) + (a0.Done.length : Int))) = a0.Size)))) (won rfl) rfl rfl (fun wq hq => (x_assign rfl (ev (t := 40) rfl rfl))) ?_
   refine wpQuiet_nil ?_
   intro w101 hm102
   refine nx ?_
   rcases Bool.eq_false_or_eq_true ((decide ((IntKind.wrap .i64 ((a0.Posted.length : Int) + (a0.Done.length : Int))) = a0.Size))) with hb103 | hb103
   ·
    replace he := bifT he hb103
    refine c_true rfl (p := (decide ((IntKind.wrap .i64 ((a0.Posted.length : Int) + (a0.Done.length : Int))) = a0.Size))) rfl rfl hb103 ?_
    refine wp_seq ?_
    refine wp_region_lit ?_
    refine s_val (v := (.int .i64 7)) (won rfl) rfl rfl (x_assign rfl rfl) ?_
    refine wpList_nil ?_
    refine nx ?_
    refine wp_ret ?_
    refine rb ?_
    refine xr ?_
    obtain rfl := Option.some.inj he
    refine r_ret (v := (.int .i64 7)) (rv_one rfl (RVs.tmp (v := (.int .i64 7)) rfl rfl RVs.nil)) rfl ?_
    exact ⟨v0x2, h0x2, rfl, H0x2, Mem.pick [0, 1, 2] rfl hm102⟩
   ·
    replace he := bifF he hb103
    refine c_false rfl (p := (decide ((IntKind.wrap .i64 ((a0.Posted.length : Int) + (a0.Done.length : Int))) = a0.Size))) rfl rfl hb103 ?_
    refine wp_skip ?_
    refine nb ?_
    refine nx ?_
    refine wp_seq ?_
    obtain ⟨hg109, he⟩ := gdE he
    refine wp_region_lit ?_
    refine s_val (v := (.pointer (some ⟨g0, o0, none⟩))) (won rfl) rfl rfl (x_move rfl (ev (t := 0) rfl rfl)) ?_
    refine s_val (v := (.pointer (some ⟨g0, o0, none⟩))) (won rfl) rfl rfl (x_move rfl (ev (t := 0) rfl rfl)) ?_
    refine s_val (v := (.pointer (some ⟨g0, o0, none⟩))) (won rfl) rfl rfl (x_nil rfl (ev (t := 42) rfl rfl)) ?_
    refine s_val (v := (.pointer (some ⟨g0, o0 + 2, none⟩))) (won rfl) rfl rfl (x_field rfl fa_65x2 (ev (t := 43) rfl rfl)) ?_
    refine s_val (v := v0x2) (won rfl) rfl rfl (x_load rfl ty1x26 (ev (t := 44) rfl rfl) (seg_cell (o' := o0) (j := 2) hm102 (k := 0) rfl hp0 rfl)) ?_
    refine s_val (v := (.int .i64 a1)) (won rfl) rfl rfl (x_move rfl (ev (t := 1) rfl rfl)) ?_
    refine s_exv (won rfl) rfl rfl (e_litp (cells := [(.int .i64 a1)]) (ps := [(0, (.int .i64 a1))]) rfl slt_26 (pmap_lit (pmap_cons (ev (t := 46) rfl rfl) pmap_nil)) (fun w1 => run_bslicez (cells := [(.int .i64 a1)]) (zs := [.int .i64 0]) (zc := [.int .i64 0]) slt_26 rfl rfl (by kernel_rfl) (fill_cons (cs := [(.int .i64 a1)]) rfl rfl rfl fill_nil) (by decide)) hm102) ?_
    rintro g106 w104 hm105
    have H107 : OwF 3 (FK.int .i64) (.slice (some ⟨g106, 0, none⟩) 1 1) ([a1] : List Int) (sg g106 3 (0, 0) [] (encs (FK.int .i64) ([a1] : List Int)) []) := OwF.lit g106 ([a1] : List Int) 1 rfl (by decide)
    replace hm105 : Mem w0 w104 (cat [(sg g106 3 (0, 0) [] (encs (FK.int .i64) ([a1] : List Int)) []), sg g0 T0 fr0 pre0 [(.int .i64 a0.Size), (.bool a0.Up), v0x2, v0x3, (.int .i64 a0.Lost), (.int .i64 a0.Pending), (.int .i64 a0.Every), (.int .i64 a0.Signals)] post0, h0x2, hF]) := hm105
    refine s_exv (won rfl) rfl rfl (e_append (bytes := 8) rfl slt_26 rfl (ev (t := 45) rfl rfl) (ev (t := 47) rfl rfl) H0x2 (k := 2) rfl (H107.rd w0) (Sub.at_ (k := 0) rfl) hm105 hg109 (len63 hg109 rfl)) ?_
    rintro p111 w113 ⟨H112, hm114⟩
    replace hm114 : Mem w0 w113 (cat [(sg g106 3 (0, 0) [] (encs (FK.int .i64) ([a1] : List Int)) []), sg g0 T0 fr0 pre0 [(.int .i64 a0.Size), (.bool a0.Up), v0x2, v0x3, (.int .i64 a0.Lost), (.int .i64 a0.Pending), (.int .i64 a0.Every), (.int .i64 a0.Signals)] post0, p111.2, hF]) := hm114
    refine s_val (v := (.pointer (some ⟨g0, o0, none⟩))) (won rfl) rfl rfl (x_nil rfl (ev (t := 41) rfl rfl)) ?_
    refine s_val (v := (.pointer (some ⟨g0, o0 + 2, none⟩))) (won rfl) rfl rfl (x_field rfl fa_65x2 (ev (t := 49) rfl rfl)) ?_
    refine s_exs (won rfl) rfl (e_store (vs := [p111.1]) (o' := o0) (j := 2) rfl sz_26 (ev (t := 50) rfl rfl) (ev (t := 48) rfl rfl) (IsSl.cells (H112).sl) (one_cons (IsSl.one (H112).sl) one_nil) hm114 (k := 1) rfl hp0 rfl) ?_
    intro w115 hm116
    replace hm116 : Mem w0 w115 (cat [(sg g106 3 (0, 0) [] (encs (FK.int .i64) ([a1] : List Int)) []), sg g0 T0 fr0 pre0 [(.int .i64 a0.Size), (.bool a0.Up), p111.1, v0x3, (.int .i64 a0.Lost), (.int .i64 a0.Pending), (.int .i64 a0.Every), (.int .i64 a0.Signals)] post0, p111.2, hF]) := hm116
    refine wpList_nil ?_
    have hm117 : Mem w0 w115 (cat [sg g0 T0 fr0 pre0 [(.int .i64 a0.Size), (.bool a0.Up), p111.1, v0x3, (.int .i64 a0.Lost), (.int .i64 a0.Pending), (.int .i64 a0.Every), (.int .i64 a0.Signals)] post0, p111.2, hF]) := Mem.pick [1, 2, 3] rfl hm116
    refine nx ?_
    refine wp_seq ?_
    refine wp_region_lit ?_
    refine s_val (v := (.int .i64 0)) (won rfl) rfl rfl (x_assign rfl rfl) ?_
    refine wpList_nil ?_
    refine nx ?_
    refine wp_ret ?_
    obtain rfl := Option.some.inj he
    refine r_ret (v := (.int .i64 0)) (rv_one rfl (RVs.tmp (v := (.int .i64 0)) rfl rfl RVs.nil)) rfl ?_
    exact ⟨p111.1, p111.2, rfl, H112, Mem.pick [0, 1, 2] rfl hm117⟩
def impl_Ring_arrive (a0 : impl_Ring) (a1 : (List Int)) : Option ((List Int) × impl_Ring) := (bif ((!a0.Up) || (decide ((a0.Posted.length : Int) = 0))) then (some (a1, (impl_Ring.mk a0.Size a0.Up a0.Posted a0.Done (iMin (IntKind.wrap .i64 (a0.Lost + 1)) 1000000000) a0.Pending a0.Every a0.Signals))) else gd ((0 : Int) ≤ 0 ∧ 0 < (a0.Posted.length : Int)) (gd ((0 : Int) ≤ 1 ∧ 1 ≤ (a0.Posted.length : Int)) (gd ((a0.Done.length + ([(ix a0.Posted 0)] : List Int).length) * 8 ≤ 140737488355328) (((bif (decide ((IntKind.wrap .i64 (a0.Pending + 1)) = a0.Every)) then (some (0, (iMin (IntKind.wrap .i64 (a0.Signals + 1)) 1000000000))) else (some ((IntKind.wrap .i64 (a0.Pending + 1)), a0.Signals))) : Option (Int × Int)).bind fun (s239 : (Int × Int)) => gd ((a1.length + ([(ix a0.Posted 0)] : List Int).length) * 8 ≤ 140737488355328) ((some ((a1 ++ ([(ix a0.Posted 0)] : List Int)), (impl_Ring.mk a0.Size a0.Up (slc a0.Posted (Int.toNat 1) a0.Posted.length) (a0.Done ++ ([(ix a0.Posted 0)] : List Int)) a0.Lost s239.1 a0.Every s239.2))))))))
set_option maxHeartbeats 400000 in
set_option maxRecDepth 100000 in
theorem impl_Ring_arrive_ok {w0 w : World} {hR hF : Hp} {v0x2 : Value} {h0x2 : Hp} {v0x3 : Value} {h0x3 : Hp} {g0 T0 o0 : Nat} {fr0 : Nat × Nat} {pre0 post0 : List Value} {v1x0 : Value} {h1x0 : Hp} (a0 : impl_Ring) (a1 : (List Int)) {r : ((List Int) × impl_Ring)} (H0x2 : OwF 3 (FK.int .i64) v0x2 a0.Posted h0x2) (H0x3 : OwF 3 (FK.int .i64) v0x3 a0.Done h0x3) (H1x0 : OwF 3 (FK.int .i64) v1x0 a1 h1x0) (hp0 : pre0.length = o0) (hm : Mem w0 w (cat [sg g0 T0 fr0 pre0 [(.int .i64 a0.Size), (.bool a0.Up), v0x2, v0x3, (.int .i64 a0.Lost), (.int .i64 a0.Pending), (.int .i64 a0.Every), (.int .i64 a0.Signals)] post0, h0x2, h0x3, h1x0, hF])) (he : impl_Ring_arrive a0 a1 = some r) :
    Calls Try.prog 91 #[(.pointer (some ⟨g0, o0, none⟩)), v1x0] w (fun e w' => ∃ (v'0 : Value) (h'0 : Hp) (v'1 : Value) (h'1 : Hp) (v'2 : Value) (h'2 : Hp), e = .returned v'2 ∧ OwF 3 (FK.int .i64) v'0 r.2.Posted h'0 ∧ OwF 3 (FK.int .i64) v'1 r.2.Done h'1 ∧ OwF 3 (FK.int .i64) v'2 r.1 h'2 ∧ Mem w0 w' (cat [sg g0 T0 fr0 pre0 [(.int .i64 a0.Size), (.bool a0.Up), v'0, v'1, (.int .i64 r.2.Lost), (.int .i64 r.2.Pending), (.int .i64 a0.Every), (.int .i64 r.2.Signals)] post0, h'0, h'1, h'2, hF])) := by
 refine calls_fr (n := 85) Try.func91 rfl rfl rfl ?_
 unfold impl_Ring_arrive at he
 refine wp_seq ?_
 refine wp_region_lit ?_
 refine s_val (v := (.slice none 0 0)) (won rfl) rfl rfl (x_assign rfl rfl) ?_
 refine wpList_nil ?_
 refine nx ?_
 refine wp_seq ?_
 refine wp_seq ?_
 refine wp_region_lit ?_
 refine s_val (v := (.pointer (some ⟨g0, o0, none⟩))) (won rfl) rfl rfl (x_move rfl (ev (t := 0) rfl rfl)) ?_
 refine s_val (v := (.pointer (some ⟨g0, o0, none⟩))) (won rfl) rfl rfl (x_nil rfl (ev (t := 6) rfl rfl)) ?_
 refine s_val (v := (.pointer (some ⟨g0, o0 + 1, none⟩))) (won rfl) rfl rfl (x_field rfl fa_65x1 (ev (t := 7) rfl rfl)) ?_
 refine s_val (v := (.bool a0.Up)) (won rfl) rfl rfl (x_load rfl ty1x4 (ev (t := 8) rfl rfl) (seg_cell (o' := o0) (j := 1) hm (k := 0) rfl hp0 rfl)) ?_
 refine s_val (v := (.bool (!a0.Up))) (won rfl) rfl rfl (x_not rfl (ev (t := 9) rfl rfl)) ?_
 refine s_val (v := (.bool (!a0.Up))) (won rfl) rfl rfl (x_move rfl (ev (t := 10) rfl rfl)) ?_
 refine s_cval (p := (!(!a0.Up))) (v := (.pointer (some ⟨g0, o0, none⟩))) (won_f (j := 5) (t := 11) (q := (!a0.Up)) rfl rfl rfl rfl rfl) rfl rfl (fun hp => (x_move rfl (ev (t := 0) rfl rfl))) ?_
 refine s_cval (p := (!(!a0.Up))) (v := (.pointer (some ⟨g0, o0, none⟩))) (won_f (j := 5) (t := 11) (q := (!a0.Up)) rfl rfl rfl rfl rfl) rfl rfl (fun hp => (x_nil rfl (ev (t := 12) rfl (Eq.trans (b := cv (!(!a0.Up)) (.pointer (some ⟨g0, o0, none⟩))) rfl (on_c hp))))) ?_
 refine s_cval (p := (!(!a0.Up))) (v := (.pointer (some ⟨g0, o0 + 2, none⟩))) (won_f (j := 5) (t := 11) (q := (!a0.Up)) rfl rfl rfl rfl rfl) rfl rfl (fun hp => (x_field rfl fa_65x2 (ev (t := 13) rfl (Eq.trans (b := cv (!(!a0.Up)) (.pointer (some ⟨g0, o0, none⟩))) rfl (on_c hp))))) ?_
 refine s_cval (p := (!(!a0.Up))) (v := v0x2) (won_f (j := 5) (t := 11) (q := (!a0.Up)) rfl rfl rfl rfl rfl) rfl rfl (fun hp => (x_load rfl ty1x26 (ev (t := 14) rfl (Eq.trans (b := cv (!(!a0.Up)) (.pointer (some ⟨g0, o0 + 2, none⟩))) rfl (on_c hp))) (seg_cell (o' := o0) (j := 2) hm (k := 0) rfl hp0 rfl))) ?_
 refine s_cval (p := (!(!a0.Up))) (v := (.int .i64 (a0.Posted.length : Int))) (won_f (j := 5) (t := 11) (q := (!a0.Up)) rfl rfl rfl rfl rfl) rfl rfl (fun hp => (x_len rfl slt_26 (ev (t := 15) rfl (Eq.trans (b := cv (!(!a0.Up)) v0x2) rfl (on_c hp))) (H0x2).sl)) ?_
 refine s_cval (p := (!(!a0.Up))) (v := (.bool (decide ((a0.Posted.length : Int) = 0)))) (won_f (j := 5) (t := 11) (q := (!a0.Up)) rfl rfl rfl rfl rfl) rfl rfl (fun hp => (x_eql rfl (ev (t := 16) rfl (Eq.trans (b := cv (!(!a0.Up)) (.int .i64 (a0.Posted.length : Int))) rfl (on_c hp))) rfl)) ?_
 refine s_val (v := (.bool ((!a0.Up) || (decide ((a0.Posted.length : Int) = 0))))) (won rfl) rfl rfl (x_pick_or rfl (ev (t := 11) rfl rfl) rfl (fun hq => ev rfl (Eq.trans (b := cv (!(!a0.Up)) (.bool (decide ((a0.Posted.length : Int) = 0)))) rfl (on_c (not_i hq))))) ?_
 refine wpList_nil ?_
 refine nx ?_
 rcases Bool.eq_false_or_eq_true (((!a0.Up) || (decide ((a0.Posted.length : Int) = 0)))) with hb204 | hb204
 ·
  replace he := bifT he hb204
  refine c_true rfl (p := ((!a0.Up) || (decide ((a0.Posted.length : Int) = 0)))) rfl rfl hb204 ?_
  refine wp_seq ?_
  refine wp_region_lit ?_
  refine s_val (v := (.pointer (some ⟨g0, o0, none⟩))) (won rfl) rfl rfl (x_move rfl (ev (t := 0) rfl rfl)) ?_
  refine s_val (v := (.pointer (some ⟨g0, o0, none⟩))) (won rfl) rfl rfl (x_move rfl (ev (t := 0) rfl rfl)) ?_
  refine s_val (v := (.pointer (some ⟨g0, o0, none⟩))) (won rfl) rfl rfl (x_nil rfl (ev (t := 20) rfl rfl)) ?_
  refine s_val (v := (.pointer (some ⟨g0, o0 + 4, none⟩))) (won rfl) rfl rfl (x_field rfl fa_65x4 (ev (t := 21) rfl rfl)) ?_
  refine s_val (v := (.int .i64 a0.Lost)) (won rfl) rfl rfl (x_load rfl ty1x3 (ev (t := 22) rfl rfl) (seg_cell (o' := o0) (j := 4) hm (k := 0) rfl hp0 rfl)) ?_
  refine s_val (v := (.int .i64 (IntKind.wrap .i64 (a0.Lost + 1)))) (won rfl) rfl rfl (x_add rfl (ev (t := 23) rfl rfl) rfl) ?_
  refine s_val (v := (.int .i64 (iMin (IntKind.wrap .i64 (a0.Lost + 1)) 1000000000))) (won rfl) rfl rfl (x_min rfl (ev (t := 24) rfl rfl) rfl) ?_
  refine s_val (v := (.pointer (some ⟨g0, o0, none⟩))) (won rfl) rfl rfl (x_nil rfl (ev (t := 19) rfl rfl)) ?_
  refine s_val (v := (.pointer (some ⟨g0, o0 + 4, none⟩))) (won rfl) rfl rfl (x_field rfl fa_65x4 (ev (t := 26) rfl rfl)) ?_
  refine s_exs (won rfl) rfl (e_store (vs := [(.int .i64 (iMin (IntKind.wrap .i64 (a0.Lost + 1)) 1000000000))]) (o' := o0) (j := 4) rfl sz_3 (ev (t := 27) rfl rfl) (ev (t := 25) rfl rfl) rfl rfl hm (k := 0) rfl hp0 rfl) ?_
  intro w205 hm206
  replace hm206 : Mem w0 w205 (cat [sg g0 T0 fr0 pre0 [(.int .i64 a0.Size), (.bool a0.Up), v0x2, v0x3, (.int .i64 (iMin (IntKind.wrap .i64 (a0.Lost + 1)) 1000000000)), (.int .i64 a0.Pending), (.int .i64 a0.Every), (.int .i64 a0.Signals)] post0, h0x2, h0x3, h1x0, hF]) := hm206
  refine wpList_nil ?_
  refine nx ?_
  refine wp_seq ?_
  refine wp_region_lit ?_
  refine s_val (v := v1x0) (won rfl) rfl rfl (x_move rfl (ev (t := 1) rfl rfl)) ?_
  refine s_val (v := v1x0) (won rfl) rfl rfl (x_assign rfl (ev (t := 28) rfl rfl)) ?_
  refine wpList_nil ?_
  refine nx ?_
  refine wp_ret ?_
  refine xr ?_
  obtain rfl := Option.some.inj he
  refine r_ret (v := v1x0) (rv_one rfl (RVs.tmp (v := v1x0) rfl rfl RVs.nil)) rfl ?_
  exact ⟨v0x2, h0x2, v0x3, h0x3, v1x0, h1x0, rfl, H0x2, H0x3, H1x0, Mem.pick [0, 1, 2, 3, 4] rfl hm206⟩
 ·
  replace he := bifF he hb204
  refine c_false rfl (p := ((!a0.Up) || (decide ((a0.Posted.length : Int) = 0)))) rfl rfl hb204 ?_
  refine wp_skip ?_
  refine nx ?_
  refine wp_seq ?_
  obtain ⟨hg207, he⟩ := gdE he
  refine wp_region_lit ?_
  refine s_val (v := (.pointer (some ⟨g0, o0, none⟩))) (won rfl) rfl rfl (x_move rfl (ev (t := 0) rfl rfl)) ?_
  refine s_val (v := (.pointer (some ⟨g0, o0, none⟩))) (won rfl) rfl rfl (x_nil rfl (ev (t := 29) rfl rfl)) ?_
  refine s_val (v := (.pointer (some ⟨g0, o0 + 2, none⟩))) (won rfl) rfl rfl (x_field rfl fa_65x2 (ev (t := 30) rfl rfl)) ?_
  refine s_val (v := v0x2) (won rfl) rfl rfl (x_load rfl ty1x26 (ev (t := 31) rfl rfl) (seg_cell (o' := o0) (j := 2) hm (k := 0) rfl hp0 rfl)) ?_
  refine s_val (v := (.pointer (some ((slA v0x2).add (Int.toNat 0 * 1))))) (won rfl) rfl rfl (x_index (d := (FK.int .i64)) rfl slt_26 (ev (t := 32) rfl rfl) rfl (H0x2.rd w0) hg207.1 hg207.2) ?_
  refine s_val (v := (.int .i64 (ix a0.Posted 0))) (won rfl) rfl rfl (x_load rfl ty1x3 (ev (t := 33) rfl rfl) (RdF.cell0 (H0x2.rd w0) hm (Sub.at_ (k := 1) rfl) hg207.1 hg207.2 rfl)) ?_
  refine s_val (v := (.int .i64 (ix a0.Posted 0))) (won rfl) rfl rfl (x_assign rfl (ev (t := 34) rfl rfl)) ?_
  refine wpList_nil ?_
  refine nx ?_
  refine wp_seq ?_
  obtain ⟨hg208, he⟩ := gdE he
  refine wp_region_lit ?_
  refine s_val (v := (.pointer (some ⟨g0, o0, none⟩))) (won rfl) rfl rfl (x_move rfl (ev (t := 0) rfl rfl)) ?_
  refine s_val (v := (.pointer (some ⟨g0, o0, none⟩))) (won rfl) rfl rfl (x_move rfl (ev (t := 0) rfl rfl)) ?_
  refine s_val (v := (.pointer (some ⟨g0, o0, none⟩))) (won rfl) rfl rfl (x_nil rfl (ev (t := 36) rfl rfl)) ?_
  refine s_val (v := (.pointer (some ⟨g0, o0 + 2, none⟩))) (won rfl) rfl rfl (x_field rfl fa_65x2 (ev (t := 37) rfl rfl)) ?_
  refine s_val (v := v0x2) (won rfl) rfl rfl (x_load rfl ty1x26 (ev (t := 38) rfl rfl) (seg_cell (o' := o0) (j := 2) hm (k := 0) rfl hp0 rfl)) ?_
  refine s_val (v := (cutV v0x2 (Int.toNat 1) a0.Posted.length 1)) (won rfl) rfl rfl (y_slice_l rfl slt_26 (ev (t := 39) rfl rfl) rfl (H0x2).sl hg208.1 hg208.2) ?_
  refine s_val (v := (.pointer (some ⟨g0, o0, none⟩))) (won rfl) rfl rfl (x_nil rfl (ev (t := 35) rfl rfl)) ?_
  refine s_val (v := (.pointer (some ⟨g0, o0 + 2, none⟩))) (won rfl) rfl rfl (x_field rfl fa_65x2 (ev (t := 41) rfl rfl)) ?_
  refine s_exs (won rfl) rfl (e_store (vs := [(cutV v0x2 (Int.toNat 1) a0.Posted.length 1)]) (o' := o0) (j := 2) rfl sz_26 (ev (t := 42) rfl rfl) (ev (t := 40) rfl rfl) (IsSl.cells ((cutV_rd (a := (Int.toNat 1)) (b := a0.Posted.length) (H0x2.rd w0) (by have := hg208; omega) (Nat.le_refl _))).sl) (one_cons (IsSl.one ((cutV_rd (a := (Int.toNat 1)) (b := a0.Posted.length) (H0x2.rd w0) (by have := hg208; omega) (Nat.le_refl _))).sl) one_nil) hm (k := 0) rfl hp0 rfl) ?_
  intro w210 hm211
  replace hm211 : Mem w0 w210 (cat [sg g0 T0 fr0 pre0 [(.int .i64 a0.Size), (.bool a0.Up), (cutV v0x2 (Int.toNat 1) a0.Posted.length 1), v0x3, (.int .i64 a0.Lost), (.int .i64 a0.Pending), (.int .i64 a0.Every), (.int .i64 a0.Signals)] post0, h0x2, h0x3, h1x0, hF]) := hm211
  refine wpList_nil ?_
  refine nx ?_
  refine wp_seq ?_
  obtain ⟨hg217, he⟩ := gdE he
  refine wp_region_lit ?_
  refine s_val (v := (.pointer (some ⟨g0, o0, none⟩))) (won rfl) rfl rfl (x_move rfl (ev (t := 0) rfl rfl)) ?_
  refine s_val (v := (.pointer (some ⟨g0, o0, none⟩))) (won rfl) rfl rfl (x_move rfl (ev (t := 0) rfl rfl)) ?_
  refine s_val (v := (.pointer (some ⟨g0, o0, none⟩))) (won rfl) rfl rfl (x_nil rfl (ev (t := 44) rfl rfl)) ?_
  refine s_val (v := (.pointer (some ⟨g0, o0 + 3, none⟩))) (won rfl) rfl rfl (x_field rfl fa_65x3 (ev (t := 45) rfl rfl)) ?_
  refine s_val (v := v0x3) (won rfl) rfl rfl (x_load rfl ty1x26 (ev (t := 46) rfl rfl) (seg_cell (o' := o0) (j := 3) hm211 (k := 0) rfl hp0 rfl)) ?_
  refine s_val (v := (.int .i64 (ix a0.Posted 0))) (won rfl) rfl rfl (x_move rfl (ev (t := 5) rfl rfl)) ?_
  refine s_exv (won rfl) rfl rfl (e_litp (cells := [(.int .i64 (ix a0.Posted 0))]) (ps := [(0, (.int .i64 (ix a0.Posted 0)))]) rfl slt_26 (pmap_lit (pmap_cons (ev (t := 48) rfl rfl) pmap_nil)) (fun w1 => run_bslicez (cells := [(.int .i64 (ix a0.Posted 0))]) (zs := [.int .i64 0]) (zc := [.int .i64 0]) slt_26 rfl rfl (by kernel_rfl) (fill_cons (cs := [(.int .i64 (ix a0.Posted 0))]) rfl rfl rfl fill_nil) (by decide)) hm211) ?_
  rintro g214 w212 hm213
  have H215 : OwF 3 (FK.int .i64) (.slice (some ⟨g214, 0, none⟩) 1 1) ([(ix a0.Posted 0)] : List Int) (sg g214 3 (0, 0) [] (encs (FK.int .i64) ([(ix a0.Posted 0)] : List Int)) []) := OwF.lit g214 ([(ix a0.Posted 0)] : List Int) 1 rfl (by decide)
  replace hm213 : Mem w0 w212 (cat [(sg g214 3 (0, 0) [] (encs (FK.int .i64) ([(ix a0.Posted 0)] : List Int)) []), sg g0 T0 fr0 pre0 [(.int .i64 a0.Size), (.bool a0.Up), (cutV v0x2 (Int.toNat 1) a0.Posted.length 1), v0x3, (.int .i64 a0.Lost), (.int .i64 a0.Pending), (.int .i64 a0.Every), (.int .i64 a0.Signals)] post0, h0x2, h0x3, h1x0, hF]) := hm213
  refine s_exv (won rfl) rfl rfl (e_append (bytes := 8) rfl slt_26 rfl (ev (t := 47) rfl rfl) (ev (t := 49) rfl rfl) H0x3 (k := 3) rfl (H215.rd w0) (Sub.at_ (k := 0) rfl) hm213 hg217 (len63 hg217 rfl)) ?_
  rintro p219 w221 ⟨H220, hm222⟩
  replace hm222 : Mem w0 w221 (cat [(sg g214 3 (0, 0) [] (encs (FK.int .i64) ([(ix a0.Posted 0)] : List Int)) []), sg g0 T0 fr0 pre0 [(.int .i64 a0.Size), (.bool a0.Up), (cutV v0x2 (Int.toNat 1) a0.Posted.length 1), v0x3, (.int .i64 a0.Lost), (.int .i64 a0.Pending), (.int .i64 a0.Every), (.int .i64 a0.Signals)] post0, h0x2, p219.2, h1x0, hF]) := hm222
  refine s_val (v := (.pointer (some ⟨g0, o0, none⟩))) (won rfl) rfl rfl (x_nil rfl (ev (t := 43) rfl rfl)) ?_
  refine s_val (v := (.pointer (some ⟨g0, o0 + 3, none⟩))) (won rfl) rfl rfl (x_field rfl fa_65x3 (ev (t := 51) rfl rfl)) ?_
  refine s_exs (won rfl) rfl (e_store (vs := [p219.1]) (o' := o0) (j := 3) rfl sz_26 (ev (t := 52) rfl rfl) (ev (t := 50) rfl rfl) (IsSl.cells (H220).sl) (one_cons (IsSl.one (H220).sl) one_nil) hm222 (k := 1) rfl hp0 rfl) ?_
  intro w223 hm224
  replace hm224 : Mem w0 w223 (cat [(sg g214 3 (0, 0) [] (encs (FK.int .i64) ([(ix a0.Posted 0)] : List Int)) []), sg g0 T0 fr0 pre0 [(.int .i64 a0.Size), (.bool a0.Up), (cutV v0x2 (Int.toNat 1) a0.Posted.length 1), p219.1, (.int .i64 a0.Lost), (.int .i64 a0.Pending), (.int .i64 a0.Every), (.int .i64 a0.Signals)] post0, h0x2, p219.2, h1x0, hF]) := hm224
  refine wpList_nil ?_
  have hm225 : Mem w0 w223 (cat [sg g0 T0 fr0 pre0 [(.int .i64 a0.Size), (.bool a0.Up), (cutV v0x2 (Int.toNat 1) a0.Posted.length 1), p219.1, (.int .i64 a0.Lost), (.int .i64 a0.Pending), (.int .i64 a0.Every), (.int .i64 a0.Signals)] post0, h0x2, p219.2, h1x0, hF]) := Mem.pick [1, 2, 3, 4, 5] rfl hm224
  refine nx ?_
  refine wp_seq ?_
  refine wp_region_lit ?_
  refine s_val (v := (.pointer (some ⟨g0, o0, none⟩))) (won rfl) rfl rfl (x_move rfl (ev (t := 0) rfl rfl)) ?_
  refine s_val (v := (.pointer (some ⟨g0, o0, none⟩))) (won rfl) rfl rfl (x_nil rfl (ev (t := 53) rfl rfl)) ?_
  refine s_val (v := (.pointer (some ⟨g0, o0 + 5, none⟩))) (won rfl) rfl rfl (x_field rfl fa_65x5 (ev (t := 54) rfl rfl)) ?_
  refine s_val (v := (.int .i64 a0.Pending)) (won rfl) rfl rfl (x_load rfl ty1x3 (ev (t := 55) rfl rfl) (seg_cell (o' := o0) (j := 5) hm225 (k := 0) rfl hp0 rfl)) ?_
  refine s_val (v := (.int .i64 (IntKind.wrap .i64 (a0.Pending + 1)))) (won rfl) rfl rfl (x_add rfl (ev (t := 56) rfl rfl) rfl) ?_
  refine s_val (v := (.pointer (some ⟨g0, o0, none⟩))) (won rfl) rfl rfl (x_nil rfl (ev (t := 53) rfl rfl)) ?_
  refine s_val (v := (.pointer (some ⟨g0, o0 + 5, none⟩))) (won rfl) rfl rfl (x_field rfl fa_65x5 (ev (t := 58) rfl rfl)) ?_
  refine s_exs (won rfl) rfl (e_store (vs := [(.int .i64 (IntKind.wrap .i64 (a0.Pending + 1)))]) (o' := o0) (j := 5) rfl sz_3 (ev (t := 59) rfl rfl) (ev (t := 57) rfl rfl) rfl rfl hm225 (k := 0) rfl hp0 rfl) ?_
  intro w226 hm227
  replace hm227 : Mem w0 w226 (cat [sg g0 T0 fr0 pre0 [(.int .i64 a0.Size), (.bool a0.Up), (cutV v0x2 (Int.toNat 1) a0.Posted.length 1), p219.1, (.int .i64 a0.Lost), (.int .i64 (IntKind.wrap .i64 (a0.Pending + 1))), (.int .i64 a0.Every), (.int .i64 a0.Signals)] post0, h0x2, p219.2, h1x0, hF]) := hm227
  refine wpList_nil ?_
  refine nx ?_
  obtain ⟨s239, hT241, hk240⟩ := bindE he
  replace he := hT241
  refine wp_seqJ (fun a w => ∃ (f : Nat → Value), a = fr 85 f ∧ f 1 = v1x0 ∧ f 5 = (.int .i64 (ix a0.Posted 0)) ∧ Mem w0 w (cat [sg g0 T0 fr0 pre0 [(.int .i64 a0.Size), (.bool a0.Up), (cutV v0x2 (Int.toNat 1) a0.Posted.length 1), p219.1, (.int .i64 a0.Lost), (.int .i64 s239.1), (.int .i64 a0.Every), (.int .i64 s239.2)] post0, h0x2, p219.2, h1x0, hF])) ?_ ?_
  ·
   refine wp_seq ?_
   refine wp_qregion (cat [sg g0 T0 fr0 pre0 [(.int .i64 a0.Size), (.bool a0.Up), (cutV v0x2 (Int.toNat 1) a0.Posted.length 1), p219.1, (.int .i64 a0.Lost), (.int .i64 (IntKind.wrap .i64 (a0.Pending + 1))), (.int .i64 a0.Every), (.int .i64 a0.Signals)] post0, h0x2, p219.2, h1x0, hF]) mixed (by kernel_rfl) hm227 ?_
   refine q_val (v := (.pointer (some ⟨g0, o0, none⟩))) (won rfl) rfl rfl (fun wq hq => (x_move rfl (ev (t := 0) rfl rfl))) ?_
   refine q_val (v := (.pointer (some ⟨g0, o0, none⟩))) (won rfl) rfl rfl (fun wq hq => (x_nil rfl (ev (t := 60) rfl rfl))) ?_
   refine q_val (v := (.pointer (some ⟨g0, o0 + 5, none⟩))) (won rfl) rfl rfl (fun wq hq => (x_field rfl fa_65x5 (ev (t := 61) rfl rfl))) ?_
   refine q_val (v := (.int .i64 (IntKind.wrap .i64 (a0.Pending + 1)))) (won rfl) rfl rfl (fun wq hq => (x_load rfl ty1x3 (ev (t := 62) rfl rfl) (seg_cell (o' := o0) (j := 5) hq (k := 0) rfl hp0 rfl))) ?_
   refine q_val (v := (.pointer (some ⟨g0, o0, none⟩))) (won rfl) rfl rfl (fun wq hq => (x_move rfl (ev (t := 0) rfl rfl))) ?_
   refine q_val (v := (.pointer (some ⟨g0, o0, none⟩))) (won rfl) rfl rfl (fun wq hq => (x_nil rfl (ev (t := 64) rfl rfl))) ?_
   refine q_val (v := (.pointer (some ⟨g0, o0 + 6, none⟩))) (won rfl) rfl rfl (fun wq hq => (x_field rfl fa_65x6 (ev (t := 65) rfl rfl))) ?_
   refine q_val (v := (.int .i64 a0.Every)) (won rfl) rfl rfl (fun wq hq => (x_load rfl ty1x3 (ev (t := 66) rfl rfl) (seg_cell (o' := o0) (j := 6) hq (k := 0) rfl hp0 rfl))) ?_
   refine q_val (v := (.bool (decide ((IntKind.wrap .i64 (a0.Pending + 1)) = a0.Every)))) (won rfl) rfl rfl (fun wq hq => (x_eql rfl (ev (t := 63) rfl rfl) (ev (t := 67) rfl rfl))) ?_
   refine wpQuiet_nil ?_
   intro w242 hm243
   refine nx ?_
   rcases Bool.eq_false_or_eq_true ((decide ((IntKind.wrap .i64 (a0.Pending + 1)) = a0.Every))) with hb244 | hb244
   ·
    replace he := bifT he hb244
    refine c_true rfl (p := (decide ((IntKind.wrap .i64 (a0.Pending + 1)) = a0.Every))) rfl rfl hb244 ?_
    refine wp_seq ?_
    refine wp_region_lit ?_
    refine s_val (v := (.pointer (some ⟨g0, o0, none⟩))) (won rfl) rfl rfl (x_move rfl (ev (t := 0) rfl rfl)) ?_
    refine s_val (v := (.pointer (some ⟨g0, o0, none⟩))) (won rfl) rfl rfl (x_nil rfl (ev (t := 69) rfl rfl)) ?_
    refine s_val (v := (.pointer (some ⟨g0, o0 + 5, none⟩))) (won rfl) rfl rfl (x_field rfl fa_65x5 (ev (t := 70) rfl rfl)) ?_
    refine s_exs (won rfl) rfl (e_store (vs := [(.int .i64 0)]) (o' := o0) (j := 5) rfl sz_3 (ev (t := 71) rfl rfl) rfl rfl rfl hm243 (k := 0) rfl hp0 rfl) ?_
    intro w245 hm246
    replace hm246 : Mem w0 w245 (cat [sg g0 T0 fr0 pre0 [(.int .i64 a0.Size), (.bool a0.Up), (cutV v0x2 (Int.toNat 1) a0.Posted.length 1), p219.1, (.int .i64 a0.Lost), (.int .i64 0), (.int .i64 a0.Every), (.int .i64 a0.Signals)] post0, h0x2, p219.2, h1x0, hF]) := hm246
    refine wpList_nil ?_
    refine nx ?_
    refine wp_region_lit ?_
    refine s_val (v := (.pointer (some ⟨g0, o0, none⟩))) (won rfl) rfl rfl (x_move rfl (ev (t := 0) rfl rfl)) ?_
    refine s_val (v := (.pointer (some ⟨g0, o0, none⟩))) (won rfl) rfl rfl (x_move rfl (ev (t := 0) rfl rfl)) ?_
    refine s_val (v := (.pointer (some ⟨g0, o0, none⟩))) (won rfl) rfl rfl (x_nil rfl (ev (t := 73) rfl rfl)) ?_
    refine s_val (v := (.pointer (some ⟨g0, o0 + 7, none⟩))) (won rfl) rfl rfl (x_field rfl fa_65x7 (ev (t := 74) rfl rfl)) ?_
    refine s_val (v := (.int .i64 a0.Signals)) (won rfl) rfl rfl (x_load rfl ty1x3 (ev (t := 75) rfl rfl) (seg_cell (o' := o0) (j := 7) hm246 (k := 0) rfl hp0 rfl)) ?_
    refine s_val (v := (.int .i64 (IntKind.wrap .i64 (a0.Signals + 1)))) (won rfl) rfl rfl (x_add rfl (ev (t := 76) rfl rfl) rfl) ?_
    refine s_val (v := (.int .i64 (iMin (IntKind.wrap .i64 (a0.Signals + 1)) 1000000000))) (won rfl) rfl rfl (x_min rfl (ev (t := 77) rfl rfl) rfl) ?_
    refine s_val (v := (.pointer (some ⟨g0, o0, none⟩))) (won rfl) rfl rfl (x_nil rfl (ev (t := 72) rfl rfl)) ?_
    refine s_val (v := (.pointer (some ⟨g0, o0 + 7, none⟩))) (won rfl) rfl rfl (x_field rfl fa_65x7 (ev (t := 79) rfl rfl)) ?_
    refine s_exs (won rfl) rfl (e_store (vs := [(.int .i64 (iMin (IntKind.wrap .i64 (a0.Signals + 1)) 1000000000))]) (o' := o0) (j := 7) rfl sz_3 (ev (t := 80) rfl rfl) (ev (t := 78) rfl rfl) rfl rfl hm246 (k := 0) rfl hp0 rfl) ?_
    intro w247 hm248
    replace hm248 : Mem w0 w247 (cat [sg g0 T0 fr0 pre0 [(.int .i64 a0.Size), (.bool a0.Up), (cutV v0x2 (Int.toNat 1) a0.Posted.length 1), p219.1, (.int .i64 a0.Lost), (.int .i64 0), (.int .i64 a0.Every), (.int .i64 (iMin (IntKind.wrap .i64 (a0.Signals + 1)) 1000000000))] post0, h0x2, p219.2, h1x0, hF]) := hm248
    refine wpList_nil ?_
    refine nx ?_
    obtain rfl := Option.some.inj he
    exact ⟨_, rfl, rfl, rfl, Mem.pick [0, 1, 2, 3, 4] rfl hm248⟩
   ·
    replace he := bifF he hb244
    refine c_false rfl (p := (decide ((IntKind.wrap .i64 (a0.Pending + 1)) = a0.Every))) rfl rfl hb244 ?_
    refine wp_skip ?_
    refine nx ?_
    obtain rfl := Option.some.inj he
    exact ⟨_, rfl, rfl, rfl, Mem.pick [0, 1, 2, 3, 4] rfl hm243⟩
  ·
   rintro a w ⟨f, rfl, q237, q238, hm250⟩
   replace he := hk240
   refine wp_seq ?_
   obtain ⟨hg256, he⟩ := gdE he
   refine wp_region_lit ?_
   refine s_val (v := v1x0) (won rfl) rfl rfl (x_move rfl (ev (t := 1) (v := v1x0) rfl q237)) ?_
   refine s_val (v := (.int .i64 (ix a0.Posted 0))) (won rfl) rfl rfl (x_move rfl (ev (t := 5) (v := (.int .i64 (ix a0.Posted 0))) rfl q238)) ?_
   refine s_exv (won rfl) rfl rfl (e_litp (cells := [(.int .i64 (ix a0.Posted 0))]) (ps := [(0, (.int .i64 (ix a0.Posted 0)))]) rfl slt_26 (pmap_lit (pmap_cons (ev (t := 82) rfl rfl) pmap_nil)) (fun w1 => run_bslicez (cells := [(.int .i64 (ix a0.Posted 0))]) (zs := [.int .i64 0]) (zc := [.int .i64 0]) slt_26 rfl rfl (by kernel_rfl) (fill_cons (cs := [(.int .i64 (ix a0.Posted 0))]) rfl rfl rfl fill_nil) (by decide)) hm250) ?_
   rintro g253 w251 hm252
   have H254 : OwF 3 (FK.int .i64) (.slice (some ⟨g253, 0, none⟩) 1 1) ([(ix a0.Posted 0)] : List Int) (sg g253 3 (0, 0) [] (encs (FK.int .i64) ([(ix a0.Posted 0)] : List Int)) []) := OwF.lit g253 ([(ix a0.Posted 0)] : List Int) 1 rfl (by decide)
   replace hm252 : Mem w0 w251 (cat [(sg g253 3 (0, 0) [] (encs (FK.int .i64) ([(ix a0.Posted 0)] : List Int)) []), sg g0 T0 fr0 pre0 [(.int .i64 a0.Size), (.bool a0.Up), (cutV v0x2 (Int.toNat 1) a0.Posted.length 1), p219.1, (.int .i64 a0.Lost), (.int .i64 s239.1), (.int .i64 a0.Every), (.int .i64 s239.2)] post0, h0x2, p219.2, h1x0, hF]) := hm252
   refine s_exv (won rfl) rfl rfl (e_append (bytes := 8) rfl slt_26 rfl (ev (t := 81) rfl rfl) (ev (t := 83) rfl rfl) H1x0 (k := 4) rfl (H254.rd w0) (Sub.at_ (k := 0) rfl) hm252 hg256 (len63 hg256 rfl)) ?_
   rintro p258 w260 ⟨H259, hm261⟩
   replace hm261 : Mem w0 w260 (cat [(sg g253 3 (0, 0) [] (encs (FK.int .i64) ([(ix a0.Posted 0)] : List Int)) []), sg g0 T0 fr0 pre0 [(.int .i64 a0.Size), (.bool a0.Up), (cutV v0x2 (Int.toNat 1) a0.Posted.length 1), p219.1, (.int .i64 a0.Lost), (.int .i64 s239.1), (.int .i64 a0.Every), (.int .i64 s239.2)] post0, h0x2, p219.2, p258.2, hF]) := hm261
   refine s_val (v := p258.1) (won rfl) rfl rfl (x_assign rfl (ev (t := 84) rfl rfl)) ?_
   refine wpList_nil ?_
   have hm262 : Mem w0 w260 (cat [sg g0 T0 fr0 pre0 [(.int .i64 a0.Size), (.bool a0.Up), (cutV v0x2 (Int.toNat 1) a0.Posted.length 1), p219.1, (.int .i64 a0.Lost), (.int .i64 s239.1), (.int .i64 a0.Every), (.int .i64 s239.2)] post0, h0x2, p219.2, p258.2, hF]) := Mem.pick [1, 2, 3, 4, 5] rfl hm261
   refine nx ?_
   refine wp_ret ?_
   obtain rfl := Option.some.inj he
   refine r_ret (v := p258.1) (rv_one rfl (RVs.tmp (v := p258.1) rfl rfl RVs.nil)) rfl ?_
   exact ⟨(cutV v0x2 (Int.toNat 1) a0.Posted.length 1), h0x2, p219.1, p219.2, p258.1, p258.2, rfl, (OwF.cut (a := (Int.toNat 1)) (b := a0.Posted.length) H0x2 (by have := hg208; omega) (Nat.le_refl _)), H220, H259, Mem.pick [0, 1, 2, 3, 4] rfl hm262⟩
end Go.Proofs.Ytpkdolmbhfmjcaa.FnRing
