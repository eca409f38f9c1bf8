/- What functions of the program compute, and their walks: printed. -/
import Derived.Test.YtpkdolmbhfmjcaaFnPoolT
set_option linter.unusedVariables false
set_option linter.unusedSimpArgs false
set_option linter.unusedSectionVars false
namespace Go.Proofs.Ytpkdolmbhfmjcaa.FnPool
open Go.RowKit Go.Proofs.Gw
attribute [local irreducible] wpList DG wpQuiet wl
def laws_at (a0 : (List Int)) (a1 : Int) (a2 : Int) : Option (Int) := (bif (decide (a2 ≤ 1)) then (some 0) else (bif (decide ((a0.length : Int) = 0)) then gd (a2 ≠ 0) ((some (Int.tmod (IntKind.wrap .i64 (a1 * 7)) a2))) else gd ((a0.length : Int) ≠ 0) (gd ((0 : Int) ≤ (Int.tmod a1 (a0.length : Int)) ∧ (Int.tmod a1 (a0.length : Int)) < (a0.length : Int)) (gd ((a0.length : Int) ≠ 0) (gd ((0 : Int) ≤ (Int.tmod (IntKind.wrap .i64 (a1 + 1)) (a0.length : Int)) ∧ (Int.tmod (IntKind.wrap .i64 (a1 + 1)) (a0.length : Int)) < (a0.length : Int)) (gd ((a0.length : Int) ≠ 0) (gd (a2 ≠ 0) ((some (Int.tmod (IntKind.wrap .i64 ((IntKind.wrap .i64 ((IntKind.wrap .i64 ((IntKind.wrap .i64 (ix a0 (Int.tmod a1 (a0.length : Int)))) * 31)) + (IntKind.wrap .i64 (ix a0 (Int.tmod (IntKind.wrap .i64 (a1 + 1)) (a0.length : Int)))))) + (IntKind.wrap .i64 (Int.tdiv a1 (a0.length : Int))))) a2))))))))))
set_option maxHeartbeats 400000 in
set_option maxRecDepth 100000 in
theorem laws_at_ok {w0 w : World} {hR hF : Hp} {v0x0 : Value} (a0 : (List Int)) (a1 : Int) (a2 : Int) {r : (Int)} (H0x0 : RdF w0 (FK.int .u8) v0x0 a0 hR) (hs : Sub hR hF) (hm : Mem w0 w (cat [hF])) (he : laws_at a0 a1 a2 = some r) :
    Calls Try.prog 9 #[v0x0, (.int .i64 a1), (.int .i64 a2)] w (fun e w' => e = .returned (.int .i64 r) ∧ Mem w0 w' (cat [hF])) := by
 refine calls_fr (n := 42) Try.func9 rfl rfl rfl ?_
 unfold laws_at at he
 refine wp_seq ?_
 refine wp_region_lit ?_
 refine s_val (v := (.int .i64 0)) (won rfl) rfl rfl (x_assign rfl rfl) ?_
 refine wpList_nil ?_
 refine nx ?_
 refine wp_seq ?_
 refine wp_seq ?_
 refine wp_region_lit ?_
 refine s_val (v := (.int .i64 a2)) (won rfl) rfl rfl (x_move rfl (ev (t := 2) rfl rfl)) ?_
 refine s_val (v := (.bool (decide (a2 ≤ 1)))) (won rfl) rfl rfl (x_leq rfl (ev (t := 7) rfl rfl) rfl) ?_
 refine wpList_nil ?_
 refine nx ?_
 rcases Bool.eq_false_or_eq_true ((decide (a2 ≤ 1))) with hb16 | hb16
 ·
  replace he := bifT he hb16
  refine c_true rfl (p := (decide (a2 ≤ 1))) rfl rfl hb16 ?_
  refine wp_seq ?_
  refine wp_region_lit ?_
  refine s_val (v := (.int .i64 0)) (won rfl) rfl rfl (x_assign rfl rfl) ?_
  refine wpList_nil ?_
  refine nx ?_
  refine wp_ret ?_
  refine xr ?_
  obtain rfl := Option.some.inj he
  refine r_ret (v := (.int .i64 0)) (rv_one rfl (RVs.tmp (v := (.int .i64 0)) rfl rfl RVs.nil)) rfl ?_
  exact ⟨rfl, Mem.pick [0] rfl hm⟩
 ·
  replace he := bifF he hb16
  refine c_false rfl (p := (decide (a2 ≤ 1))) rfl rfl hb16 ?_
  refine wp_skip ?_
  refine nx ?_
  refine wp_seq ?_
  refine wp_seq ?_
  refine wp_region_lit ?_
  refine s_val (v := v0x0) (won rfl) rfl rfl (x_move rfl (ev (t := 0) rfl rfl)) ?_
  refine s_val (v := (.int .i64 (a0.length : Int))) (won rfl) rfl rfl (x_len rfl slt_22 (ev (t := 9) rfl rfl) (H0x0).sl) ?_
  refine s_val (v := (.bool (decide ((a0.length : Int) = 0)))) (won rfl) rfl rfl (x_eql rfl (ev (t := 10) rfl rfl) rfl) ?_
  refine wpList_nil ?_
  refine nx ?_
  rcases Bool.eq_false_or_eq_true ((decide ((a0.length : Int) = 0))) with hb19 | hb19
  ·
   replace he := bifT he hb19
   refine c_true rfl (p := (decide ((a0.length : Int) = 0))) rfl rfl hb19 ?_
   refine wp_seq ?_
   obtain ⟨hg20, he⟩ := gdE he
   refine wp_region_lit ?_
   refine s_val (v := (.int .i64 a1)) (won rfl) rfl rfl (x_move rfl (ev (t := 1) rfl rfl)) ?_
   refine s_val (v := (.int .i64 (IntKind.wrap .i64 (a1 * 7)))) (won rfl) rfl rfl (x_mul rfl (ev (t := 12) rfl rfl) rfl) ?_
   refine s_val (v := (.int .i64 a2)) (won rfl) rfl rfl (x_move rfl (ev (t := 2) rfl rfl)) ?_
   refine s_val (v := (.int .i64 (Int.tmod (IntKind.wrap .i64 (a1 * 7)) a2))) (won rfl) rfl rfl (x_rem rfl (ev (t := 13) rfl rfl) (ev (t := 14) rfl rfl) hg20) ?_
   refine s_val (v := (.int .i64 (Int.tmod (IntKind.wrap .i64 (a1 * 7)) a2))) (won rfl) rfl rfl (x_assign rfl (ev (t := 15) rfl rfl)) ?_
   refine wpList_nil ?_
   refine nx ?_
   refine wp_ret ?_
   refine xr ?_
   obtain rfl := Option.some.inj he
   refine r_ret (v := (.int .i64 (Int.tmod (IntKind.wrap .i64 (a1 * 7)) a2))) (rv_one rfl (RVs.tmp (v := (.int .i64 (Int.tmod (IntKind.wrap .i64 (a1 * 7)) a2))) rfl rfl RVs.nil)) rfl ?_
   exact ⟨rfl, Mem.pick [0] rfl hm⟩
  ·
   replace he := bifF he hb19
   refine c_false rfl (p := (decide ((a0.length : Int) = 0))) rfl rfl hb19 ?_
   refine wp_skip ?_
   refine nx ?_
   refine wp_seq ?_
   obtain ⟨hg21, he⟩ := gdE he
   obtain ⟨hg22, he⟩ := gdE he
   obtain ⟨hg23, he⟩ := gdE he
   obtain ⟨hg24, he⟩ := gdE he
   obtain ⟨hg25, he⟩ := gdE he
   obtain ⟨hg26, he⟩ := gdE he
   refine wp_qregion (cat [hF]) mixed (by kernel_rfl) hm ?_
   refine q_val (v := v0x0) (won rfl) rfl rfl (fun wq hq => (x_move rfl (ev (t := 0) rfl rfl))) ?_
   refine q_val (v := (.int .i64 a1)) (won rfl) rfl rfl (fun wq hq => (x_move rfl (ev (t := 1) rfl rfl))) ?_
   refine q_val (v := v0x0) (won rfl) rfl rfl (fun wq hq => (x_move rfl (ev (t := 0) rfl rfl))) ?_
   refine q_val (v := (.int .i64 (a0.length : Int))) (won rfl) rfl rfl (fun wq hq => (x_len rfl slt_22 (ev (t := 18) rfl rfl) (H0x0).sl)) ?_
   refine q_val (v := (.int .i64 (Int.tmod a1 (a0.length : Int)))) (won rfl) rfl rfl (fun wq hq => (x_rem rfl (ev (t := 17) rfl rfl) (ev (t := 19) rfl rfl) hg21)) ?_
   refine q_val (v := (.pointer (some ((slA v0x0).add (Int.toNat (Int.tmod a1 (a0.length : Int)) * 1))))) (won rfl) rfl rfl (fun wq hq => (x_index (d := (FK.int .u8)) rfl slt_22 (ev (t := 16) rfl rfl) (ev (t := 20) rfl rfl) H0x0 hg22.1 hg22.2)) ?_
   refine q_val (v := (.int .u8 (ix a0 (Int.tmod a1 (a0.length : Int))))) (won rfl) rfl rfl (fun wq hq => (x_load rfl ty1x5 (ev (t := 21) rfl rfl) (RdF.cell0 H0x0 hq (Sub.trans hs (Sub.at_ (k := 0) rfl)) hg22.1 hg22.2 rfl))) ?_
   refine q_val (v := (.int .i64 (IntKind.wrap .i64 (ix a0 (Int.tmod a1 (a0.length : Int)))))) (won rfl) rfl rfl (fun wq hq => (x_conv rfl un_5 un_3 (ev (t := 22) rfl rfl))) ?_
   refine q_val (v := (.int .i64 (IntKind.wrap .i64 ((IntKind.wrap .i64 (ix a0 (Int.tmod a1 (a0.length : Int)))) * 31)))) (won rfl) rfl rfl (fun wq hq => (x_mul rfl (ev (t := 23) rfl rfl) rfl)) ?_
   refine q_val (v := v0x0) (won rfl) rfl rfl (fun wq hq => (x_move rfl (ev (t := 0) rfl rfl))) ?_
   refine q_val (v := (.int .i64 a1)) (won rfl) rfl rfl (fun wq hq => (x_move rfl (ev (t := 1) rfl rfl))) ?_
   refine q_val (v := (.int .i64 (IntKind.wrap .i64 (a1 + 1)))) (won rfl) rfl rfl (fun wq hq => (x_add rfl (ev (t := 26) rfl rfl) rfl)) ?_
   refine q_val (v := v0x0) (won rfl) rfl rfl (fun wq hq => (x_move rfl (ev (t := 0) rfl rfl))) ?_
   refine q_val (v := (.int .i64 (a0.length : Int))) (won rfl) rfl rfl (fun wq hq => (x_len rfl slt_22 (ev (t := 28) rfl rfl) (H0x0).sl)) ?_
   refine q_val (v := (.int .i64 (Int.tmod (IntKind.wrap .i64 (a1 + 1)) (a0.length : Int)))) (won rfl) rfl rfl (fun wq hq => (x_rem rfl (ev (t := 27) rfl rfl) (ev (t := 29) rfl rfl) hg23)) ?_
   refine q_val (v := (.pointer (some ((slA v0x0).add (Int.toNat (Int.tmod (IntKind.wrap .i64 (a1 + 1)) (a0.length : Int)) * 1))))) (won rfl) rfl rfl (fun wq hq => (x_index (d := (FK.int .u8)) rfl slt_22 (ev (t := 25) rfl rfl) (ev (t := 30) rfl rfl) H0x0 hg24.1 hg24.2)) ?_
   refine q_val (v := (.int .u8 (ix a0 (Int.tmod (IntKind.wrap .i64 (a1 + 1)) (a0.length : Int))))) (won rfl) rfl rfl (fun wq hq => (x_load rfl ty1x5 (ev (t := 31) rfl rfl) (RdF.cell0 H0x0 hq (Sub.trans hs (Sub.at_ (k := 0) rfl)) hg24.1 hg24.2 rfl))) ?_
   refine q_val (v := (.int .i64 (IntKind.wrap .i64 (ix a0 (Int.tmod (IntKind.wrap .i64 (a1 + 1)) (a0.length : Int)))))) (won rfl) rfl rfl (fun wq hq => (x_conv rfl un_5 un_3 (ev (t := 32) rfl rfl))) ?_
   refine q_val (v := (.int .i64 (IntKind.wrap .i64 ((IntKind.wrap .i64 ((IntKind.wrap .i64 (ix a0 (Int.tmod a1 (a0.length : Int)))) * 31)) + (IntKind.wrap .i64 (ix a0 (Int.tmod (IntKind.wrap .i64 (a1 + 1)) (a0.length : Int)))))))) (won rfl) rfl rfl (fun wq hq => (x_add rfl (ev (t := 24) rfl rfl) (ev (t := 33) rfl rfl))) ?_
   refine q_val (v := (.int .i64 a1)) (won rfl) rfl rfl (fun wq hq => (x_move rfl (ev (t := 1) rfl rfl))) ?_
   refine q_val (v := v0x0) (won rfl) rfl rfl (fun wq hq => (x_move rfl (ev (t := 0) rfl rfl))) ?_
   refine q_val (v := (.int .i64 (a0.length : Int))) (won rfl) rfl rfl (fun wq hq => (x_len rfl slt_22 (ev (t := 36) rfl rfl) (H0x0).sl)) ?_
   refine q_val (v := (.int .i64 (IntKind.wrap .i64 (Int.tdiv a1 (a0.length : Int))))) (won rfl) rfl rfl (fun wq hq => (x_quo rfl (ev (t := 35) rfl rfl) (ev (t := 37) rfl rfl) hg25)) ?_
   refine q_val (v := (.int .i64 (IntKind.wrap .i64 ((IntKind.wrap .i64 ((IntKind.wrap .i64 ((IntKind.wrap .i64 (ix a0 (Int.tmod a1 (a0.length : Int)))) * 31)) + (IntKind.wrap .i64 (ix a0 (Int.tmod (IntKind.wrap .i64 (a1 + 1)) (a0.length : Int)))))) + (IntKind.wrap .i64 (Int.tdiv a1 (a0.length : Int))))))) (won rfl) rfl rfl (fun wq hq => (x_add rfl (ev (t := 34) rfl rfl) (ev (t := 38) rfl rfl))) ?_
   refine q_val (v := (.int .i64 a2)) (won rfl) rfl rfl (fun wq hq => (x_move rfl (ev (t := 2) rfl rfl))) ?_
   refine q_val (v := (.int .i64 (Int.tmod (IntKind.wrap .i64 ((IntKind.wrap .i64 ((IntKind.wrap .i64 ((IntKind.wrap .i64 (ix a0 (Int.tmod a1 (a0.length : Int)))) * 31)) + (IntKind.wrap .i64 (ix a0 (Int.tmod (IntKind.wrap .i64 (a1 + 1)) (a0.length : Int)))))) + (IntKind.wrap .i64 (Int.tdiv a1 (a0.length : Int))))) a2))) (won rfl) rfl rfl (fun wq hq => (x_rem rfl (ev (t := 39) rfl rfl) (ev (t := 40) rfl rfl) hg26)) ?_
   refine q_val (v := (.int .i64 (Int.tmod (IntKind.wrap .i64 ((IntKind.wrap .i64 ((IntKind.wrap .i64 ((IntKind.wrap .i64 (ix a0 (Int.tmod a1 (a0.length : Int)))) * 31)) + (IntKind.wrap .i64 (ix a0 (Int.tmod (IntKind.wrap .i64 (a1 + 1)) (a0.length : Int)))))) + (IntKind.wrap .i64 (Int.tdiv a1 (a0.length : Int))))) a2))) (won rfl) rfl rfl (fun wq hq => (x_assign rfl (ev (t := 41) rfl rfl))) ?_
   refine wpQuiet_nil ?_
   intro w27 hm28
   refine nx ?_
   refine wp_ret ?_
   obtain rfl := Option.some.inj he
   refine r_ret (v := (.int .i64 (Int.tmod (IntKind.wrap .i64 ((IntKind.wrap .i64 ((IntKind.wrap .i64 ((IntKind.wrap .i64 (ix a0 (Int.tmod a1 (a0.length : Int)))) * 31)) + (IntKind.wrap .i64 (ix a0 (Int.tmod (IntKind.wrap .i64 (a1 + 1)) (a0.length : Int)))))) + (IntKind.wrap .i64 (Int.tdiv a1 (a0.length : Int))))) a2))) (rv_one rfl (RVs.tmp (v := (.int .i64 (Int.tmod (IntKind.wrap .i64 ((IntKind.wrap .i64 ((IntKind.wrap .i64 ((IntKind.wrap .i64 (ix a0 (Int.tmod a1 (a0.length : Int)))) * 31)) + (IntKind.wrap .i64 (ix a0 (Int.tmod (IntKind.wrap .i64 (a1 + 1)) (a0.length : Int)))))) + (IntKind.wrap .i64 (Int.tdiv a1 (a0.length : Int))))) a2))) rfl rfl RVs.nil)) rfl ?_
   exact ⟨rfl, Mem.pick [0] rfl hm28⟩
def spec_l00Source (a0 : (List Int)) : Option (spec_l00Src) := (some (spec_l00Src.mk a0 0 (Int.tmod (a0.length : Int) 1000)))
set_option maxHeartbeats 400000 in
set_option maxRecDepth 100000 in
theorem spec_l00Source_ok {w0 w : World} {hR hF : Hp} {v0x0 : Value} (a0 : (List Int)) {r : (spec_l00Src)} (H0x0 : RdF w0 (FK.int .u8) v0x0 a0 hR) (hs : Sub hR hF) (hm : Mem w0 w (cat [hF])) (he : spec_l00Source a0 = some r) :
    Calls Try.prog 56 #[v0x0] w (fun e w' => ∃ (g'0 : Nat) (v'1 : Value) , e = .returned (.pointer (some ⟨g'0, 0, none⟩)) ∧ RdF w0 (FK.int .u8) v'1 r.code (cat [hR]) ∧ Mem w0 w' (cat [sg g'0 118 (0, 0) [] [v'1, (.int .i64 r.at_), (.int .i64 r.seed)] [], hF])) := by
 refine calls_fr (n := 9) Try.func56 rfl rfl rfl ?_
 unfold spec_l00Source at he
 refine wp_seq ?_
 refine wp_region_lit ?_
 refine s_val (v := (.pointer none)) (won rfl) rfl rfl (x_assign rfl rfl) ?_
 refine wpList_nil ?_
 refine nx ?_
 refine wp_seq ?_
 refine wp_region_lit ?_
 refine s_val (v := v0x0) (won rfl) rfl rfl (x_move rfl (ev (t := 0) rfl rfl)) ?_
 refine s_val (v := v0x0) (won rfl) rfl rfl (x_move rfl (ev (t := 0) rfl rfl)) ?_
 refine s_val (v := (.int .i64 (a0.length : Int))) (won rfl) rfl rfl (x_len rfl slt_22 (ev (t := 4) rfl rfl) (H0x0).sl) ?_
 refine s_val (v := (.int .i64 (Int.tmod (a0.length : Int) 1000))) (won rfl) rfl rfl (x_rem rfl (ev (t := 5) rfl rfl) rfl (by decide)) ?_
 refine s_val (v := (.agg #[v0x0, (.int .i64 0), (.int .i64 (Int.tmod (a0.length : Int) 1000))])) (won rfl) rfl rfl (x_build (cells := [v0x0, (.int .i64 0), (.int .i64 (Int.tmod (a0.length : Int) 1000))]) (zc := [.slice none 0 0, .int .i64 0, .int .i64 0]) (sizes := [(0, 1), (1, 1), (2, 1)]) (ps := [(0, v0x0), (2, (.int .i64 (Int.tmod (a0.length : Int) 1000)))]) rfl zt_118 rfl uf_118 ufz_118 (pmap_lit (pmap_cons (ev (t := 3) rfl rfl) (pmap_cons (ev (t := 6) rfl rfl) pmap_nil))) (fill_cons (cs := [v0x0]) rfl (IsSl.cells (H0x0).sl) rfl (fill_cons (cs := [(.int .i64 (Int.tmod (a0.length : Int) 1000))]) rfl rfl rfl fill_nil))) ?_
 refine s_exv (won rfl) rfl rfl (e_box (vs := [v0x0, (.int .i64 0), (.int .i64 (Int.tmod (a0.length : Int) 1000))]) rfl (ev (t := 7) rfl rfl) rfl hm) ?_
 rintro g7 w8 hm9
 refine s_val (v := (.pointer (some ⟨g7, 0, none⟩))) (won rfl) rfl rfl (x_assign rfl (ev (t := 8) rfl rfl)) ?_
 refine wpList_nil ?_
 refine nx ?_
 refine wp_ret ?_
 obtain rfl := Option.some.inj he
 refine r_ret (v := (.pointer (some ⟨g7, 0, none⟩))) (rv_one rfl (RVs.tmp (v := (.pointer (some ⟨g7, 0, none⟩))) rfl rfl RVs.nil)) rfl ?_
 exact ⟨g7, v0x0, rfl, (H0x0.mono (Sub.at_ (k := 0) rfl)), Mem.pick [0, 1] rfl hm9⟩
def spec_l00Src_size (a0 : spec_l00Src) (a1 : Int) : Option (Int) := (some (iMin (IntKind.wrap .i64 (1 + (IntKind.wrap .i64 (Int.tdiv (a0.code.length : Int) 12)))) a1))
set_option maxHeartbeats 400000 in
set_option maxRecDepth 100000 in
theorem spec_l00Src_size_ok {w0 w : World} {hR hF : Hp} {v0x0 : Value} {g0 T0 o0 : Nat} {fr0 : Nat × Nat} {pre0 post0 : List Value} (a0 : spec_l00Src) (a1 : Int) {r : (Int)} (H0x0 : RdF w0 (FK.int .u8) v0x0 a0.code hR) (hs : Sub hR hF) (hp0 : pre0.length = o0) (hm : Mem w0 w (cat [sg g0 T0 fr0 pre0 [v0x0, (.int .i64 a0.at_), (.int .i64 a0.seed)] post0, hF])) (he : spec_l00Src_size a0 a1 = some r) :
    Calls Try.prog 84 #[(.pointer (some ⟨g0, o0, none⟩)), (.int .i64 a1)] w (fun e w' => e = .returned (.int .i64 r) ∧ Mem w0 w' (cat [sg g0 T0 fr0 pre0 [v0x0, (.int .i64 a0.at_), (.int .i64 a0.seed)] post0, hF])) := by
 refine calls_fr (n := 14) Try.func84 rfl rfl rfl ?_
 unfold spec_l00Src_size at he
 refine wp_seq ?_
 refine wp_region_lit ?_
 refine s_val (v := (.int .i64 0)) (won rfl) rfl rfl (x_assign rfl rfl) ?_
 refine wpList_nil ?_
 refine nx ?_
 refine wp_seq ?_
 refine wp_region_lit ?_
 refine s_val (v := (.pointer (some ⟨g0, o0, none⟩))) (won rfl) rfl rfl (x_move rfl (ev (t := 0) rfl rfl)) ?_
 refine s_val (v := (.pointer (some ⟨g0, o0, none⟩))) (won rfl) rfl rfl (x_nil rfl (ev (t := 5) rfl rfl)) ?_
 refine s_val (v := (.pointer (some ⟨g0, o0, none⟩))) (won rfl) rfl rfl (x_field rfl fa_118x0 (ev (t := 6) rfl rfl)) ?_
 refine s_val (v := v0x0) (won rfl) rfl rfl (x_load rfl ty1x22 (ev (t := 7) rfl rfl) (seg_cell (o' := o0) (j := 0) hm (k := 0) rfl hp0 rfl)) ?_
 refine s_val (v := (.int .i64 (a0.code.length : Int))) (won rfl) rfl rfl (x_len rfl slt_22 (ev (t := 8) rfl rfl) (H0x0).sl) ?_
 refine s_val (v := (.int .i64 (IntKind.wrap .i64 (Int.tdiv (a0.code.length : Int) 12)))) (won rfl) rfl rfl (x_quo rfl (ev (t := 9) rfl rfl) rfl (by decide)) ?_
 refine s_val (v := (.int .i64 (IntKind.wrap .i64 (1 + (IntKind.wrap .i64 (Int.tdiv (a0.code.length : Int) 12)))))) (won rfl) rfl rfl (x_add rfl rfl (ev (t := 10) rfl rfl)) ?_
 refine s_val (v := (.int .i64 a1)) (won rfl) rfl rfl (x_move rfl (ev (t := 1) rfl rfl)) ?_
 refine s_val (v := (.int .i64 (iMin (IntKind.wrap .i64 (1 + (IntKind.wrap .i64 (Int.tdiv (a0.code.length : Int) 12)))) a1))) (won rfl) rfl rfl (x_min rfl (ev (t := 11) rfl rfl) (ev (t := 12) rfl rfl)) ?_
 refine s_val (v := (.int .i64 (iMin (IntKind.wrap .i64 (1 + (IntKind.wrap .i64 (Int.tdiv (a0.code.length : Int) 12)))) a1))) (won rfl) rfl rfl (x_assign rfl (ev (t := 13) rfl rfl)) ?_
 refine wpList_nil ?_
 refine nx ?_
 refine wp_ret ?_
 obtain rfl := Option.some.inj he
 refine r_ret (v := (.int .i64 (iMin (IntKind.wrap .i64 (1 + (IntKind.wrap .i64 (Int.tdiv (a0.code.length : Int) 12)))) a1))) (rv_one rfl (RVs.tmp (v := (.int .i64 (iMin (IntKind.wrap .i64 (1 + (IntKind.wrap .i64 (Int.tdiv (a0.code.length : Int) 12)))) a1))) rfl rfl RVs.nil)) rfl ?_
 exact ⟨rfl, Mem.pick [0, 1] rfl hm⟩
def spec_l00Src_byte (a0 : spec_l00Src) : Option (Int × spec_l00Src) := (bif (decide ((IntKind.wrap .i64 (a0.at_ + 1)) ≤ (a0.code.length : Int))) then gd ((0 : Int) ≤ (IntKind.wrap .i64 ((IntKind.wrap .i64 (a0.at_ + 1)) - 1)) ∧ (IntKind.wrap .i64 ((IntKind.wrap .i64 (a0.at_ + 1)) - 1)) < (a0.code.length : Int)) (gd ((0 : Int) ≤ (IntKind.wrap .i64 ((IntKind.wrap .i64 (a0.at_ + 1)) - 1)) ∧ (IntKind.wrap .i64 ((IntKind.wrap .i64 (a0.at_ + 1)) - 1)) < (a0.code.length : Int)) ((some ((IntKind.wrap .i64 (ix a0.code (IntKind.wrap .i64 ((IntKind.wrap .i64 (a0.at_ + 1)) - 1)))), (spec_l00Src.mk a0.code (IntKind.wrap .i64 (a0.at_ + 1)) (Int.tmod (IntKind.wrap .i64 ((IntKind.wrap .i64 ((IntKind.wrap .i64 (a0.seed * 31)) + (IntKind.wrap .i64 (ix a0.code (IntKind.wrap .i64 ((IntKind.wrap .i64 (a0.at_ + 1)) - 1)))))) + 7)) 2147483648)))))) else (bif (decide ((3000 : Int) < (IntKind.wrap .i64 (a0.at_ + 1)))) then (some (0, (spec_l00Src.mk a0.code (IntKind.wrap .i64 (a0.at_ + 1)) a0.seed))) else (some ((Int.tmod (IntKind.wrap .i64 (Int.tdiv (Int.tmod (IntKind.wrap .i64 ((IntKind.wrap .i64 (a0.seed * 1103515245)) + 12345)) 2147483648) 65536)) 256), (spec_l00Src.mk a0.code (IntKind.wrap .i64 (a0.at_ + 1)) (Int.tmod (IntKind.wrap .i64 ((IntKind.wrap .i64 (a0.seed * 1103515245)) + 12345)) 2147483648))))))
set_option maxHeartbeats 400000 in
set_option maxRecDepth 100000 in
theorem spec_l00Src_byte_ok {w0 w : World} {hR hF : Hp} {v0x0 : Value} {g0 T0 o0 : Nat} {fr0 : Nat × Nat} {pre0 post0 : List Value} (a0 : spec_l00Src) {r : (Int × spec_l00Src)} (H0x0 : RdF w0 (FK.int .u8) v0x0 a0.code hR) (hs : Sub hR hF) (hp0 : pre0.length = o0) (hm : Mem w0 w (cat [sg g0 T0 fr0 pre0 [v0x0, (.int .i64 a0.at_), (.int .i64 a0.seed)] post0, hF])) (he : spec_l00Src_byte a0 = some r) :
    Calls Try.prog 94 #[(.pointer (some ⟨g0, o0, none⟩))] w (fun e w' => e = .returned (.int .i64 r.1) ∧ Mem w0 w' (cat [sg g0 T0 fr0 pre0 [v0x0, (.int .i64 r.2.at_), (.int .i64 r.2.seed)] post0, hF])) := by
 refine calls_fr (n := 76) Try.func94 rfl rfl rfl ?_
 unfold spec_l00Src_byte at he
 refine wp_seq ?_
 refine wp_region_lit ?_
 refine s_val (v := (.int .i64 0)) (won rfl) rfl rfl (x_assign rfl rfl) ?_
 refine wpList_nil ?_
 refine nx ?_
 refine wp_seq ?_
 refine wp_region_lit ?_
 refine s_val (v := (.pointer (some ⟨g0, o0, none⟩))) (won rfl) rfl rfl (x_move rfl (ev (t := 0) rfl rfl)) ?_
 refine s_val (v := (.pointer (some ⟨g0, o0, none⟩))) (won rfl) rfl rfl (x_nil rfl (ev (t := 3) rfl rfl)) ?_
 refine s_val (v := (.pointer (some ⟨g0, o0 + 1, none⟩))) (won rfl) rfl rfl (x_field rfl fa_118x1 (ev (t := 4) rfl rfl)) ?_
 refine s_val (v := (.int .i64 a0.at_)) (won rfl) rfl rfl (x_load rfl ty1x3 (ev (t := 5) rfl rfl) (seg_cell (o' := o0) (j := 1) hm (k := 0) rfl hp0 rfl)) ?_
 refine s_val (v := (.int .i64 (IntKind.wrap .i64 (a0.at_ + 1)))) (won rfl) rfl rfl (x_add rfl (ev (t := 6) rfl rfl) rfl) ?_
 refine s_val (v := (.pointer (some ⟨g0, o0, none⟩))) (won rfl) rfl rfl (x_nil rfl (ev (t := 3) rfl rfl)) ?_
 refine s_val (v := (.pointer (some ⟨g0, o0 + 1, none⟩))) (won rfl) rfl rfl (x_field rfl fa_118x1 (ev (t := 8) rfl rfl)) ?_
 refine s_exs (won rfl) rfl (e_store (vs := [(.int .i64 (IntKind.wrap .i64 (a0.at_ + 1)))]) (o' := o0) (j := 1) rfl sz_3 (ev (t := 9) rfl rfl) (ev (t := 7) rfl rfl) rfl rfl hm (k := 0) rfl hp0 rfl) ?_
 intro w27 hm28
 replace hm28 : Mem w0 w27 (cat [sg g0 T0 fr0 pre0 [v0x0, (.int .i64 (IntKind.wrap .i64 (a0.at_ + 1))), (.int .i64 a0.seed)] post0, hF]) := hm28
 refine wpList_nil ?_
 refine nx ?_
 refine wp_seq ?_
 refine wp_seq ?_
 refine wp_qregion (cat [sg g0 T0 fr0 pre0 [v0x0, (.int .i64 (IntKind.wrap .i64 (a0.at_ + 1))), (.int .i64 a0.seed)] post0, hF]) mixed (by kernel_rfl) hm28 ?_
 refine q_val (v := (.pointer (some ⟨g0, o0, none⟩))) (won rfl) rfl rfl (fun wq hq => (x_move rfl (ev (t := 0) rfl rfl))) ?_
 refine q_val (v := (.pointer (some ⟨g0, o0, none⟩))) (won rfl) rfl rfl (fun wq hq => (x_nil rfl (ev (t := 10) rfl rfl))) ?_
 refine q_val (v := (.pointer (some ⟨g0, o0 + 1, none⟩))) (won rfl) rfl rfl (fun wq hq => (x_field rfl fa_118x1 (ev (t := 11) rfl rfl))) ?_
 refine q_val (v := (.int .i64 (IntKind.wrap .i64 (a0.at_ + 1)))) (won rfl) rfl rfl (fun wq hq => (x_load rfl ty1x3 (ev (t := 12) rfl rfl) (seg_cell (o' := o0) (j := 1) hq (k := 0) rfl hp0 rfl))) ?_
 refine q_val (v := (.pointer (some ⟨g0, o0, none⟩))) (won rfl) rfl rfl (fun wq hq => (x_move rfl (ev (t := 0) rfl rfl))) ?_
 refine q_val (v := (.pointer (some ⟨g0, o0, none⟩))) (won rfl) rfl rfl (fun wq hq => (x_nil rfl (ev (t := 14) rfl rfl))) ?_
 refine q_val (v := (.pointer (some ⟨g0, o0, none⟩))) (won rfl) rfl rfl (fun wq hq => (x_field rfl fa_118x0 (ev (t := 15) rfl rfl))) ?_
 refine q_val (v := v0x0) (won rfl) rfl rfl (fun wq hq => (x_load rfl ty1x22 (ev (t := 16) rfl rfl) (seg_cell (o' := o0) (j := 0) hq (k := 0) rfl hp0 rfl))) ?_
 refine q_val (v := (.int .i64 (a0.code.length : Int))) (won rfl) rfl rfl (fun wq hq => (x_len rfl slt_22 (ev (t := 17) rfl rfl) (H0x0).sl)) ?_
 refine q_val (v := (.bool (decide ((IntKind.wrap .i64 (a0.at_ + 1)) ≤ (a0.code.length : Int))))) (won rfl) rfl rfl (fun wq hq => (x_leq rfl (ev (t := 13) rfl rfl) (ev (t := 18) rfl rfl))) ?_
 refine wpQuiet_nil ?_
 intro w39 hm40
 refine nx ?_
 rcases Bool.eq_false_or_eq_true ((decide ((IntKind.wrap .i64 (a0.at_ + 1)) ≤ (a0.code.length : Int)))) with hb41 | hb41
 ·
  replace he := bifT he hb41
  refine c_true rfl (p := (decide ((IntKind.wrap .i64 (a0.at_ + 1)) ≤ (a0.code.length : Int)))) rfl rfl hb41 ?_
  refine wp_seq ?_
  obtain ⟨hg43, he⟩ := gdE he
  refine wp_fit [(0, 1), (1, 1), (2, 1), (3, 1), (4, 1), (5, 1), (6, 1), (7, 1), (8, 1), (9, 1), (10, 1), (11, 1), (12, 1), (13, 1), (14, 1), (15, 1), (16, 1), (17, 1), (18, 1), (19, 1), (20, 1), (21, 1), (22, 1), (23, 2)] (fun w' => Mem w0 w' (cat [hF])) mixed (by kernel_rfl) (Mem.drew (Mem.pick [1] rfl hm40)) ?_
  have hm42 := Mem.drew hm40
  refine z_r (v := (.pointer (some ⟨g0, o0, none⟩))) rfl (won rfl) rfl rfl ((x_move rfl (ev (t := 0) rfl rfl))) ?_
  refine z_r (v := (.pointer (some ⟨g0, o0, none⟩))) rfl (won rfl) rfl rfl ((x_move rfl (ev (t := 0) rfl rfl))) ?_
  refine z_r (v := (.pointer (some ⟨g0, o0, none⟩))) rfl (won rfl) rfl rfl ((x_nil rfl (ev (t := 21) rfl rfl))) ?_
  refine z_r (v := (.pointer (some ⟨g0, o0 + 2, none⟩))) rfl (won rfl) rfl rfl ((x_field rfl fa_118x2 (ev (t := 22) rfl rfl))) ?_
  refine z_r (v := (.int .i64 a0.seed)) rfl (won rfl) rfl rfl ((x_load rfl ty1x3 (ev (t := 23) rfl rfl) (seg_cell (o' := o0) (j := 2) hm42 (k := 0) rfl hp0 rfl))) ?_
  refine z_r (v := (.int .i64 (IntKind.wrap .i64 (a0.seed * 31)))) rfl (won rfl) rfl rfl ((x_mul rfl (ev (t := 24) rfl rfl) rfl)) ?_
  refine z_r (v := (.pointer (some ⟨g0, o0, none⟩))) rfl (won rfl) rfl rfl ((x_move rfl (ev (t := 0) rfl rfl))) ?_
  refine z_r (v := (.pointer (some ⟨g0, o0, none⟩))) rfl (won rfl) rfl rfl ((x_nil rfl (ev (t := 26) rfl rfl))) ?_
  refine z_r (v := (.pointer (some ⟨g0, o0, none⟩))) rfl (won rfl) rfl rfl ((x_field rfl fa_118x0 (ev (t := 27) rfl rfl))) ?_
  refine z_r (v := v0x0) rfl (won rfl) rfl rfl ((x_load rfl ty1x22 (ev (t := 28) rfl rfl) (seg_cell (o' := o0) (j := 0) hm42 (k := 0) rfl hp0 rfl))) ?_
  refine z_r (v := (.pointer (some ⟨g0, o0, none⟩))) rfl (won rfl) rfl rfl ((x_move rfl (ev (t := 0) rfl rfl))) ?_
  refine z_r (v := (.pointer (some ⟨g0, o0, none⟩))) rfl (won rfl) rfl rfl ((x_nil rfl (ev (t := 30) rfl rfl))) ?_
  refine z_r (v := (.pointer (some ⟨g0, o0 + 1, none⟩))) rfl (won rfl) rfl rfl ((x_field rfl fa_118x1 (ev (t := 31) rfl rfl))) ?_
  refine z_r (v := (.int .i64 (IntKind.wrap .i64 (a0.at_ + 1)))) rfl (won rfl) rfl rfl ((x_load rfl ty1x3 (ev (t := 32) rfl rfl) (seg_cell (o' := o0) (j := 1) hm42 (k := 0) rfl hp0 rfl))) ?_
  refine z_r (v := (.int .i64 (IntKind.wrap .i64 ((IntKind.wrap .i64 (a0.at_ + 1)) - 1)))) rfl (won rfl) rfl rfl ((x_sub rfl (ev (t := 33) rfl rfl) rfl)) ?_
  refine z_r (v := (.pointer (some ((slA v0x0).add (Int.toNat (IntKind.wrap .i64 ((IntKind.wrap .i64 (a0.at_ + 1)) - 1)) * 1))))) rfl (won rfl) rfl rfl ((x_index (d := (FK.int .u8)) rfl slt_22 (ev (t := 29) rfl rfl) (ev (t := 34) rfl rfl) H0x0 hg43.1 hg43.2)) ?_
  refine z_r (v := (.int .u8 (ix a0.code (IntKind.wrap .i64 ((IntKind.wrap .i64 (a0.at_ + 1)) - 1))))) rfl (won rfl) rfl rfl ((x_load rfl ty1x5 (ev (t := 35) rfl rfl) (RdF.cell0 H0x0 hm42 (Sub.trans hs (Sub.at_ (k := 1) rfl)) hg43.1 hg43.2 rfl))) ?_
  refine z_r (v := (.int .i64 (IntKind.wrap .i64 (ix a0.code (IntKind.wrap .i64 ((IntKind.wrap .i64 (a0.at_ + 1)) - 1)))))) rfl (won rfl) rfl rfl ((x_conv rfl un_5 un_3 (ev (t := 36) rfl rfl))) ?_
  refine z_r (v := (.int .i64 (IntKind.wrap .i64 ((IntKind.wrap .i64 (a0.seed * 31)) + (IntKind.wrap .i64 (ix a0.code (IntKind.wrap .i64 ((IntKind.wrap .i64 (a0.at_ + 1)) - 1)))))))) rfl (won rfl) rfl rfl ((x_add rfl (ev (t := 25) rfl rfl) (ev (t := 37) rfl rfl))) ?_
  refine z_r (v := (.int .i64 (IntKind.wrap .i64 ((IntKind.wrap .i64 ((IntKind.wrap .i64 (a0.seed * 31)) + (IntKind.wrap .i64 (ix a0.code (IntKind.wrap .i64 ((IntKind.wrap .i64 (a0.at_ + 1)) - 1)))))) + 7)))) rfl (won rfl) rfl rfl ((x_add rfl (ev (t := 38) rfl rfl) rfl)) ?_
  refine z_r (v := (.int .i64 (Int.tmod (IntKind.wrap .i64 ((IntKind.wrap .i64 ((IntKind.wrap .i64 (a0.seed * 31)) + (IntKind.wrap .i64 (ix a0.code (IntKind.wrap .i64 ((IntKind.wrap .i64 (a0.at_ + 1)) - 1)))))) + 7)) 2147483648))) rfl (won rfl) rfl rfl ((x_rem rfl (ev (t := 39) rfl rfl) rfl (by decide))) ?_
  refine z_r (v := (.pointer (some ⟨g0, o0, none⟩))) rfl (won rfl) rfl rfl ((x_nil rfl (ev (t := 20) rfl rfl))) ?_
  refine z_r (v := (.pointer (some ⟨g0, o0 + 2, none⟩))) rfl (won rfl) rfl rfl ((x_field rfl fa_118x2 (ev (t := 41) rfl rfl))) ?_
  refine z_exs rfl (won rfl) rfl (e_store (vs := [(.int .i64 (Int.tmod (IntKind.wrap .i64 ((IntKind.wrap .i64 ((IntKind.wrap .i64 (a0.seed * 31)) + (IntKind.wrap .i64 (ix a0.code (IntKind.wrap .i64 ((IntKind.wrap .i64 (a0.at_ + 1)) - 1)))))) + 7)) 2147483648))]) (o' := o0) (j := 2) rfl sz_3 (ev (t := 42) rfl rfl) (ev (t := 40) rfl rfl) rfl rfl hm42 (k := 0) rfl hp0 rfl) ?_
  intro w44 hm45
  replace hm45 : Mem w0 w44 (cat [sg g0 T0 fr0 pre0 [v0x0, (.int .i64 (IntKind.wrap .i64 (a0.at_ + 1))), (.int .i64 (Int.tmod (IntKind.wrap .i64 ((IntKind.wrap .i64 ((IntKind.wrap .i64 (a0.seed * 31)) + (IntKind.wrap .i64 (ix a0.code (IntKind.wrap .i64 ((IntKind.wrap .i64 (a0.at_ + 1)) - 1)))))) + 7)) 2147483648))] post0, hF]) := hm45
  refine ⟨Mem.pick [1] rfl hm45, ?_⟩
  refine z_nil ?_
  refine nx ?_
  refine wp_seq ?_
  obtain ⟨hg46, he⟩ := gdE he
  refine wp_qregion (cat [sg g0 T0 fr0 pre0 [v0x0, (.int .i64 (IntKind.wrap .i64 (a0.at_ + 1))), (.int .i64 (Int.tmod (IntKind.wrap .i64 ((IntKind.wrap .i64 ((IntKind.wrap .i64 (a0.seed * 31)) + (IntKind.wrap .i64 (ix a0.code (IntKind.wrap .i64 ((IntKind.wrap .i64 (a0.at_ + 1)) - 1)))))) + 7)) 2147483648))] post0, hF]) mixed (by kernel_rfl) hm45 ?_
  refine q_val (v := (.pointer (some ⟨g0, o0, none⟩))) (won rfl) rfl rfl (fun wq hq => (x_move rfl (ev (t := 0) rfl rfl))) ?_
  refine q_val (v := (.pointer (some ⟨g0, o0, none⟩))) (won rfl) rfl rfl (fun wq hq => (x_nil rfl (ev (t := 43) rfl rfl))) ?_
  refine q_val (v := (.pointer (some ⟨g0, o0, none⟩))) (won rfl) rfl rfl (fun wq hq => (x_field rfl fa_118x0 (ev (t := 44) rfl rfl))) ?_
  refine q_val (v := v0x0) (won rfl) rfl rfl (fun wq hq => (x_load rfl ty1x22 (ev (t := 45) rfl rfl) (seg_cell (o' := o0) (j := 0) hq (k := 0) rfl hp0 rfl))) ?_
  refine q_val (v := (.pointer (some ⟨g0, o0, none⟩))) (won rfl) rfl rfl (fun wq hq => (x_move rfl (ev (t := 0) rfl rfl))) ?_
  refine q_val (v := (.pointer (some ⟨g0, o0, none⟩))) (won rfl) rfl rfl (fun wq hq => (x_nil rfl (ev (t := 47) rfl rfl))) ?_
  refine q_val (v := (.pointer (some ⟨g0, o0 + 1, none⟩))) (won rfl) rfl rfl (fun wq hq => (x_field rfl fa_118x1 (ev (t := 48) rfl rfl))) ?_
  refine q_val (v := (.int .i64 (IntKind.wrap .i64 (a0.at_ + 1)))) (won rfl) rfl rfl (fun wq hq => (x_load rfl ty1x3 (ev (t := 49) rfl rfl) (seg_cell (o' := o0) (j := 1) hq (k := 0) rfl hp0 rfl))) ?_
  refine q_val (v := (.int .i64 (IntKind.wrap .i64 ((IntKind.wrap .i64 (a0.at_ + 1)) - 1)))) (won rfl) rfl rfl (fun wq hq => (x_sub rfl (ev (t := 50) rfl rfl) rfl)) ?_
  refine q_val (v := (.pointer (some ((slA v0x0).add (Int.toNat (IntKind.wrap .i64 ((IntKind.wrap .i64 (a0.at_ + 1)) - 1)) * 1))))) (won rfl) rfl rfl (fun wq hq => (x_index (d := (FK.int .u8)) rfl slt_22 (ev (t := 46) rfl rfl) (ev (t := 51) rfl rfl) H0x0 hg46.1 hg46.2)) ?_
  refine q_val (v := (.int .u8 (ix a0.code (IntKind.wrap .i64 ((IntKind.wrap .i64 (a0.at_ + 1)) - 1))))) (won rfl) rfl rfl (fun wq hq => (x_load rfl ty1x5 (ev (t := 52) rfl rfl) (RdF.cell0 H0x0 hq (Sub.trans hs (Sub.at_ (k := 1) rfl)) hg46.1 hg46.2 rfl))) ?_
  refine q_val (v := (.int .i64 (IntKind.wrap .i64 (ix a0.code (IntKind.wrap .i64 ((IntKind.wrap .i64 (a0.at_ + 1)) - 1)))))) (won rfl) rfl rfl (fun wq hq => (x_conv rfl un_5 un_3 (ev (t := 53) rfl rfl))) ?_
  refine q_val (v := (.int .i64 (IntKind.wrap .i64 (ix a0.code (IntKind.wrap .i64 ((IntKind.wrap .i64 (a0.at_ + 1)) - 1)))))) (won rfl) rfl rfl (fun wq hq => (x_assign rfl (ev (t := 54) rfl rfl))) ?_
  refine wpQuiet_nil ?_
  intro w47 hm48
  refine nx ?_
  refine wp_ret ?_
  refine xr ?_
  obtain rfl := Option.some.inj he
  refine r_ret (v := (.int .i64 (IntKind.wrap .i64 (ix a0.code (IntKind.wrap .i64 ((IntKind.wrap .i64 (a0.at_ + 1)) - 1)))))) (rv_one rfl (RVs.tmp (v := (.int .i64 (IntKind.wrap .i64 (ix a0.code (IntKind.wrap .i64 ((IntKind.wrap .i64 (a0.at_ + 1)) - 1)))))) rfl rfl RVs.nil)) rfl ?_
  exact ⟨rfl, Mem.pick [0, 1] rfl hm48⟩
 ·
  replace he := bifF he hb41
  refine c_false rfl (p := (decide ((IntKind.wrap .i64 (a0.at_ + 1)) ≤ (a0.code.length : Int)))) rfl rfl hb41 ?_
  refine wp_skip ?_
  refine nx ?_
  refine wp_seq ?_
  refine wp_seq ?_
  refine wp_region_lit ?_
  refine s_val (v := (.pointer (some ⟨g0, o0, none⟩))) (won rfl) rfl rfl (x_move rfl (ev (t := 0) rfl rfl)) ?_
  refine s_val (v := (.pointer (some ⟨g0, o0, none⟩))) (won rfl) rfl rfl (x_nil rfl (ev (t := 55) rfl rfl)) ?_
  refine s_val (v := (.pointer (some ⟨g0, o0 + 1, none⟩))) (won rfl) rfl rfl (x_field rfl fa_118x1 (ev (t := 56) rfl rfl)) ?_
  refine s_val (v := (.int .i64 (IntKind.wrap .i64 (a0.at_ + 1)))) (won rfl) rfl rfl (x_load rfl ty1x3 (ev (t := 57) rfl rfl) (seg_cell (o' := o0) (j := 1) hm40 (k := 0) rfl hp0 rfl)) ?_
  refine s_val (v := (.bool (decide ((3000 : Int) < (IntKind.wrap .i64 (a0.at_ + 1)))))) (won rfl) rfl rfl (x_gtr rfl (ev (t := 58) rfl rfl) rfl) ?_
  refine wpList_nil ?_
  refine nx ?_
  rcases Bool.eq_false_or_eq_true ((decide ((3000 : Int) < (IntKind.wrap .i64 (a0.at_ + 1))))) with hb50 | hb50
  ·
   replace he := bifT he hb50
   refine c_true rfl (p := (decide ((3000 : Int) < (IntKind.wrap .i64 (a0.at_ + 1))))) rfl rfl hb50 ?_
   refine wp_seq ?_
   refine wp_region_lit ?_
   refine s_val (v := (.int .i64 0)) (won rfl) rfl rfl (x_assign rfl rfl) ?_
   refine wpList_nil ?_
   refine nx ?_
   refine wp_ret ?_
   refine xr ?_
   obtain rfl := Option.some.inj he
   refine r_ret (v := (.int .i64 0)) (rv_one rfl (RVs.tmp (v := (.int .i64 0)) rfl rfl RVs.nil)) rfl ?_
   exact ⟨rfl, Mem.pick [0, 1] rfl hm40⟩
  ·
   replace he := bifF he hb50
   refine c_false rfl (p := (decide ((3000 : Int) < (IntKind.wrap .i64 (a0.at_ + 1))))) rfl rfl hb50 ?_
   refine wp_skip ?_
   refine nx ?_
   refine wp_seq ?_
   refine wp_region_lit ?_
   refine s_val (v := (.pointer (some ⟨g0, o0, none⟩))) (won rfl) rfl rfl (x_move rfl (ev (t := 0) rfl rfl)) ?_
   refine s_val (v := (.pointer (some ⟨g0, o0, none⟩))) (won rfl) rfl rfl (x_move rfl (ev (t := 0) rfl rfl)) ?_
   refine s_val (v := (.pointer (some ⟨g0, o0, none⟩))) (won rfl) rfl rfl (x_nil rfl (ev (t := 61) rfl rfl)) ?_
   refine s_val (v := (.pointer (some ⟨g0, o0 + 2, none⟩))) (won rfl) rfl rfl (x_field rfl fa_118x2 (ev (t := 62) rfl rfl)) ?_
   refine s_val (v := (.int .i64 a0.seed)) (won rfl) rfl rfl (x_load rfl ty1x3 (ev (t := 63) rfl rfl) (seg_cell (o' := o0) (j := 2) hm40 (k := 0) rfl hp0 rfl)) ?_
   refine s_val (v := (.int .i64 (IntKind.wrap .i64 (a0.seed * 1103515245)))) (won rfl) rfl rfl (x_mul rfl (ev (t := 64) rfl rfl) rfl) ?_
   refine s_val (v := (.int .i64 (IntKind.wrap .i64 ((IntKind.wrap .i64 (a0.seed * 1103515245)) + 12345)))) (won rfl) rfl rfl (x_add rfl (ev (t := 65) rfl rfl) rfl) ?_
   refine s_val (v := (.int .i64 (Int.tmod (IntKind.wrap .i64 ((IntKind.wrap .i64 (a0.seed * 1103515245)) + 12345)) 2147483648))) (won rfl) rfl rfl (x_rem rfl (ev (t := 66) rfl rfl) rfl (by decide)) ?_
   refine s_val (v := (.pointer (some ⟨g0, o0, none⟩))) (won rfl) rfl rfl (x_nil rfl (ev (t := 60) rfl rfl)) ?_
   refine s_val (v := (.pointer (some ⟨g0, o0 + 2, none⟩))) (won rfl) rfl rfl (x_field rfl fa_118x2 (ev (t := 68) rfl rfl)) ?_
   refine s_exs (won rfl) rfl (e_store (vs := [(.int .i64 (Int.tmod (IntKind.wrap .i64 ((IntKind.wrap .i64 (a0.seed * 1103515245)) + 12345)) 2147483648))]) (o' := o0) (j := 2) rfl sz_3 (ev (t := 69) rfl rfl) (ev (t := 67) rfl rfl) rfl rfl hm40 (k := 0) rfl hp0 rfl) ?_
   intro w51 hm52
   replace hm52 : Mem w0 w51 (cat [sg g0 T0 fr0 pre0 [v0x0, (.int .i64 (IntKind.wrap .i64 (a0.at_ + 1))), (.int .i64 (Int.tmod (IntKind.wrap .i64 ((IntKind.wrap .i64 (a0.seed * 1103515245)) + 12345)) 2147483648))] post0, hF]) := hm52
   refine wpList_nil ?_
   refine nx ?_
   refine wp_seq ?_
   refine wp_region_lit ?_
   refine s_val (v := (.pointer (some ⟨g0, o0, none⟩))) (won rfl) rfl rfl (x_move rfl (ev (t := 0) rfl rfl)) ?_
   refine s_val (v := (.pointer (some ⟨g0, o0, none⟩))) (won rfl) rfl rfl (x_nil rfl (ev (t := 70) rfl rfl)) ?_
   refine s_val (v := (.pointer (some ⟨g0, o0 + 2, none⟩))) (won rfl) rfl rfl (x_field rfl fa_118x2 (ev (t := 71) rfl rfl)) ?_
   refine s_val (v := (.int .i64 (Int.tmod (IntKind.wrap .i64 ((IntKind.wrap .i64 (a0.seed * 1103515245)) + 12345)) 2147483648))) (won rfl) rfl rfl (x_load rfl ty1x3 (ev (t := 72) rfl rfl) (seg_cell (o' := o0) (j := 2) hm52 (k := 0) rfl hp0 rfl)) ?_
   refine s_val (v := (.int .i64 (IntKind.wrap .i64 (Int.tdiv (Int.tmod (IntKind.wrap .i64 ((IntKind.wrap .i64 (a0.seed * 1103515245)) + 12345)) 2147483648) 65536)))) (won rfl) rfl rfl (x_quo rfl (ev (t := 73) rfl rfl) rfl (by decide)) ?_
   refine s_val (v := (.int .i64 (Int.tmod (IntKind.wrap .i64 (Int.tdiv (Int.tmod (IntKind.wrap .i64 ((IntKind.wrap .i64 (a0.seed * 1103515245)) + 12345)) 2147483648) 65536)) 256))) (won rfl) rfl rfl (x_rem rfl (ev (t := 74) rfl rfl) rfl (by decide)) ?_
   refine s_val (v := (.int .i64 (Int.tmod (IntKind.wrap .i64 (Int.tdiv (Int.tmod (IntKind.wrap .i64 ((IntKind.wrap .i64 (a0.seed * 1103515245)) + 12345)) 2147483648) 65536)) 256))) (won rfl) rfl rfl (x_assign rfl (ev (t := 75) rfl rfl)) ?_
   refine wpList_nil ?_
   refine nx ?_
   refine wp_ret ?_
   obtain rfl := Option.some.inj he
   refine r_ret (v := (.int .i64 (Int.tmod (IntKind.wrap .i64 (Int.tdiv (Int.tmod (IntKind.wrap .i64 ((IntKind.wrap .i64 (a0.seed * 1103515245)) + 12345)) 2147483648) 65536)) 256))) (rv_one rfl (RVs.tmp (v := (.int .i64 (Int.tmod (IntKind.wrap .i64 (Int.tdiv (Int.tmod (IntKind.wrap .i64 ((IntKind.wrap .i64 (a0.seed * 1103515245)) + 12345)) 2147483648) 65536)) 256))) rfl rfl RVs.nil)) rfl ?_
   exact ⟨rfl, Mem.pick [0, 1] rfl hm52⟩
def spec_l00Src_next (a0 : spec_l00Src) (a1 : Int) : Option (Int × spec_l00Src) := (bif (decide (a1 ≤ 1)) then (some (0, a0)) else (bif (decide (a1 ≤ 256)) then (spec_l00Src_byte a0).bind fun r31 => gd (a1 ≠ 0) ((some ((Int.tmod r31.1 a1), (spec_l00Src.mk a0.code r31.2.at_ r31.2.seed)))) else (spec_l00Src_byte a0).bind fun r35 => (spec_l00Src_byte (spec_l00Src.mk a0.code r35.2.at_ r35.2.seed)).bind fun r38 => (spec_l00Src_byte (spec_l00Src.mk a0.code r38.2.at_ r38.2.seed)).bind fun r41 => gd (a1 ≠ 0) ((some ((Int.tmod (IntKind.wrap .i64 ((IntKind.wrap .i64 ((IntKind.wrap .i64 (r35.1 * 65536)) + (IntKind.wrap .i64 (r38.1 * 256)))) + r41.1)) a1), (spec_l00Src.mk a0.code r41.2.at_ r41.2.seed))))))
set_option maxHeartbeats 400000 in
set_option maxRecDepth 100000 in
theorem spec_l00Src_next_ok {w0 w : World} {hR hF : Hp} {v0x0 : Value} {g0 T0 o0 : Nat} {fr0 : Nat × Nat} {pre0 post0 : List Value} (a0 : spec_l00Src) (a1 : Int) {r : (Int × spec_l00Src)} (H0x0 : RdF w0 (FK.int .u8) v0x0 a0.code hR) (hs : Sub hR hF) (hp0 : pre0.length = o0) (hm : Mem w0 w (cat [sg g0 T0 fr0 pre0 [v0x0, (.int .i64 a0.at_), (.int .i64 a0.seed)] post0, hF])) (he : spec_l00Src_next a0 a1 = some r) :
    Calls Try.prog 83 #[(.pointer (some ⟨g0, o0, none⟩)), (.int .i64 a1)] w (fun e w' => e = .returned (.int .i64 r.1) ∧ Mem w0 w' (cat [sg g0 T0 fr0 pre0 [v0x0, (.int .i64 r.2.at_), (.int .i64 r.2.seed)] post0, hF])) := by
 refine calls_fr (n := 31) Try.func83 rfl rfl rfl ?_
 unfold spec_l00Src_next at he
 refine wp_seq ?_
 refine wp_region_lit ?_
 refine s_val (v := (.int .i64 0)) (won rfl) rfl rfl (x_assign rfl rfl) ?_
 refine wpList_nil ?_
 refine nx ?_
 refine wp_seq ?_
 refine wp_seq ?_
 refine wp_region_lit ?_
 refine s_val (v := (.int .i64 a1)) (won rfl) rfl rfl (x_move rfl (ev (t := 1) rfl rfl)) ?_
 refine s_val (v := (.bool (decide (a1 ≤ 1)))) (won rfl) rfl rfl (x_leq rfl (ev (t := 8) rfl rfl) rfl) ?_
 refine wpList_nil ?_
 refine nx ?_
 rcases Bool.eq_false_or_eq_true ((decide (a1 ≤ 1))) with hb24 | hb24
 ·
  replace he := bifT he hb24
  refine c_true rfl (p := (decide (a1 ≤ 1))) rfl rfl hb24 ?_
  refine wp_seq ?_
  refine wp_region_lit ?_
  refine s_val (v := (.int .i64 0)) (won rfl) rfl rfl (x_assign rfl rfl) ?_
  refine wpList_nil ?_
  refine nx ?_
  refine wp_ret ?_
  refine xr ?_
  obtain rfl := Option.some.inj he
  refine r_ret (v := (.int .i64 0)) (rv_one rfl (RVs.tmp (v := (.int .i64 0)) rfl rfl RVs.nil)) rfl ?_
  exact ⟨rfl, Mem.pick [0, 1] rfl hm⟩
 ·
  replace he := bifF he hb24
  refine c_false rfl (p := (decide (a1 ≤ 1))) rfl rfl hb24 ?_
  refine wp_skip ?_
  refine nx ?_
  refine wp_seq ?_
  refine wp_seq ?_
  refine wp_region_lit ?_
  refine s_val (v := (.int .i64 a1)) (won rfl) rfl rfl (x_move rfl (ev (t := 1) rfl rfl)) ?_
  refine s_val (v := (.bool (decide (a1 ≤ 256)))) (won rfl) rfl rfl (x_leq rfl (ev (t := 10) rfl rfl) rfl) ?_
  refine wpList_nil ?_
  refine nx ?_
  rcases Bool.eq_false_or_eq_true ((decide (a1 ≤ 256))) with hb30 | hb30
  ·
   replace he := bifT he hb30
   refine c_true rfl (p := (decide (a1 ≤ 256))) rfl rfl hb30 ?_
   refine wp_seq ?_
   obtain ⟨r31, hr31, he⟩ := bindE he
   obtain ⟨hg34, he⟩ := gdE he
   refine wp_region_lit ?_
   refine s_val (v := (.pointer (some ⟨g0, o0, none⟩))) (won rfl) rfl rfl (x_move rfl (ev (t := 0) rfl rfl)) ?_
   refine s_call (won rfl) rfl rfl (x_call rfl rfl cl_94 (map_lit (map_cons (ev (t := 12) rfl rfl) map_nil))) (spec_l00Src_byte_ok (hR := (cat [hR])) (hF := cat [hF]) a0 (H0x0.mono (Sub.at_ (k := 0) rfl)) (subc (Sub.trans hs (Sub.at_ (k := 0) rfl)) subn) hp0 (Mem.grp [sg g0 T0 fr0 pre0 [v0x0, (.int .i64 a0.at_), (.int .i64 a0.seed)] post0] [hF] (Mem.pick [0, 1] rfl hm)) hr31) ?_
   rintro e w32 ⟨rfl, hm33⟩
   refine ⟨_, rfl, ?_⟩
   replace hm33 : Mem w0 w32 (cat [sg g0 T0 fr0 pre0 [v0x0, (.int .i64 r31.2.at_), (.int .i64 r31.2.seed)] post0, hF]) := Mem.ung [sg g0 T0 fr0 pre0 [v0x0, (.int .i64 r31.2.at_), (.int .i64 r31.2.seed)] post0] [hF] hm33
   refine s_val (v := (.int .i64 a1)) (won rfl) rfl rfl (x_move rfl (ev (t := 1) rfl rfl)) ?_
   refine s_val (v := (.int .i64 (Int.tmod r31.1 a1))) (won rfl) rfl rfl (x_rem rfl (ev (t := 13) rfl rfl) (ev (t := 14) rfl rfl) hg34) ?_
   refine s_val (v := (.int .i64 (Int.tmod r31.1 a1))) (won rfl) rfl rfl (x_assign rfl (ev (t := 15) rfl rfl)) ?_
   refine wpList_nil ?_
   refine nx ?_
   refine wp_ret ?_
   refine xr ?_
   obtain rfl := Option.some.inj he
   refine r_ret (v := (.int .i64 (Int.tmod r31.1 a1))) (rv_one rfl (RVs.tmp (v := (.int .i64 (Int.tmod r31.1 a1))) rfl rfl RVs.nil)) rfl ?_
   exact ⟨rfl, Mem.pick [0, 1] rfl hm33⟩
  ·
   replace he := bifF he hb30
   refine c_false rfl (p := (decide (a1 ≤ 256))) rfl rfl hb30 ?_
   refine wp_skip ?_
   refine nx ?_
   refine wp_seq ?_
   obtain ⟨r35, hr35, he⟩ := bindE he
   refine wp_region_lit ?_
   refine s_val (v := (.pointer (some ⟨g0, o0, none⟩))) (won rfl) rfl rfl (x_move rfl (ev (t := 0) rfl rfl)) ?_
   refine s_call (won rfl) rfl rfl (x_call rfl rfl cl_94 (map_lit (map_cons (ev (t := 16) rfl rfl) map_nil))) (spec_l00Src_byte_ok (hR := (cat [hR])) (hF := cat [hF]) a0 (H0x0.mono (Sub.at_ (k := 0) rfl)) (subc (Sub.trans hs (Sub.at_ (k := 0) rfl)) subn) hp0 (Mem.grp [sg g0 T0 fr0 pre0 [v0x0, (.int .i64 a0.at_), (.int .i64 a0.seed)] post0] [hF] (Mem.pick [0, 1] rfl hm)) hr35) ?_
   rintro e w36 ⟨rfl, hm37⟩
   refine ⟨_, rfl, ?_⟩
   replace hm37 : Mem w0 w36 (cat [sg g0 T0 fr0 pre0 [v0x0, (.int .i64 r35.2.at_), (.int .i64 r35.2.seed)] post0, hF]) := Mem.ung [sg g0 T0 fr0 pre0 [v0x0, (.int .i64 r35.2.at_), (.int .i64 r35.2.seed)] post0] [hF] hm37
   refine s_val (v := (.int .i64 r35.1)) (won rfl) rfl rfl (x_assign rfl (ev (t := 17) rfl rfl)) ?_
   refine wpList_nil ?_
   refine nx ?_
   refine wp_seq ?_
   obtain ⟨r38, hr38, he⟩ := bindE he
   refine wp_region_lit ?_
   refine s_val (v := (.pointer (some ⟨g0, o0, none⟩))) (won rfl) rfl rfl (x_move rfl (ev (t := 0) rfl rfl)) ?_
   refine s_call (won rfl) rfl rfl (x_call rfl rfl cl_94 (map_lit (map_cons (ev (t := 18) rfl rfl) map_nil))) (spec_l00Src_byte_ok (hR := (cat [hR])) (hF := cat [hF]) (spec_l00Src.mk a0.code r35.2.at_ r35.2.seed) (H0x0.mono (Sub.at_ (k := 0) rfl)) (subc (Sub.trans hs (Sub.at_ (k := 0) rfl)) subn) hp0 (Mem.grp [sg g0 T0 fr0 pre0 [v0x0, (.int .i64 r35.2.at_), (.int .i64 r35.2.seed)] post0] [hF] (Mem.pick [0, 1] rfl hm37)) hr38) ?_
   rintro e w39 ⟨rfl, hm40⟩
   refine ⟨_, rfl, ?_⟩
   replace hm40 : Mem w0 w39 (cat [sg g0 T0 fr0 pre0 [v0x0, (.int .i64 r38.2.at_), (.int .i64 r38.2.seed)] post0, hF]) := Mem.ung [sg g0 T0 fr0 pre0 [v0x0, (.int .i64 r38.2.at_), (.int .i64 r38.2.seed)] post0] [hF] hm40
   refine s_val (v := (.int .i64 r38.1)) (won rfl) rfl rfl (x_assign rfl (ev (t := 19) rfl rfl)) ?_
   refine wpList_nil ?_
   refine nx ?_
   refine wp_seq ?_
   obtain ⟨r41, hr41, he⟩ := bindE he
   refine wp_region_lit ?_
   refine s_val (v := (.pointer (some ⟨g0, o0, none⟩))) (won rfl) rfl rfl (x_move rfl (ev (t := 0) rfl rfl)) ?_
   refine s_call (won rfl) rfl rfl (x_call rfl rfl cl_94 (map_lit (map_cons (ev (t := 20) rfl rfl) map_nil))) (spec_l00Src_byte_ok (hR := (cat [hR])) (hF := cat [hF]) (spec_l00Src.mk a0.code r38.2.at_ r38.2.seed) (H0x0.mono (Sub.at_ (k := 0) rfl)) (subc (Sub.trans hs (Sub.at_ (k := 0) rfl)) subn) hp0 (Mem.grp [sg g0 T0 fr0 pre0 [v0x0, (.int .i64 r38.2.at_), (.int .i64 r38.2.seed)] post0] [hF] (Mem.pick [0, 1] rfl hm40)) hr41) ?_
   rintro e w42 ⟨rfl, hm43⟩
   refine ⟨_, rfl, ?_⟩
   replace hm43 : Mem w0 w42 (cat [sg g0 T0 fr0 pre0 [v0x0, (.int .i64 r41.2.at_), (.int .i64 r41.2.seed)] post0, hF]) := Mem.ung [sg g0 T0 fr0 pre0 [v0x0, (.int .i64 r41.2.at_), (.int .i64 r41.2.seed)] post0] [hF] hm43
   refine s_val (v := (.int .i64 r41.1)) (won rfl) rfl rfl (x_assign rfl (ev (t := 21) rfl rfl)) ?_
   refine wpList_nil ?_
   refine nx ?_
   refine wp_seq ?_
   obtain ⟨hg44, he⟩ := gdE he
   refine wp_region_lit ?_
   refine s_val (v := (.int .i64 r35.1)) (won rfl) rfl rfl (x_move rfl (ev (t := 5) rfl rfl)) ?_
   refine s_val (v := (.int .i64 (IntKind.wrap .i64 (r35.1 * 65536)))) (won rfl) rfl rfl (x_mul rfl (ev (t := 22) rfl rfl) rfl) ?_
   refine s_val (v := (.int .i64 r38.1)) (won rfl) rfl rfl (x_move rfl (ev (t := 6) rfl rfl)) ?_
   refine s_val (v := (.int .i64 (IntKind.wrap .i64 (r38.1 * 256)))) (won rfl) rfl rfl (x_mul rfl (ev (t := 24) rfl rfl) rfl) ?_
   refine s_val (v := (.int .i64 (IntKind.wrap .i64 ((IntKind.wrap .i64 (r35.1 * 65536)) + (IntKind.wrap .i64 (r38.1 * 256)))))) (won rfl) rfl rfl (x_add rfl (ev (t := 23) rfl rfl) (ev (t := 25) rfl rfl)) ?_
   refine s_val (v := (.int .i64 r41.1)) (won rfl) rfl rfl (x_move rfl (ev (t := 7) rfl rfl)) ?_
   refine s_val (v := (.int .i64 (IntKind.wrap .i64 ((IntKind.wrap .i64 ((IntKind.wrap .i64 (r35.1 * 65536)) + (IntKind.wrap .i64 (r38.1 * 256)))) + r41.1)))) (won rfl) rfl rfl (x_add rfl (ev (t := 26) rfl rfl) (ev (t := 27) rfl rfl)) ?_
   refine s_val (v := (.int .i64 a1)) (won rfl) rfl rfl (x_move rfl (ev (t := 1) rfl rfl)) ?_
   refine s_val (v := (.int .i64 (Int.tmod (IntKind.wrap .i64 ((IntKind.wrap .i64 ((IntKind.wrap .i64 (r35.1 * 65536)) + (IntKind.wrap .i64 (r38.1 * 256)))) + r41.1)) a1))) (won rfl) rfl rfl (x_rem rfl (ev (t := 28) rfl rfl) (ev (t := 29) rfl rfl) hg44) ?_
   refine s_val (v := (.int .i64 (Int.tmod (IntKind.wrap .i64 ((IntKind.wrap .i64 ((IntKind.wrap .i64 (r35.1 * 65536)) + (IntKind.wrap .i64 (r38.1 * 256)))) + r41.1)) a1))) (won rfl) rfl rfl (x_assign rfl (ev (t := 30) rfl rfl)) ?_
   refine wpList_nil ?_
   refine nx ?_
   refine wp_ret ?_
   obtain rfl := Option.some.inj he
   refine r_ret (v := (.int .i64 (Int.tmod (IntKind.wrap .i64 ((IntKind.wrap .i64 ((IntKind.wrap .i64 (r35.1 * 65536)) + (IntKind.wrap .i64 (r38.1 * 256)))) + r41.1)) a1))) (rv_one rfl (RVs.tmp (v := (.int .i64 (Int.tmod (IntKind.wrap .i64 ((IntKind.wrap .i64 ((IntKind.wrap .i64 (r35.1 * 65536)) + (IntKind.wrap .i64 (r38.1 * 256)))) + r41.1)) a1))) rfl rfl RVs.nil)) rfl ?_
   exact ⟨rfl, Mem.pick [0, 1] rfl hm43⟩
def spec_l00Src_poolActs_l1 (F : Nat) (a0 : spec_l00Src) : Nat → Int → Int → (List impl_PoolAct) → Int → Option (Int × Int × (List impl_PoolAct))
  | 0, _, _, _, _ => none
  | k + 1, s56660, s56661, s56663, s56668 => (bif ((decide ((0 : Int) < s56668)) && (decide ((s56663.length : Int) < 300))) then (spec_l00Src_next (spec_l00Src.mk a0.code s56660 s56661) 8).bind fun r63301 => gd ((0 : Int) ≤ r63301.1 ∧ r63301.1 < (([1, 1, 1, 2, 2, 3, 3, 4] : List Int).length : Int)) ((spec_l00Src_next (spec_l00Src.mk a0.code r63301.2.at_ r63301.2.seed) 3).bind fun r63701 => (spec_l00Src_next (spec_l00Src.mk a0.code r63701.2.at_ r63701.2.seed) 3).bind fun r63901 => (spec_l00Src_next (spec_l00Src.mk a0.code r63901.2.at_ r63901.2.seed) 6).bind fun r64101 => gd ((s56663.length + ([(impl_PoolAct.mk (ix ([1, 1, 1, 2, 2, 3, 3, 4] : List Int) r63301.1) r63701.1 r63901.1 r64101.1)] : List impl_PoolAct).length) * 32 ≤ 140737488355328) (spec_l00Src_poolActs_l1 F a0 k r64101.2.at_ r64101.2.seed (s56663 ++ ([(impl_PoolAct.mk (ix ([1, 1, 1, 2, 2, 3, 3, 4] : List Int) r63301.1) r63701.1 r63901.1 r64101.1)] : List impl_PoolAct)) (IntKind.wrap .i64 (s56668 - 1)))) else (some (s56660, s56661, s56663)))
def spec_l00Src_poolActs (F : Nat) (a0 : spec_l00Src) : Option ((List impl_PoolAct) × spec_l00Src) := ((spec_l00Src_size a0 40).bind fun r48670 => (spec_l00Src_next a0 (IntKind.wrap .i64 (r48670 + 4))).bind fun r48673 => spec_l00Src_poolActs_l1 F a0 F r48673.2.at_ r48673.2.seed ([] : List impl_PoolAct) r48673.1 : Option (Int × Int × (List impl_PoolAct))).bind fun (s48667 : (Int × Int × (List impl_PoolAct))) => (some (s48667.2.2, (spec_l00Src.mk a0.code s48667.1 s48667.2.1)))
set_option maxHeartbeats 400000 in
set_option maxRecDepth 100000 in
theorem spec_l00Src_poolActs_ok (F : Nat) {w0 w : World} {hR hF : Hp} {v0x0 : Value} {g0 T0 o0 : Nat} {fr0 : Nat × Nat} {pre0 post0 : List Value} (a0 : spec_l00Src) {r : ((List impl_PoolAct) × spec_l00Src)} (H0x0 : RdF w0 (FK.int .u8) v0x0 a0.code hR) (hs : Sub hR hF) (hp0 : pre0.length = o0) (hm : Mem w0 w (cat [sg g0 T0 fr0 pre0 [v0x0, (.int .i64 a0.at_), (.int .i64 a0.seed)] post0, hF])) (he : spec_l00Src_poolActs F a0 = some r) :
    Calls Try.prog 57 #[(.pointer (some ⟨g0, o0, none⟩))] w (fun e w' => ∃ (v'0 : Value) (h'0 : Hp), e = .returned v'0 ∧ OwF 39 impl_PoolAct.K v'0 r.1 h'0 ∧ Mem w0 w' (cat [sg g0 T0 fr0 pre0 [v0x0, (.int .i64 r.2.at_), (.int .i64 r.2.seed)] post0, h'0, hF])) := by
 refine calls_fr (n := 36) Try.func57 rfl rfl rfl ?_
 unfold spec_l00Src_poolActs at he
 refine wp_seq ?_
 refine wp_region_lit ?_
 refine s_val (v := (.slice none 0 0)) (won rfl) rfl rfl (x_assign rfl rfl) ?_
 refine wpList_nil ?_
 refine nx ?_
 refine wp_seq ?_
 refine wp_region_lit ?_
 refine s_exv (won rfl) rfl rfl (e_litp (cells := []) (ps := []) rfl slt_24 (pmap_lit pmap_nil) (fun w1 => run_bslice0 slt_24) hm) ?_
 rintro g32665 w32663 hm32664
 have H32666 : OwF 39 impl_PoolAct.K (.slice (some ⟨g32665, 0, none⟩) 0 0) ([] : List impl_PoolAct) (sg g32665 39 (0, 0) [] (encs impl_PoolAct.K ([] : List impl_PoolAct)) []) := OwF.lit g32665 ([] : List impl_PoolAct) 0 rfl (by decide)
 replace hm32664 : Mem w0 w32663 (cat [(sg g32665 39 (0, 0) [] (encs impl_PoolAct.K ([] : List impl_PoolAct)) []), sg g0 T0 fr0 pre0 [v0x0, (.int .i64 a0.at_), (.int .i64 a0.seed)] post0, hF]) := hm32664
 refine s_val (v := (.slice (some ⟨g32665, 0, none⟩) 0 0)) (won rfl) rfl rfl (x_assign rfl (ev (t := 5) rfl rfl)) ?_
 refine wpList_nil ?_
 refine nx ?_
 obtain ⟨s48667, hT48669, hk48668⟩ := bindE he
 replace he := hT48669
 refine wp_seqJ (fun a w => ∃ (v48663 : Value) (h48664 : Hp) (f : Nat → Value), a = fr 36 f ∧ f 3 = v48663 ∧ OwF 39 impl_PoolAct.K v48663 s48667.2.2 h48664 ∧ Mem w0 w (cat [sg g0 T0 fr0 pre0 [v0x0, (.int .i64 s48667.1), (.int .i64 s48667.2.1)] post0, h48664, hF])) ?_ ?_
 ·
  refine wp_seq ?_
  obtain ⟨r48670, hr48670, he⟩ := bindE he
  obtain ⟨r48673, hr48673, he⟩ := bindE he
  refine wp_region_lit ?_
  refine s_val (v := (.pointer (some ⟨g0, o0, none⟩))) (won rfl) rfl rfl (x_move rfl (ev (t := 0) rfl rfl)) ?_
  refine s_val (v := (.pointer (some ⟨g0, o0, none⟩))) (won rfl) rfl rfl (x_move rfl (ev (t := 0) rfl rfl)) ?_
  refine s_call (won rfl) rfl rfl (x_call rfl rfl cl_84 (map_lit (map_cons (ev (t := 7) rfl rfl) (map_cons rfl map_nil)))) (spec_l00Src_size_ok (hR := (cat [hR])) (hF := cat [(sg g32665 39 (0, 0) [] (encs impl_PoolAct.K ([] : List impl_PoolAct)) []), hF]) a0 40 (H0x0.mono (Sub.at_ (k := 0) rfl)) (subc (Sub.trans hs (Sub.at_ (k := 1) rfl)) subn) hp0 (Mem.grp [sg g0 T0 fr0 pre0 [v0x0, (.int .i64 a0.at_), (.int .i64 a0.seed)] post0] [(sg g32665 39 (0, 0) [] (encs impl_PoolAct.K ([] : List impl_PoolAct)) []), hF] (Mem.pick [1, 0, 2] rfl hm32664)) hr48670) ?_
  rintro e w48671 ⟨rfl, hm48672⟩
  refine ⟨_, rfl, ?_⟩
  replace hm48672 : Mem w0 w48671 (cat [sg g0 T0 fr0 pre0 [v0x0, (.int .i64 a0.at_), (.int .i64 a0.seed)] post0, (sg g32665 39 (0, 0) [] (encs impl_PoolAct.K ([] : List impl_PoolAct)) []), hF]) := Mem.ung [sg g0 T0 fr0 pre0 [v0x0, (.int .i64 a0.at_), (.int .i64 a0.seed)] post0] [(sg g32665 39 (0, 0) [] (encs impl_PoolAct.K ([] : List impl_PoolAct)) []), hF] hm48672
  refine s_val (v := (.int .i64 (IntKind.wrap .i64 (r48670 + 4)))) (won rfl) rfl rfl (x_add rfl (ev (t := 8) rfl rfl) rfl) ?_
  refine s_call (won rfl) rfl rfl (x_call rfl rfl cl_83 (map_lit (map_cons (ev (t := 6) rfl rfl) (map_cons (ev (t := 9) rfl rfl) map_nil)))) (spec_l00Src_next_ok (hR := (cat [hR])) (hF := cat [(sg g32665 39 (0, 0) [] (encs impl_PoolAct.K ([] : List impl_PoolAct)) []), hF]) a0 (IntKind.wrap .i64 (r48670 + 4)) (H0x0.mono (Sub.at_ (k := 0) rfl)) (subc (Sub.trans hs (Sub.at_ (k := 1) rfl)) subn) hp0 (Mem.grp [sg g0 T0 fr0 pre0 [v0x0, (.int .i64 a0.at_), (.int .i64 a0.seed)] post0] [(sg g32665 39 (0, 0) [] (encs impl_PoolAct.K ([] : List impl_PoolAct)) []), hF] (Mem.pick [0, 1, 2] rfl hm48672)) hr48673) ?_
  rintro e w48674 ⟨rfl, hm48675⟩
  refine ⟨_, rfl, ?_⟩
  replace hm48675 : Mem w0 w48674 (cat [sg g0 T0 fr0 pre0 [v0x0, (.int .i64 r48673.2.at_), (.int .i64 r48673.2.seed)] post0, (sg g32665 39 (0, 0) [] (encs impl_PoolAct.K ([] : List impl_PoolAct)) []), hF]) := Mem.ung [sg g0 T0 fr0 pre0 [v0x0, (.int .i64 r48673.2.at_), (.int .i64 r48673.2.seed)] post0] [(sg g32665 39 (0, 0) [] (encs impl_PoolAct.K ([] : List impl_PoolAct)) []), hF] hm48675
  refine s_val (v := (.int .i64 r48673.1)) (won rfl) rfl rfl (x_assign rfl (ev (t := 10) rfl rfl)) ?_
  refine wpList_nil ?_
  refine nx ?_
  refine wp_block ?_
  refine wp_fuel (I := fun k => fun a w => ∃ (s56660 : Int) (s56661 : Int) (s56663 : (List impl_PoolAct)) (s56668 : Int) (v56664 : Value) (h56665 : Hp) (f : Nat → Value), spec_l00Src_poolActs_l1 F a0 k s56660 s56661 s56663 s56668 = some s48667 ∧ a = fr 36 f ∧ f 0 = (.pointer (some ⟨g0, o0, none⟩)) ∧ f 3 = v56664 ∧ f 4 = (.int .i64 s56668) ∧ OwF 39 impl_PoolAct.K v56664 s56663 h56665 ∧ Mem w0 w (cat [sg g0 T0 fr0 pre0 [v0x0, (.int .i64 s56660), (.int .i64 s56661)] post0, h56665, hF])) F _ _ ⟨r48673.2.at_, r48673.2.seed, ([] : List impl_PoolAct), r48673.1, (.slice (some ⟨g32665, 0, none⟩) 0 0), (sg g32665 39 (0, 0) [] (encs impl_PoolAct.K ([] : List impl_PoolAct)) []), _, he, rfl, rfl, rfl, rfl, H32666, Mem.pick [0, 1, 2] rfl hm48675⟩ ?_ ?_
  ·
   rintro a w ⟨s56660, s56661, s56663, s56668, v56664, h56665, f, he, rfl, q56662, q56667, q56669, H56666, hm60661⟩
   rw [spec_l00Src_poolActs_l1] at he; exact none_no he
  ·
   rintro k a w ⟨s56660, s56661, s56663, s56668, v56664, h56665, f, he, rfl, q56662, q56667, q56669, H56666, hm60663⟩
   rw [spec_l00Src_poolActs_l1] at he
   refine wp_seq ?_
   refine wp_seq ?_
   refine wp_region_lit ?_
   refine s_val (v := (.int .i64 s56668)) (won rfl) rfl rfl (x_move rfl (ev (t := 4) (v := (.int .i64 s56668)) rfl q56669)) ?_
   refine s_val (v := (.bool (decide ((0 : Int) < s56668)))) (won rfl) rfl rfl (x_gtr rfl (ev (t := 11) rfl rfl) rfl) ?_
   refine s_val (v := (.bool (decide ((0 : Int) < s56668)))) (won rfl) rfl rfl (x_move rfl (ev (t := 12) rfl rfl)) ?_
   refine s_cval (p := (decide ((0 : Int) < s56668))) (v := v56664) (won_t (j := 2) (t := 13) (q := (decide ((0 : Int) < s56668))) rfl rfl rfl rfl rfl) rfl rfl (fun hp => (x_move rfl (ev (t := 3) (v := v56664) rfl q56667))) ?_
   refine s_cval (p := (decide ((0 : Int) < s56668))) (v := (.int .i64 (s56663.length : Int))) (won_t (j := 2) (t := 13) (q := (decide ((0 : Int) < s56668))) rfl rfl rfl rfl rfl) rfl rfl (fun hp => (x_len rfl slt_24 (ev (t := 14) rfl (Eq.trans (b := cv (decide ((0 : Int) < s56668)) v56664) rfl (on_c hp))) (H56666).sl)) ?_
   refine s_cval (p := (decide ((0 : Int) < s56668))) (v := (.bool (decide ((s56663.length : Int) < 300)))) (won_t (j := 2) (t := 13) (q := (decide ((0 : Int) < s56668))) rfl rfl rfl rfl rfl) rfl rfl (fun hp => (x_lss rfl (ev (t := 15) rfl (Eq.trans (b := cv (decide ((0 : Int) < s56668)) (.int .i64 (s56663.length : Int))) rfl (on_c hp))) rfl)) ?_
   refine s_val (v := (.bool ((decide ((0 : Int) < s56668)) && (decide ((s56663.length : Int) < 300))))) (won rfl) rfl rfl (x_pick_and rfl (ev (t := 13) rfl rfl) (fun hq => ev rfl (Eq.trans (b := cv (decide ((0 : Int) < s56668)) (.bool (decide ((s56663.length : Int) < 300)))) rfl (on_c hq))) rfl) ?_
   refine wpList_nil ?_
   refine nx ?_
   rcases Bool.eq_false_or_eq_true (((decide ((0 : Int) < s56668)) && (decide ((s56663.length : Int) < 300)))) with hb60665 | hb60665
   ·
    replace he := bifT he hb60665
    refine c_true rfl (p := ((decide ((0 : Int) < s56668)) && (decide ((s56663.length : Int) < 300)))) rfl rfl hb60665 ?_
    refine wp_skip ?_
    refine nx ?_
    refine wp_seq ?_
    refine wp_block ?_
    obtain ⟨r63301, hr63301, he⟩ := bindE he
    obtain ⟨hg63401, he⟩ := gdE he
    obtain ⟨r63701, hr63701, he⟩ := bindE he
    obtain ⟨r63901, hr63901, he⟩ := bindE he
    obtain ⟨r64101, hr64101, he⟩ := bindE he
    obtain ⟨hg64401, he⟩ := gdE he
    refine wp_drawF (I := fun f b a w => ∃ (vs : Nat → Value) (g63103 : Nat) (g64303 : Nat) (p64403 : Value × Hp), a = fr 36 (sel b [(0, 20), (1, 21), (2, 22), (3, 23), (4, 24), (5, 25), (6, 26), (7, 27), (8, 28), (9, 29), (10, 30), (11, 31), (12, 32), (13, 33), (14, 34), (15, 3)] vs f) ∧ (b 0 = true → vs 0 = v56664) ∧ (b 1 = true → vs 1 = (.slice (some ⟨g63103, 0, none⟩) 8 8)) ∧ (b 2 = true → vs 2 = (.pointer (some ⟨g0, o0, none⟩))) ∧ (b 3 = true → vs 3 = (.int .i64 r63301.1)) ∧ (b 4 = true → vs 4 = (.pointer (some ((slA (.slice (some ⟨g63103, 0, none⟩) 8 8)).add (Int.toNat r63301.1 * 1))))) ∧ (b 5 = true → vs 5 = (.int .i64 (ix ([1, 1, 1, 2, 2, 3, 3, 4] : List Int) r63301.1))) ∧ (b 6 = true → vs 6 = (.pointer (some ⟨g0, o0, none⟩))) ∧ (b 7 = true → vs 7 = (.int .i64 r63701.1)) ∧ (b 8 = true → vs 8 = (.pointer (some ⟨g0, o0, none⟩))) ∧ (b 9 = true → vs 9 = (.int .i64 r63901.1)) ∧ (b 10 = true → vs 10 = (.pointer (some ⟨g0, o0, none⟩))) ∧ (b 11 = true → vs 11 = (.int .i64 r64101.1)) ∧ (b 12 = true → vs 12 = (.agg #[(.int .i64 (ix ([1, 1, 1, 2, 2, 3, 3, 4] : List Int) r63301.1)), (.int .i64 r63701.1), (.int .i64 r63901.1), (.int .i64 r64101.1)])) ∧ (b 13 = true → vs 13 = (.slice (some ⟨g64303, 0, none⟩) 1 1)) ∧ (b 14 = true → vs 14 = p64403.1) ∧ (b 15 = true → vs 15 = p64403.1) ∧ (b 1 = true → OwF 3 (FK.int .i64) (.slice (some ⟨g63103, 0, none⟩) 8 8) ([1, 1, 1, 2, 2, 3, 3, 4] : List Int) (sg g63103 3 (0, 0) [] (encs (FK.int .i64) ([1, 1, 1, 2, 2, 3, 3, 4] : List Int)) [])) ∧ (b 13 = true → OwF 39 impl_PoolAct.K (.slice (some ⟨g64303, 0, none⟩) 1 1) ([(impl_PoolAct.mk (ix ([1, 1, 1, 2, 2, 3, 3, 4] : List Int) r63301.1) r63701.1 r63901.1 r64101.1)] : List impl_PoolAct) (sg g64303 39 (0, 0) [] (encs impl_PoolAct.K ([(impl_PoolAct.mk (ix ([1, 1, 1, 2, 2, 3, 3, 4] : List Int) r63301.1) r63701.1 r63901.1 r64101.1)] : List impl_PoolAct)) [])) ∧ (b 14 = true → OwF 39 impl_PoolAct.K p64403.1 (s56663 ++ ([(impl_PoolAct.mk (ix ([1, 1, 1, 2, 2, 3, 3, 4] : List Int) r63301.1) r63701.1 r63901.1 r64101.1)] : List impl_PoolAct)) p64403.2) ∧ Mem w0 w (cat [(bif b 11 then sg g0 T0 fr0 pre0 [v0x0, (.int .i64 r64101.2.at_), (.int .i64 r64101.2.seed)] post0 else (bif b 9 then sg g0 T0 fr0 pre0 [v0x0, (.int .i64 r63901.2.at_), (.int .i64 r63901.2.seed)] post0 else (bif b 7 then sg g0 T0 fr0 pre0 [v0x0, (.int .i64 r63701.2.at_), (.int .i64 r63701.2.seed)] post0 else (bif b 3 then sg g0 T0 fr0 pre0 [v0x0, (.int .i64 r63301.2.at_), (.int .i64 r63301.2.seed)] post0 else sg g0 T0 fr0 pre0 [v0x0, (.int .i64 s56660), (.int .i64 s56661)] post0)))), (bif b 14 then [] else h56665), hF, (bif b 1 then (sg g63103 3 (0, 0) [] (encs (FK.int .i64) ([1, 1, 1, 2, 2, 3, 3, 4] : List Int)) []) else []), (bif b 13 then (sg g64303 39 (0, 0) [] (encs impl_PoolAct.K ([(impl_PoolAct.mk (ix ([1, 1, 1, 2, 2, 3, 3, 4] : List Int) r63301.1) r63701.1 r63901.1 r64101.1)] : List impl_PoolAct)) []) else []), (bif b 14 then p64403.2 else [])])) mixed (by kernel_rfl) ⟨fun _ => undef, 0, 0, (undef, []), (by rw [sel_false]), fun h => fno h, fun h => fno h, fun h => fno h, fun h => fno h, fun h => fno h, fun h => fno h, fun h => fno h, fun h => fno h, fun h => fno h, fun h => fno h, fun h => fno h, fun h => fno h, fun h => fno h, fun h => fno h, fun h => fno h, fun h => fno h, fun h => fno h, fun h => fno h, fun h => fno h, Mem.drew (Mem.pick [0, 1, 2, 1000, 1001, 1002] rfl hm60663)⟩ (steps_cons (i := 0) ?_ (steps_cons (i := 1) ?_ (steps_cons (i := 2) ?_ (steps_cons (i := 3) ?_ (steps_cons (i := 4) ?_ (steps_cons (i := 5) ?_ (steps_cons (i := 6) ?_ (steps_cons (i := 7) ?_ (steps_cons (i := 8) ?_ (steps_cons (i := 9) ?_ (steps_cons (i := 10) ?_ (steps_cons (i := 11) ?_ (steps_cons (i := 12) ?_ (steps_cons (i := 13) ?_ (steps_cons (i := 14) ?_ (steps_cons (i := 15) ?_ steps_nil)))))))))))))))) ?_
    ·
     intro b a w hI hbi hn hc K hK
     obtain ⟨vs, g63103, g64303, p64403, ha, y0, y1, y2, y3, y4, y5, y6, y7, y8, y9, y10, y11, y12, y13, y14, y15, H63104, H64304, H64404, hm⟩ := hI
     subst ha
     have b14 : b 14 = false := later (j := 14) hc rfl (i := 0) (da rfl) hbi
     have b15 : b 15 = false := later (j := 15) hc rfl (i := 0) (da rfl) hbi
     have hm64601 : Mem w0 w (cat [(bif b 11 then sg g0 T0 fr0 pre0 [v0x0, (.int .i64 r64101.2.at_), (.int .i64 r64101.2.seed)] post0 else (bif b 9 then sg g0 T0 fr0 pre0 [v0x0, (.int .i64 r63901.2.at_), (.int .i64 r63901.2.seed)] post0 else (bif b 7 then sg g0 T0 fr0 pre0 [v0x0, (.int .i64 r63701.2.at_), (.int .i64 r63701.2.seed)] post0 else (bif b 3 then sg g0 T0 fr0 pre0 [v0x0, (.int .i64 r63301.2.at_), (.int .i64 r63301.2.seed)] post0 else sg g0 T0 fr0 pre0 [v0x0, (.int .i64 s56660), (.int .i64 s56661)] post0)))), h56665, hF, (bif b 1 then (sg g63103 3 (0, 0) [] (encs (FK.int .i64) ([1, 1, 1, 2, 2, 3, 3, 4] : List Int)) []) else []), (bif b 13 then (sg g64303 39 (0, 0) [] (encs impl_PoolAct.K ([(impl_PoolAct.mk (ix ([1, 1, 1, 2, 2, 3, 3, 4] : List Int) r63301.1) r63701.1 r63901.1 r64101.1)] : List impl_PoolAct)) []) else [])]) := Mem.pick [0, 1, 2, 3, 4] rfl (Mem.cg (B := [(bif b 11 then sg g0 T0 fr0 pre0 [v0x0, (.int .i64 r64101.2.at_), (.int .i64 r64101.2.seed)] post0 else (bif b 9 then sg g0 T0 fr0 pre0 [v0x0, (.int .i64 r63901.2.at_), (.int .i64 r63901.2.seed)] post0 else (bif b 7 then sg g0 T0 fr0 pre0 [v0x0, (.int .i64 r63701.2.at_), (.int .i64 r63701.2.seed)] post0 else (bif b 3 then sg g0 T0 fr0 pre0 [v0x0, (.int .i64 r63301.2.at_), (.int .i64 r63301.2.seed)] post0 else sg g0 T0 fr0 pre0 [v0x0, (.int .i64 s56660), (.int .i64 s56661)] post0)))), h56665, hF, (bif b 1 then (sg g63103 3 (0, 0) [] (encs (FK.int .i64) ([1, 1, 1, 2, 2, 3, 3, 4] : List Int)) []) else []), (bif b 13 then (sg g64303 39 (0, 0) [] (encs impl_PoolAct.K ([(impl_PoolAct.mk (ix ([1, 1, 1, 2, 2, 3, 3, 4] : List Int) r63301.1) r63701.1 r63901.1 r64101.1)] : List impl_PoolAct)) []) else []), []]) (cat_cons rfl (cat_cons (off_ b14 rfl) (cat_cons rfl (cat_cons rfl (cat_cons rfl (cat_cons (off_ b14 rfl) rfl)))))) hm)
     refine e_val (i := 0) hbi rfl rfl (v := v56664) (won rfl) rfl rfl (x_move rfl (ev (t := 3) (v := v56664) rfl ((sel_off (p := (15, 3)) rfl b15).trans q56667))) ?_
     exact hK _ _ ⟨_, g63103, g64303, p64403, rfl, fun _ => rfl, y1, y2, y3, y4, y5, y6, y7, y8, y9, y10, y11, y12, y13, y14, y15, H63104, H64304, H64404, Mem.gc (A := [(bif b 11 then sg g0 T0 fr0 pre0 [v0x0, (.int .i64 r64101.2.at_), (.int .i64 r64101.2.seed)] post0 else (bif b 9 then sg g0 T0 fr0 pre0 [v0x0, (.int .i64 r63901.2.at_), (.int .i64 r63901.2.seed)] post0 else (bif b 7 then sg g0 T0 fr0 pre0 [v0x0, (.int .i64 r63701.2.at_), (.int .i64 r63701.2.seed)] post0 else (bif b 3 then sg g0 T0 fr0 pre0 [v0x0, (.int .i64 r63301.2.at_), (.int .i64 r63301.2.seed)] post0 else sg g0 T0 fr0 pre0 [v0x0, (.int .i64 s56660), (.int .i64 s56661)] post0)))), h56665, hF, (bif b 1 then (sg g63103 3 (0, 0) [] (encs (FK.int .i64) ([1, 1, 1, 2, 2, 3, 3, 4] : List Int)) []) else []), (bif b 13 then (sg g64303 39 (0, 0) [] (encs impl_PoolAct.K ([(impl_PoolAct.mk (ix ([1, 1, 1, 2, 2, 3, 3, 4] : List Int) r63301.1) r63701.1 r63901.1 r64101.1)] : List impl_PoolAct)) []) else []), []]) (cat_cons rfl (cat_cons (off_ b14 rfl) (cat_cons rfl (cat_cons rfl (cat_cons rfl (cat_cons (off_ b14 rfl) rfl)))))) (Mem.pick [0, 1, 2, 3, 4, 1005] rfl hm64601)⟩
    ·
     intro b a w hI hbi hn hc K hK
     obtain ⟨vs, g63103, g64303, p64403, ha, y0, y1, y2, y3, y4, y5, y6, y7, y8, y9, y10, y11, y12, y13, y14, y15, H63104, H64304, H64404, hm⟩ := hI
     subst ha
     have b4 : b 4 = false := later (j := 4) hc rfl (i := 1) (da rfl) hbi
     have b5 : b 5 = false := later (j := 5) hc rfl (i := 4) (da rfl) b4
     have b12 : b 12 = false := later (j := 12) hc rfl (i := 5) (da rfl) b5
     have b13 : b 13 = false := later (j := 13) hc rfl (i := 12) (da rfl) b12
     have b14 : b 14 = false := later (j := 14) hc rfl (i := 13) (da rfl) b13
     have b15 : b 15 = false := later (j := 15) hc rfl (i := 1) (da rfl) hbi
     have hm64604 : Mem w0 w (cat [(bif b 11 then sg g0 T0 fr0 pre0 [v0x0, (.int .i64 r64101.2.at_), (.int .i64 r64101.2.seed)] post0 else (bif b 9 then sg g0 T0 fr0 pre0 [v0x0, (.int .i64 r63901.2.at_), (.int .i64 r63901.2.seed)] post0 else (bif b 7 then sg g0 T0 fr0 pre0 [v0x0, (.int .i64 r63701.2.at_), (.int .i64 r63701.2.seed)] post0 else (bif b 3 then sg g0 T0 fr0 pre0 [v0x0, (.int .i64 r63301.2.at_), (.int .i64 r63301.2.seed)] post0 else sg g0 T0 fr0 pre0 [v0x0, (.int .i64 s56660), (.int .i64 s56661)] post0)))), h56665, hF]) := Mem.pick [0, 1, 2] rfl (Mem.cg (B := [(bif b 11 then sg g0 T0 fr0 pre0 [v0x0, (.int .i64 r64101.2.at_), (.int .i64 r64101.2.seed)] post0 else (bif b 9 then sg g0 T0 fr0 pre0 [v0x0, (.int .i64 r63901.2.at_), (.int .i64 r63901.2.seed)] post0 else (bif b 7 then sg g0 T0 fr0 pre0 [v0x0, (.int .i64 r63701.2.at_), (.int .i64 r63701.2.seed)] post0 else (bif b 3 then sg g0 T0 fr0 pre0 [v0x0, (.int .i64 r63301.2.at_), (.int .i64 r63301.2.seed)] post0 else sg g0 T0 fr0 pre0 [v0x0, (.int .i64 s56660), (.int .i64 s56661)] post0)))), h56665, hF, [], [], []]) (cat_cons rfl (cat_cons (off_ b14 rfl) (cat_cons rfl (cat_cons (off_ hbi rfl) (cat_cons (off_ b13 rfl) (cat_cons (off_ b14 rfl) rfl)))))) hm)
     refine e_exv (i := 1) hbi rfl rfl (won rfl) rfl rfl (e_litp (cells := [(.int .i64 1), (.int .i64 1), (.int .i64 1), (.int .i64 2), (.int .i64 2), (.int .i64 3), (.int .i64 3), (.int .i64 4)]) (ps := [(0, (.int .i64 1)), (1, (.int .i64 1)), (2, (.int .i64 1)), (3, (.int .i64 2)), (4, (.int .i64 2)), (5, (.int .i64 3)), (6, (.int .i64 3)), (7, (.int .i64 4))]) rfl slt_26 (pmap_lit (pmap_cons rfl (pmap_cons rfl (pmap_cons rfl (pmap_cons rfl (pmap_cons rfl (pmap_cons rfl (pmap_cons rfl (pmap_cons rfl pmap_nil))))))))) (fun w1 => run_bslicez (cells := [(.int .i64 1), (.int .i64 1), (.int .i64 1), (.int .i64 2), (.int .i64 2), (.int .i64 3), (.int .i64 3), (.int .i64 4)]) (zs := [.int .i64 0, .int .i64 0, .int .i64 0, .int .i64 0, .int .i64 0, .int .i64 0, .int .i64 0, .int .i64 0]) (zc := [.int .i64 0]) slt_26 rfl rfl (by kernel_rfl) (fill_cons (cs := [(.int .i64 1)]) rfl rfl rfl (fill_cons (cs := [(.int .i64 1)]) rfl rfl rfl (fill_cons (cs := [(.int .i64 1)]) rfl rfl rfl (fill_cons (cs := [(.int .i64 2)]) rfl rfl rfl (fill_cons (cs := [(.int .i64 2)]) rfl rfl rfl (fill_cons (cs := [(.int .i64 3)]) rfl rfl rfl (fill_cons (cs := [(.int .i64 3)]) rfl rfl rfl (fill_cons (cs := [(.int .i64 4)]) rfl rfl rfl fill_nil)))))))) (by decide)) hm64604) ?_
     rintro g63103 w63101 hm63102
     have H63104 : OwF 3 (FK.int .i64) (.slice (some ⟨g63103, 0, none⟩) 8 8) ([1, 1, 1, 2, 2, 3, 3, 4] : List Int) (sg g63103 3 (0, 0) [] (encs (FK.int .i64) ([1, 1, 1, 2, 2, 3, 3, 4] : List Int)) []) := OwF.lit g63103 ([1, 1, 1, 2, 2, 3, 3, 4] : List Int) 8 rfl (by decide)
     replace hm63102 : Mem w0 w63101 (cat [(sg g63103 3 (0, 0) [] (encs (FK.int .i64) ([1, 1, 1, 2, 2, 3, 3, 4] : List Int)) []), (bif b 11 then sg g0 T0 fr0 pre0 [v0x0, (.int .i64 r64101.2.at_), (.int .i64 r64101.2.seed)] post0 else (bif b 9 then sg g0 T0 fr0 pre0 [v0x0, (.int .i64 r63901.2.at_), (.int .i64 r63901.2.seed)] post0 else (bif b 7 then sg g0 T0 fr0 pre0 [v0x0, (.int .i64 r63701.2.at_), (.int .i64 r63701.2.seed)] post0 else (bif b 3 then sg g0 T0 fr0 pre0 [v0x0, (.int .i64 r63301.2.at_), (.int .i64 r63301.2.seed)] post0 else sg g0 T0 fr0 pre0 [v0x0, (.int .i64 s56660), (.int .i64 s56661)] post0)))), h56665, hF]) := hm63102
     exact hK _ _ ⟨_, g63103, g64303, p64403, rfl, y0, fun _ => rfl, y2, y3, fun hb => ab b4 hb, y5, y6, y7, y8, y9, y10, y11, y12, y13, y14, y15, fun _ => H63104, H64304, H64404, Mem.gc (A := [(bif b 11 then sg g0 T0 fr0 pre0 [v0x0, (.int .i64 r64101.2.at_), (.int .i64 r64101.2.seed)] post0 else (bif b 9 then sg g0 T0 fr0 pre0 [v0x0, (.int .i64 r63901.2.at_), (.int .i64 r63901.2.seed)] post0 else (bif b 7 then sg g0 T0 fr0 pre0 [v0x0, (.int .i64 r63701.2.at_), (.int .i64 r63701.2.seed)] post0 else (bif b 3 then sg g0 T0 fr0 pre0 [v0x0, (.int .i64 r63301.2.at_), (.int .i64 r63301.2.seed)] post0 else sg g0 T0 fr0 pre0 [v0x0, (.int .i64 s56660), (.int .i64 s56661)] post0)))), h56665, hF, (sg g63103 3 (0, 0) [] (encs (FK.int .i64) ([1, 1, 1, 2, 2, 3, 3, 4] : List Int)) []), [], []]) (cat_cons rfl (cat_cons (off_ b14 rfl) (cat_cons rfl (cat_cons (on_ rfl rfl) (cat_cons (off_ b13 rfl) (cat_cons (off_ b14 rfl) rfl)))))) (Mem.pick [1, 2, 3, 0, 1004, 1005] rfl hm63102)⟩
    ·
     intro b a w hI hbi hn hc K hK
     obtain ⟨vs, g63103, g64303, p64403, ha, y0, y1, y2, y3, y4, y5, y6, y7, y8, y9, y10, y11, y12, y13, y14, y15, H63104, H64304, H64404, hm⟩ := hI
     subst ha
     have b3 : b 3 = false := later (j := 3) hc rfl (i := 2) (da rfl) hbi
     have b4 : b 4 = false := later (j := 4) hc rfl (i := 3) (da rfl) b3
     have b5 : b 5 = false := later (j := 5) hc rfl (i := 4) (da rfl) b4
     have b7 : b 7 = false := later (j := 7) hc rfl (i := 3) (da rfl) b3
     have b9 : b 9 = false := later (j := 9) hc rfl (i := 7) (da rfl) b7
     have b11 : b 11 = false := later (j := 11) hc rfl (i := 9) (da rfl) b9
     have b12 : b 12 = false := later (j := 12) hc rfl (i := 5) (da rfl) b5
     have b13 : b 13 = false := later (j := 13) hc rfl (i := 12) (da rfl) b12
     have b14 : b 14 = false := later (j := 14) hc rfl (i := 11) (da rfl) b11
     have b15 : b 15 = false := later (j := 15) hc rfl (i := 2) (da rfl) hbi
     have hm64607 : Mem w0 w (cat [sg g0 T0 fr0 pre0 [v0x0, (.int .i64 s56660), (.int .i64 s56661)] post0, h56665, hF, (bif b 1 then (sg g63103 3 (0, 0) [] (encs (FK.int .i64) ([1, 1, 1, 2, 2, 3, 3, 4] : List Int)) []) else [])]) := Mem.pick [0, 1, 2, 3] rfl (Mem.cg (B := [sg g0 T0 fr0 pre0 [v0x0, (.int .i64 s56660), (.int .i64 s56661)] post0, h56665, hF, (bif b 1 then (sg g63103 3 (0, 0) [] (encs (FK.int .i64) ([1, 1, 1, 2, 2, 3, 3, 4] : List Int)) []) else []), [], []]) (cat_cons (off_ b11 (off_ b9 (off_ b7 (off_ b3 rfl)))) (cat_cons (off_ b14 rfl) (cat_cons rfl (cat_cons rfl (cat_cons (off_ b13 rfl) (cat_cons (off_ b14 rfl) rfl)))))) hm)
     refine e_val (i := 2) hbi rfl rfl (v := (.pointer (some ⟨g0, o0, none⟩))) (won rfl) rfl rfl (x_move rfl (ev (t := 0) (v := (.pointer (some ⟨g0, o0, none⟩))) rfl ((sel_no rfl).trans q56662))) ?_
     exact hK _ _ ⟨_, g63103, g64303, p64403, rfl, y0, y1, fun _ => rfl, y3, y4, y5, y6, y7, y8, y9, y10, y11, y12, y13, y14, y15, H63104, H64304, H64404, Mem.gc (A := [sg g0 T0 fr0 pre0 [v0x0, (.int .i64 s56660), (.int .i64 s56661)] post0, h56665, hF, (bif b 1 then (sg g63103 3 (0, 0) [] (encs (FK.int .i64) ([1, 1, 1, 2, 2, 3, 3, 4] : List Int)) []) else []), [], []]) (cat_cons (off_ b11 (off_ b9 (off_ b7 (off_ b3 rfl)))) (cat_cons (off_ b14 rfl) (cat_cons rfl (cat_cons rfl (cat_cons (off_ b13 rfl) (cat_cons (off_ b14 rfl) rfl)))))) (Mem.pick [0, 1, 2, 3, 1004, 1005] rfl hm64607)⟩
    ·
     intro b a w hI hbi hn hc K hK
     obtain ⟨vs, g63103, g64303, p64403, ha, y0, y1, y2, y3, y4, y5, y6, y7, y8, y9, y10, y11, y12, y13, y14, y15, H63104, H64304, H64404, hm⟩ := hI
     subst ha
     have b2 : b 2 = true := hn 2 (da rfl)
     have b4 : b 4 = false := later (j := 4) hc rfl (i := 3) (da rfl) hbi
     have b5 : b 5 = false := later (j := 5) hc rfl (i := 4) (da rfl) b4
     have b7 : b 7 = false := later (j := 7) hc rfl (i := 3) (da rfl) hbi
     have b9 : b 9 = false := later (j := 9) hc rfl (i := 7) (da rfl) b7
     have b11 : b 11 = false := later (j := 11) hc rfl (i := 9) (da rfl) b9
     have b12 : b 12 = false := later (j := 12) hc rfl (i := 5) (da rfl) b5
     have b13 : b 13 = false := later (j := 13) hc rfl (i := 12) (da rfl) b12
     have b14 : b 14 = false := later (j := 14) hc rfl (i := 11) (da rfl) b11
     have b15 : b 15 = false := later (j := 15) hc rfl (i := 3) (da rfl) hbi
     have hm64610 : Mem w0 w (cat [sg g0 T0 fr0 pre0 [v0x0, (.int .i64 s56660), (.int .i64 s56661)] post0, h56665, hF, (bif b 1 then (sg g63103 3 (0, 0) [] (encs (FK.int .i64) ([1, 1, 1, 2, 2, 3, 3, 4] : List Int)) []) else [])]) := Mem.pick [0, 1, 2, 3] rfl (Mem.cg (B := [sg g0 T0 fr0 pre0 [v0x0, (.int .i64 s56660), (.int .i64 s56661)] post0, h56665, hF, (bif b 1 then (sg g63103 3 (0, 0) [] (encs (FK.int .i64) ([1, 1, 1, 2, 2, 3, 3, 4] : List Int)) []) else []), [], []]) (cat_cons (off_ b11 (off_ b9 (off_ b7 (off_ hbi rfl)))) (cat_cons (off_ b14 rfl) (cat_cons rfl (cat_cons rfl (cat_cons (off_ b13 rfl) (cat_cons (off_ b14 rfl) rfl)))))) hm)
     refine e_call (i := 3) hbi rfl rfl (won rfl) rfl rfl (x_call rfl rfl cl_83 (map_lit (map_cons (ev (t := 22) (v := (.pointer (some ⟨g0, o0, none⟩))) rfl ((sel_on (p := (2, 22)) rfl b2).trans (y2 b2))) (map_cons rfl map_nil)))) (spec_l00Src_next_ok (hR := (cat [hR])) (hF := cat [h56665, hF, (bif b 1 then (sg g63103 3 (0, 0) [] (encs (FK.int .i64) ([1, 1, 1, 2, 2, 3, 3, 4] : List Int)) []) else [])]) (spec_l00Src.mk a0.code s56660 s56661) 8 (H0x0.mono (Sub.at_ (k := 0) rfl)) (subc (Sub.trans hs (Sub.at_ (k := 1) rfl)) subn) hp0 (Mem.grp [sg g0 T0 fr0 pre0 [v0x0, (.int .i64 s56660), (.int .i64 s56661)] post0] [h56665, hF, (bif b 1 then (sg g63103 3 (0, 0) [] (encs (FK.int .i64) ([1, 1, 1, 2, 2, 3, 3, 4] : List Int)) []) else [])] (Mem.pick [0, 1, 2, 3] rfl hm64610)) hr63301) ?_
     rintro e w63302 ⟨rfl, hm63303⟩
     refine ⟨_, rfl, ?_⟩
     replace hm63303 : Mem w0 w63302 (cat [sg g0 T0 fr0 pre0 [v0x0, (.int .i64 r63301.2.at_), (.int .i64 r63301.2.seed)] post0, h56665, hF, (bif b 1 then (sg g63103 3 (0, 0) [] (encs (FK.int .i64) ([1, 1, 1, 2, 2, 3, 3, 4] : List Int)) []) else [])]) := Mem.ung [sg g0 T0 fr0 pre0 [v0x0, (.int .i64 r63301.2.at_), (.int .i64 r63301.2.seed)] post0] [h56665, hF, (bif b 1 then (sg g63103 3 (0, 0) [] (encs (FK.int .i64) ([1, 1, 1, 2, 2, 3, 3, 4] : List Int)) []) else [])] hm63303
     exact hK _ _ ⟨_, g63103, g64303, p64403, rfl, y0, y1, y2, fun _ => rfl, y4, y5, y6, y7, y8, y9, y10, y11, y12, y13, y14, y15, H63104, H64304, H64404, Mem.gc (A := [sg g0 T0 fr0 pre0 [v0x0, (.int .i64 r63301.2.at_), (.int .i64 r63301.2.seed)] post0, h56665, hF, (bif b 1 then (sg g63103 3 (0, 0) [] (encs (FK.int .i64) ([1, 1, 1, 2, 2, 3, 3, 4] : List Int)) []) else []), [], []]) (cat_cons (off_ b11 (off_ b9 (off_ b7 (on_ rfl rfl)))) (cat_cons (off_ b14 rfl) (cat_cons rfl (cat_cons rfl (cat_cons (off_ b13 rfl) (cat_cons (off_ b14 rfl) rfl)))))) (Mem.pick [0, 1, 2, 3, 1004, 1005] rfl hm63303)⟩
    ·
     intro b a w hI hbi hn hc K hK
     obtain ⟨vs, g63103, g64303, p64403, ha, y0, y1, y2, y3, y4, y5, y6, y7, y8, y9, y10, y11, y12, y13, y14, y15, H63104, H64304, H64404, hm⟩ := hI
     subst ha
     have b1 : b 1 = true := hn 1 (da rfl)
     have b3 : b 3 = true := hn 3 (da rfl)
     have b2 : b 2 = true := hc 3 _ rfl b3 2 (da rfl)
     have b5 : b 5 = false := later (j := 5) hc rfl (i := 4) (da rfl) hbi
     have b12 : b 12 = false := later (j := 12) hc rfl (i := 5) (da rfl) b5
     have b13 : b 13 = false := later (j := 13) hc rfl (i := 12) (da rfl) b12
     have b14 : b 14 = false := later (j := 14) hc rfl (i := 13) (da rfl) b13
     have b15 : b 15 = false := later (j := 15) hc rfl (i := 4) (da rfl) hbi
     have H63104 := H63104 b1
     have hm64613 : Mem w0 w (cat [(bif b 11 then sg g0 T0 fr0 pre0 [v0x0, (.int .i64 r64101.2.at_), (.int .i64 r64101.2.seed)] post0 else (bif b 9 then sg g0 T0 fr0 pre0 [v0x0, (.int .i64 r63901.2.at_), (.int .i64 r63901.2.seed)] post0 else (bif b 7 then sg g0 T0 fr0 pre0 [v0x0, (.int .i64 r63701.2.at_), (.int .i64 r63701.2.seed)] post0 else (bif b 3 then sg g0 T0 fr0 pre0 [v0x0, (.int .i64 r63301.2.at_), (.int .i64 r63301.2.seed)] post0 else sg g0 T0 fr0 pre0 [v0x0, (.int .i64 s56660), (.int .i64 s56661)] post0)))), h56665, hF, (sg g63103 3 (0, 0) [] (encs (FK.int .i64) ([1, 1, 1, 2, 2, 3, 3, 4] : List Int)) [])]) := Mem.pick [0, 1, 2, 3] rfl (Mem.cg (B := [(bif b 11 then sg g0 T0 fr0 pre0 [v0x0, (.int .i64 r64101.2.at_), (.int .i64 r64101.2.seed)] post0 else (bif b 9 then sg g0 T0 fr0 pre0 [v0x0, (.int .i64 r63901.2.at_), (.int .i64 r63901.2.seed)] post0 else (bif b 7 then sg g0 T0 fr0 pre0 [v0x0, (.int .i64 r63701.2.at_), (.int .i64 r63701.2.seed)] post0 else (bif b 3 then sg g0 T0 fr0 pre0 [v0x0, (.int .i64 r63301.2.at_), (.int .i64 r63301.2.seed)] post0 else sg g0 T0 fr0 pre0 [v0x0, (.int .i64 s56660), (.int .i64 s56661)] post0)))), h56665, hF, (sg g63103 3 (0, 0) [] (encs (FK.int .i64) ([1, 1, 1, 2, 2, 3, 3, 4] : List Int)) []), [], []]) (cat_cons rfl (cat_cons (off_ b14 rfl) (cat_cons rfl (cat_cons (on_ b1 rfl) (cat_cons (off_ b13 rfl) (cat_cons (off_ b14 rfl) rfl)))))) hm)
     refine e_val (i := 4) hbi rfl rfl (v := (.pointer (some ((slA (.slice (some ⟨g63103, 0, none⟩) 8 8)).add (Int.toNat r63301.1 * 1))))) (won rfl) rfl rfl (x_index (d := (FK.int .i64)) rfl slt_26 (ev (t := 21) (v := (.slice (some ⟨g63103, 0, none⟩) 8 8)) rfl ((sel_on (p := (1, 21)) rfl b1).trans (y1 b1))) (ev (t := 23) (v := (.int .i64 r63301.1)) rfl ((sel_on (p := (3, 23)) rfl b3).trans (y3 b3))) (H63104.rd w0) hg63401.1 hg63401.2) ?_
     exact hK _ _ ⟨_, g63103, g64303, p64403, rfl, y0, y1, y2, y3, fun _ => rfl, y5, y6, y7, y8, y9, y10, y11, y12, y13, y14, y15, fun _ => H63104, H64304, H64404, Mem.gc (A := [(bif b 11 then sg g0 T0 fr0 pre0 [v0x0, (.int .i64 r64101.2.at_), (.int .i64 r64101.2.seed)] post0 else (bif b 9 then sg g0 T0 fr0 pre0 [v0x0, (.int .i64 r63901.2.at_), (.int .i64 r63901.2.seed)] post0 else (bif b 7 then sg g0 T0 fr0 pre0 [v0x0, (.int .i64 r63701.2.at_), (.int .i64 r63701.2.seed)] post0 else (bif b 3 then sg g0 T0 fr0 pre0 [v0x0, (.int .i64 r63301.2.at_), (.int .i64 r63301.2.seed)] post0 else sg g0 T0 fr0 pre0 [v0x0, (.int .i64 s56660), (.int .i64 s56661)] post0)))), h56665, hF, (sg g63103 3 (0, 0) [] (encs (FK.int .i64) ([1, 1, 1, 2, 2, 3, 3, 4] : List Int)) []), [], []]) (cat_cons rfl (cat_cons (off_ b14 rfl) (cat_cons rfl (cat_cons (on_ b1 rfl) (cat_cons (off_ b13 rfl) (cat_cons (off_ b14 rfl) rfl)))))) (Mem.pick [0, 1, 2, 3, 1004, 1005] rfl hm64613)⟩
    ·
     intro b a w hI hbi hn hc K hK
     obtain ⟨vs, g63103, g64303, p64403, ha, y0, y1, y2, y3, y4, y5, y6, y7, y8, y9, y10, y11, y12, y13, y14, y15, H63104, H64304, H64404, hm⟩ := hI
     subst ha
     have b4 : b 4 = true := hn 4 (da rfl)
     have b1 : b 1 = true := hc 4 _ rfl b4 1 (da rfl)
     have b3 : b 3 = true := hc 4 _ rfl b4 3 (da rfl)
     have b2 : b 2 = true := hc 3 _ rfl b3 2 (da rfl)
     have b12 : b 12 = false := later (j := 12) hc rfl (i := 5) (da rfl) hbi
     have b13 : b 13 = false := later (j := 13) hc rfl (i := 12) (da rfl) b12
     have b14 : b 14 = false := later (j := 14) hc rfl (i := 13) (da rfl) b13
     have b15 : b 15 = false := later (j := 15) hc rfl (i := 5) (da rfl) hbi
     have H63104 := H63104 b1
     have hm64616 : Mem w0 w (cat [(bif b 11 then sg g0 T0 fr0 pre0 [v0x0, (.int .i64 r64101.2.at_), (.int .i64 r64101.2.seed)] post0 else (bif b 9 then sg g0 T0 fr0 pre0 [v0x0, (.int .i64 r63901.2.at_), (.int .i64 r63901.2.seed)] post0 else (bif b 7 then sg g0 T0 fr0 pre0 [v0x0, (.int .i64 r63701.2.at_), (.int .i64 r63701.2.seed)] post0 else (bif b 3 then sg g0 T0 fr0 pre0 [v0x0, (.int .i64 r63301.2.at_), (.int .i64 r63301.2.seed)] post0 else sg g0 T0 fr0 pre0 [v0x0, (.int .i64 s56660), (.int .i64 s56661)] post0)))), h56665, hF, (sg g63103 3 (0, 0) [] (encs (FK.int .i64) ([1, 1, 1, 2, 2, 3, 3, 4] : List Int)) [])]) := Mem.pick [0, 1, 2, 3] rfl (Mem.cg (B := [(bif b 11 then sg g0 T0 fr0 pre0 [v0x0, (.int .i64 r64101.2.at_), (.int .i64 r64101.2.seed)] post0 else (bif b 9 then sg g0 T0 fr0 pre0 [v0x0, (.int .i64 r63901.2.at_), (.int .i64 r63901.2.seed)] post0 else (bif b 7 then sg g0 T0 fr0 pre0 [v0x0, (.int .i64 r63701.2.at_), (.int .i64 r63701.2.seed)] post0 else (bif b 3 then sg g0 T0 fr0 pre0 [v0x0, (.int .i64 r63301.2.at_), (.int .i64 r63301.2.seed)] post0 else sg g0 T0 fr0 pre0 [v0x0, (.int .i64 s56660), (.int .i64 s56661)] post0)))), h56665, hF, (sg g63103 3 (0, 0) [] (encs (FK.int .i64) ([1, 1, 1, 2, 2, 3, 3, 4] : List Int)) []), [], []]) (cat_cons rfl (cat_cons (off_ b14 rfl) (cat_cons rfl (cat_cons (on_ b1 rfl) (cat_cons (off_ b13 rfl) (cat_cons (off_ b14 rfl) rfl)))))) hm)
     refine e_val (i := 5) hbi rfl rfl (v := (.int .i64 (ix ([1, 1, 1, 2, 2, 3, 3, 4] : List Int) r63301.1))) (won rfl) rfl rfl (x_load rfl ty1x3 (ev (t := 24) (v := (.pointer (some ((slA (.slice (some ⟨g63103, 0, none⟩) 8 8)).add (Int.toNat r63301.1 * 1))))) rfl ((sel_on (p := (4, 24)) rfl b4).trans (y4 b4))) (RdF.cell0 (H63104.rd w0) hm64616 (Sub.at_ (k := 3) rfl) hg63401.1 hg63401.2 rfl)) ?_
     exact hK _ _ ⟨_, g63103, g64303, p64403, rfl, y0, y1, y2, y3, y4, fun _ => rfl, y6, y7, y8, y9, y10, y11, y12, y13, y14, y15, fun _ => H63104, H64304, H64404, Mem.gc (A := [(bif b 11 then sg g0 T0 fr0 pre0 [v0x0, (.int .i64 r64101.2.at_), (.int .i64 r64101.2.seed)] post0 else (bif b 9 then sg g0 T0 fr0 pre0 [v0x0, (.int .i64 r63901.2.at_), (.int .i64 r63901.2.seed)] post0 else (bif b 7 then sg g0 T0 fr0 pre0 [v0x0, (.int .i64 r63701.2.at_), (.int .i64 r63701.2.seed)] post0 else (bif b 3 then sg g0 T0 fr0 pre0 [v0x0, (.int .i64 r63301.2.at_), (.int .i64 r63301.2.seed)] post0 else sg g0 T0 fr0 pre0 [v0x0, (.int .i64 s56660), (.int .i64 s56661)] post0)))), h56665, hF, (sg g63103 3 (0, 0) [] (encs (FK.int .i64) ([1, 1, 1, 2, 2, 3, 3, 4] : List Int)) []), [], []]) (cat_cons rfl (cat_cons (off_ b14 rfl) (cat_cons rfl (cat_cons (on_ b1 rfl) (cat_cons (off_ b13 rfl) (cat_cons (off_ b14 rfl) rfl)))))) (Mem.pick [0, 1, 2, 3, 1004, 1005] rfl hm64616)⟩
    ·
     intro b a w hI hbi hn hc K hK
     obtain ⟨vs, g63103, g64303, p64403, ha, y0, y1, y2, y3, y4, y5, y6, y7, y8, y9, y10, y11, y12, y13, y14, y15, H63104, H64304, H64404, hm⟩ := hI
     subst ha
     have b7 : b 7 = false := later (j := 7) hc rfl (i := 6) (da rfl) hbi
     have b9 : b 9 = false := later (j := 9) hc rfl (i := 7) (da rfl) b7
     have b11 : b 11 = false := later (j := 11) hc rfl (i := 9) (da rfl) b9
     have b12 : b 12 = false := later (j := 12) hc rfl (i := 7) (da rfl) b7
     have b13 : b 13 = false := later (j := 13) hc rfl (i := 12) (da rfl) b12
     have b14 : b 14 = false := later (j := 14) hc rfl (i := 11) (da rfl) b11
     have b15 : b 15 = false := later (j := 15) hc rfl (i := 6) (da rfl) hbi
     have hm64619 : Mem w0 w (cat [(bif b 3 then sg g0 T0 fr0 pre0 [v0x0, (.int .i64 r63301.2.at_), (.int .i64 r63301.2.seed)] post0 else sg g0 T0 fr0 pre0 [v0x0, (.int .i64 s56660), (.int .i64 s56661)] post0), h56665, hF, (bif b 1 then (sg g63103 3 (0, 0) [] (encs (FK.int .i64) ([1, 1, 1, 2, 2, 3, 3, 4] : List Int)) []) else [])]) := Mem.pick [0, 1, 2, 3] rfl (Mem.cg (B := [(bif b 3 then sg g0 T0 fr0 pre0 [v0x0, (.int .i64 r63301.2.at_), (.int .i64 r63301.2.seed)] post0 else sg g0 T0 fr0 pre0 [v0x0, (.int .i64 s56660), (.int .i64 s56661)] post0), h56665, hF, (bif b 1 then (sg g63103 3 (0, 0) [] (encs (FK.int .i64) ([1, 1, 1, 2, 2, 3, 3, 4] : List Int)) []) else []), [], []]) (cat_cons (off_ b11 (off_ b9 (off_ b7 rfl))) (cat_cons (off_ b14 rfl) (cat_cons rfl (cat_cons rfl (cat_cons (off_ b13 rfl) (cat_cons (off_ b14 rfl) rfl)))))) hm)
     refine e_val (i := 6) hbi rfl rfl (v := (.pointer (some ⟨g0, o0, none⟩))) (won rfl) rfl rfl (x_move rfl (ev (t := 0) (v := (.pointer (some ⟨g0, o0, none⟩))) rfl ((sel_no rfl).trans q56662))) ?_
     exact hK _ _ ⟨_, g63103, g64303, p64403, rfl, y0, y1, y2, y3, y4, y5, fun _ => rfl, y7, y8, y9, y10, y11, y12, y13, y14, y15, H63104, H64304, H64404, Mem.gc (A := [(bif b 3 then sg g0 T0 fr0 pre0 [v0x0, (.int .i64 r63301.2.at_), (.int .i64 r63301.2.seed)] post0 else sg g0 T0 fr0 pre0 [v0x0, (.int .i64 s56660), (.int .i64 s56661)] post0), h56665, hF, (bif b 1 then (sg g63103 3 (0, 0) [] (encs (FK.int .i64) ([1, 1, 1, 2, 2, 3, 3, 4] : List Int)) []) else []), [], []]) (cat_cons (off_ b11 (off_ b9 (off_ b7 rfl))) (cat_cons (off_ b14 rfl) (cat_cons rfl (cat_cons rfl (cat_cons (off_ b13 rfl) (cat_cons (off_ b14 rfl) rfl)))))) (Mem.pick [0, 1, 2, 3, 1004, 1005] rfl hm64619)⟩
    ·
     intro b a w hI hbi hn hc K hK
     obtain ⟨vs, g63103, g64303, p64403, ha, y0, y1, y2, y3, y4, y5, y6, y7, y8, y9, y10, y11, y12, y13, y14, y15, H63104, H64304, H64404, hm⟩ := hI
     subst ha
     have b3 : b 3 = true := hn 3 (da rfl)
     have b6 : b 6 = true := hn 6 (da rfl)
     have b2 : b 2 = true := hc 3 _ rfl b3 2 (da rfl)
     have b9 : b 9 = false := later (j := 9) hc rfl (i := 7) (da rfl) hbi
     have b11 : b 11 = false := later (j := 11) hc rfl (i := 9) (da rfl) b9
     have b12 : b 12 = false := later (j := 12) hc rfl (i := 7) (da rfl) hbi
     have b13 : b 13 = false := later (j := 13) hc rfl (i := 12) (da rfl) b12
     have b14 : b 14 = false := later (j := 14) hc rfl (i := 11) (da rfl) b11
     have b15 : b 15 = false := later (j := 15) hc rfl (i := 7) (da rfl) hbi
     have hm64622 : Mem w0 w (cat [sg g0 T0 fr0 pre0 [v0x0, (.int .i64 r63301.2.at_), (.int .i64 r63301.2.seed)] post0, h56665, hF, (bif b 1 then (sg g63103 3 (0, 0) [] (encs (FK.int .i64) ([1, 1, 1, 2, 2, 3, 3, 4] : List Int)) []) else [])]) := Mem.pick [0, 1, 2, 3] rfl (Mem.cg (B := [sg g0 T0 fr0 pre0 [v0x0, (.int .i64 r63301.2.at_), (.int .i64 r63301.2.seed)] post0, h56665, hF, (bif b 1 then (sg g63103 3 (0, 0) [] (encs (FK.int .i64) ([1, 1, 1, 2, 2, 3, 3, 4] : List Int)) []) else []), [], []]) (cat_cons (off_ b11 (off_ b9 (off_ hbi (on_ b3 rfl)))) (cat_cons (off_ b14 rfl) (cat_cons rfl (cat_cons rfl (cat_cons (off_ b13 rfl) (cat_cons (off_ b14 rfl) rfl)))))) hm)
     refine e_call (i := 7) hbi rfl rfl (won rfl) rfl rfl (x_call rfl rfl cl_83 (map_lit (map_cons (ev (t := 26) (v := (.pointer (some ⟨g0, o0, none⟩))) rfl ((sel_on (p := (6, 26)) rfl b6).trans (y6 b6))) (map_cons rfl map_nil)))) (spec_l00Src_next_ok (hR := (cat [hR])) (hF := cat [h56665, hF, (bif b 1 then (sg g63103 3 (0, 0) [] (encs (FK.int .i64) ([1, 1, 1, 2, 2, 3, 3, 4] : List Int)) []) else [])]) (spec_l00Src.mk a0.code r63301.2.at_ r63301.2.seed) 3 (H0x0.mono (Sub.at_ (k := 0) rfl)) (subc (Sub.trans hs (Sub.at_ (k := 1) rfl)) subn) hp0 (Mem.grp [sg g0 T0 fr0 pre0 [v0x0, (.int .i64 r63301.2.at_), (.int .i64 r63301.2.seed)] post0] [h56665, hF, (bif b 1 then (sg g63103 3 (0, 0) [] (encs (FK.int .i64) ([1, 1, 1, 2, 2, 3, 3, 4] : List Int)) []) else [])] (Mem.pick [0, 1, 2, 3] rfl hm64622)) hr63701) ?_
     rintro e w63702 ⟨rfl, hm63703⟩
     refine ⟨_, rfl, ?_⟩
     replace hm63703 : Mem w0 w63702 (cat [sg g0 T0 fr0 pre0 [v0x0, (.int .i64 r63701.2.at_), (.int .i64 r63701.2.seed)] post0, h56665, hF, (bif b 1 then (sg g63103 3 (0, 0) [] (encs (FK.int .i64) ([1, 1, 1, 2, 2, 3, 3, 4] : List Int)) []) else [])]) := Mem.ung [sg g0 T0 fr0 pre0 [v0x0, (.int .i64 r63701.2.at_), (.int .i64 r63701.2.seed)] post0] [h56665, hF, (bif b 1 then (sg g63103 3 (0, 0) [] (encs (FK.int .i64) ([1, 1, 1, 2, 2, 3, 3, 4] : List Int)) []) else [])] hm63703
     exact hK _ _ ⟨_, g63103, g64303, p64403, rfl, y0, y1, y2, y3, y4, y5, y6, fun _ => rfl, y8, y9, y10, y11, y12, y13, y14, y15, H63104, H64304, H64404, Mem.gc (A := [sg g0 T0 fr0 pre0 [v0x0, (.int .i64 r63701.2.at_), (.int .i64 r63701.2.seed)] post0, h56665, hF, (bif b 1 then (sg g63103 3 (0, 0) [] (encs (FK.int .i64) ([1, 1, 1, 2, 2, 3, 3, 4] : List Int)) []) else []), [], []]) (cat_cons (off_ b11 (off_ b9 (on_ rfl rfl))) (cat_cons (off_ b14 rfl) (cat_cons rfl (cat_cons rfl (cat_cons (off_ b13 rfl) (cat_cons (off_ b14 rfl) rfl)))))) (Mem.pick [0, 1, 2, 3, 1004, 1005] rfl hm63703)⟩
    ·
     intro b a w hI hbi hn hc K hK
     obtain ⟨vs, g63103, g64303, p64403, ha, y0, y1, y2, y3, y4, y5, y6, y7, y8, y9, y10, y11, y12, y13, y14, y15, H63104, H64304, H64404, hm⟩ := hI
     subst ha
     have b9 : b 9 = false := later (j := 9) hc rfl (i := 8) (da rfl) hbi
     have b11 : b 11 = false := later (j := 11) hc rfl (i := 9) (da rfl) b9
     have b12 : b 12 = false := later (j := 12) hc rfl (i := 9) (da rfl) b9
     have b13 : b 13 = false := later (j := 13) hc rfl (i := 12) (da rfl) b12
     have b14 : b 14 = false := later (j := 14) hc rfl (i := 11) (da rfl) b11
     have b15 : b 15 = false := later (j := 15) hc rfl (i := 8) (da rfl) hbi
     have hm64625 : Mem w0 w (cat [(bif b 7 then sg g0 T0 fr0 pre0 [v0x0, (.int .i64 r63701.2.at_), (.int .i64 r63701.2.seed)] post0 else (bif b 3 then sg g0 T0 fr0 pre0 [v0x0, (.int .i64 r63301.2.at_), (.int .i64 r63301.2.seed)] post0 else sg g0 T0 fr0 pre0 [v0x0, (.int .i64 s56660), (.int .i64 s56661)] post0)), h56665, hF, (bif b 1 then (sg g63103 3 (0, 0) [] (encs (FK.int .i64) ([1, 1, 1, 2, 2, 3, 3, 4] : List Int)) []) else [])]) := Mem.pick [0, 1, 2, 3] rfl (Mem.cg (B := [(bif b 7 then sg g0 T0 fr0 pre0 [v0x0, (.int .i64 r63701.2.at_), (.int .i64 r63701.2.seed)] post0 else (bif b 3 then sg g0 T0 fr0 pre0 [v0x0, (.int .i64 r63301.2.at_), (.int .i64 r63301.2.seed)] post0 else sg g0 T0 fr0 pre0 [v0x0, (.int .i64 s56660), (.int .i64 s56661)] post0)), h56665, hF, (bif b 1 then (sg g63103 3 (0, 0) [] (encs (FK.int .i64) ([1, 1, 1, 2, 2, 3, 3, 4] : List Int)) []) else []), [], []]) (cat_cons (off_ b11 (off_ b9 rfl)) (cat_cons (off_ b14 rfl) (cat_cons rfl (cat_cons rfl (cat_cons (off_ b13 rfl) (cat_cons (off_ b14 rfl) rfl)))))) hm)
     refine e_val (i := 8) hbi rfl rfl (v := (.pointer (some ⟨g0, o0, none⟩))) (won rfl) rfl rfl (x_move rfl (ev (t := 0) (v := (.pointer (some ⟨g0, o0, none⟩))) rfl ((sel_no rfl).trans q56662))) ?_
     exact hK _ _ ⟨_, g63103, g64303, p64403, rfl, y0, y1, y2, y3, y4, y5, y6, y7, fun _ => rfl, y9, y10, y11, y12, y13, y14, y15, H63104, H64304, H64404, Mem.gc (A := [(bif b 7 then sg g0 T0 fr0 pre0 [v0x0, (.int .i64 r63701.2.at_), (.int .i64 r63701.2.seed)] post0 else (bif b 3 then sg g0 T0 fr0 pre0 [v0x0, (.int .i64 r63301.2.at_), (.int .i64 r63301.2.seed)] post0 else sg g0 T0 fr0 pre0 [v0x0, (.int .i64 s56660), (.int .i64 s56661)] post0)), h56665, hF, (bif b 1 then (sg g63103 3 (0, 0) [] (encs (FK.int .i64) ([1, 1, 1, 2, 2, 3, 3, 4] : List Int)) []) else []), [], []]) (cat_cons (off_ b11 (off_ b9 rfl)) (cat_cons (off_ b14 rfl) (cat_cons rfl (cat_cons rfl (cat_cons (off_ b13 rfl) (cat_cons (off_ b14 rfl) rfl)))))) (Mem.pick [0, 1, 2, 3, 1004, 1005] rfl hm64625)⟩
    ·
     intro b a w hI hbi hn hc K hK
     obtain ⟨vs, g63103, g64303, p64403, ha, y0, y1, y2, y3, y4, y5, y6, y7, y8, y9, y10, y11, y12, y13, y14, y15, H63104, H64304, H64404, hm⟩ := hI
     subst ha
     have b7 : b 7 = true := hn 7 (da rfl)
     have b8 : b 8 = true := hn 8 (da rfl)
     have b3 : b 3 = true := hc 7 _ rfl b7 3 (da rfl)
     have b6 : b 6 = true := hc 7 _ rfl b7 6 (da rfl)
     have b2 : b 2 = true := hc 3 _ rfl b3 2 (da rfl)
     have b11 : b 11 = false := later (j := 11) hc rfl (i := 9) (da rfl) hbi
     have b12 : b 12 = false := later (j := 12) hc rfl (i := 9) (da rfl) hbi
     have b13 : b 13 = false := later (j := 13) hc rfl (i := 12) (da rfl) b12
     have b14 : b 14 = false := later (j := 14) hc rfl (i := 11) (da rfl) b11
     have b15 : b 15 = false := later (j := 15) hc rfl (i := 9) (da rfl) hbi
     have hm64628 : Mem w0 w (cat [sg g0 T0 fr0 pre0 [v0x0, (.int .i64 r63701.2.at_), (.int .i64 r63701.2.seed)] post0, h56665, hF, (bif b 1 then (sg g63103 3 (0, 0) [] (encs (FK.int .i64) ([1, 1, 1, 2, 2, 3, 3, 4] : List Int)) []) else [])]) := Mem.pick [0, 1, 2, 3] rfl (Mem.cg (B := [sg g0 T0 fr0 pre0 [v0x0, (.int .i64 r63701.2.at_), (.int .i64 r63701.2.seed)] post0, h56665, hF, (bif b 1 then (sg g63103 3 (0, 0) [] (encs (FK.int .i64) ([1, 1, 1, 2, 2, 3, 3, 4] : List Int)) []) else []), [], []]) (cat_cons (off_ b11 (off_ hbi (on_ b7 rfl))) (cat_cons (off_ b14 rfl) (cat_cons rfl (cat_cons rfl (cat_cons (off_ b13 rfl) (cat_cons (off_ b14 rfl) rfl)))))) hm)
     refine e_call (i := 9) hbi rfl rfl (won rfl) rfl rfl (x_call rfl rfl cl_83 (map_lit (map_cons (ev (t := 28) (v := (.pointer (some ⟨g0, o0, none⟩))) rfl ((sel_on (p := (8, 28)) rfl b8).trans (y8 b8))) (map_cons rfl map_nil)))) (spec_l00Src_next_ok (hR := (cat [hR])) (hF := cat [h56665, hF, (bif b 1 then (sg g63103 3 (0, 0) [] (encs (FK.int .i64) ([1, 1, 1, 2, 2, 3, 3, 4] : List Int)) []) else [])]) (spec_l00Src.mk a0.code r63701.2.at_ r63701.2.seed) 3 (H0x0.mono (Sub.at_ (k := 0) rfl)) (subc (Sub.trans hs (Sub.at_ (k := 1) rfl)) subn) hp0 (Mem.grp [sg g0 T0 fr0 pre0 [v0x0, (.int .i64 r63701.2.at_), (.int .i64 r63701.2.seed)] post0] [h56665, hF, (bif b 1 then (sg g63103 3 (0, 0) [] (encs (FK.int .i64) ([1, 1, 1, 2, 2, 3, 3, 4] : List Int)) []) else [])] (Mem.pick [0, 1, 2, 3] rfl hm64628)) hr63901) ?_
     rintro e w63902 ⟨rfl, hm63903⟩
     refine ⟨_, rfl, ?_⟩
     replace hm63903 : Mem w0 w63902 (cat [sg g0 T0 fr0 pre0 [v0x0, (.int .i64 r63901.2.at_), (.int .i64 r63901.2.seed)] post0, h56665, hF, (bif b 1 then (sg g63103 3 (0, 0) [] (encs (FK.int .i64) ([1, 1, 1, 2, 2, 3, 3, 4] : List Int)) []) else [])]) := Mem.ung [sg g0 T0 fr0 pre0 [v0x0, (.int .i64 r63901.2.at_), (.int .i64 r63901.2.seed)] post0] [h56665, hF, (bif b 1 then (sg g63103 3 (0, 0) [] (encs (FK.int .i64) ([1, 1, 1, 2, 2, 3, 3, 4] : List Int)) []) else [])] hm63903
     exact hK _ _ ⟨_, g63103, g64303, p64403, rfl, y0, y1, y2, y3, y4, y5, y6, y7, y8, fun _ => rfl, y10, y11, y12, y13, y14, y15, H63104, H64304, H64404, Mem.gc (A := [sg g0 T0 fr0 pre0 [v0x0, (.int .i64 r63901.2.at_), (.int .i64 r63901.2.seed)] post0, h56665, hF, (bif b 1 then (sg g63103 3 (0, 0) [] (encs (FK.int .i64) ([1, 1, 1, 2, 2, 3, 3, 4] : List Int)) []) else []), [], []]) (cat_cons (off_ b11 (on_ rfl rfl)) (cat_cons (off_ b14 rfl) (cat_cons rfl (cat_cons rfl (cat_cons (off_ b13 rfl) (cat_cons (off_ b14 rfl) rfl)))))) (Mem.pick [0, 1, 2, 3, 1004, 1005] rfl hm63903)⟩
    ·
     intro b a w hI hbi hn hc K hK
     obtain ⟨vs, g63103, g64303, p64403, ha, y0, y1, y2, y3, y4, y5, y6, y7, y8, y9, y10, y11, y12, y13, y14, y15, H63104, H64304, H64404, hm⟩ := hI
     subst ha
     have b11 : b 11 = false := later (j := 11) hc rfl (i := 10) (da rfl) hbi
     have b12 : b 12 = false := later (j := 12) hc rfl (i := 11) (da rfl) b11
     have b13 : b 13 = false := later (j := 13) hc rfl (i := 12) (da rfl) b12
     have b14 : b 14 = false := later (j := 14) hc rfl (i := 11) (da rfl) b11
     have b15 : b 15 = false := later (j := 15) hc rfl (i := 10) (da rfl) hbi
     have hm64631 : Mem w0 w (cat [(bif b 9 then sg g0 T0 fr0 pre0 [v0x0, (.int .i64 r63901.2.at_), (.int .i64 r63901.2.seed)] post0 else (bif b 7 then sg g0 T0 fr0 pre0 [v0x0, (.int .i64 r63701.2.at_), (.int .i64 r63701.2.seed)] post0 else (bif b 3 then sg g0 T0 fr0 pre0 [v0x0, (.int .i64 r63301.2.at_), (.int .i64 r63301.2.seed)] post0 else sg g0 T0 fr0 pre0 [v0x0, (.int .i64 s56660), (.int .i64 s56661)] post0))), h56665, hF, (bif b 1 then (sg g63103 3 (0, 0) [] (encs (FK.int .i64) ([1, 1, 1, 2, 2, 3, 3, 4] : List Int)) []) else [])]) := Mem.pick [0, 1, 2, 3] rfl (Mem.cg (B := [(bif b 9 then sg g0 T0 fr0 pre0 [v0x0, (.int .i64 r63901.2.at_), (.int .i64 r63901.2.seed)] post0 else (bif b 7 then sg g0 T0 fr0 pre0 [v0x0, (.int .i64 r63701.2.at_), (.int .i64 r63701.2.seed)] post0 else (bif b 3 then sg g0 T0 fr0 pre0 [v0x0, (.int .i64 r63301.2.at_), (.int .i64 r63301.2.seed)] post0 else sg g0 T0 fr0 pre0 [v0x0, (.int .i64 s56660), (.int .i64 s56661)] post0))), h56665, hF, (bif b 1 then (sg g63103 3 (0, 0) [] (encs (FK.int .i64) ([1, 1, 1, 2, 2, 3, 3, 4] : List Int)) []) else []), [], []]) (cat_cons (off_ b11 rfl) (cat_cons (off_ b14 rfl) (cat_cons rfl (cat_cons rfl (cat_cons (off_ b13 rfl) (cat_cons (off_ b14 rfl) rfl)))))) hm)
     refine e_val (i := 10) hbi rfl rfl (v := (.pointer (some ⟨g0, o0, none⟩))) (won rfl) rfl rfl (x_move rfl (ev (t := 0) (v := (.pointer (some ⟨g0, o0, none⟩))) rfl ((sel_no rfl).trans q56662))) ?_
     exact hK _ _ ⟨_, g63103, g64303, p64403, rfl, y0, y1, y2, y3, y4, y5, y6, y7, y8, y9, fun _ => rfl, y11, y12, y13, y14, y15, H63104, H64304, H64404, Mem.gc (A := [(bif b 9 then sg g0 T0 fr0 pre0 [v0x0, (.int .i64 r63901.2.at_), (.int .i64 r63901.2.seed)] post0 else (bif b 7 then sg g0 T0 fr0 pre0 [v0x0, (.int .i64 r63701.2.at_), (.int .i64 r63701.2.seed)] post0 else (bif b 3 then sg g0 T0 fr0 pre0 [v0x0, (.int .i64 r63301.2.at_), (.int .i64 r63301.2.seed)] post0 else sg g0 T0 fr0 pre0 [v0x0, (.int .i64 s56660), (.int .i64 s56661)] post0))), h56665, hF, (bif b 1 then (sg g63103 3 (0, 0) [] (encs (FK.int .i64) ([1, 1, 1, 2, 2, 3, 3, 4] : List Int)) []) else []), [], []]) (cat_cons (off_ b11 rfl) (cat_cons (off_ b14 rfl) (cat_cons rfl (cat_cons rfl (cat_cons (off_ b13 rfl) (cat_cons (off_ b14 rfl) rfl)))))) (Mem.pick [0, 1, 2, 3, 1004, 1005] rfl hm64631)⟩
    ·
     intro b a w hI hbi hn hc K hK
     obtain ⟨vs, g63103, g64303, p64403, ha, y0, y1, y2, y3, y4, y5, y6, y7, y8, y9, y10, y11, y12, y13, y14, y15, H63104, H64304, H64404, hm⟩ := hI
     subst ha
     have b9 : b 9 = true := hn 9 (da rfl)
     have b10 : b 10 = true := hn 10 (da rfl)
     have b7 : b 7 = true := hc 9 _ rfl b9 7 (da rfl)
     have b8 : b 8 = true := hc 9 _ rfl b9 8 (da rfl)
     have b3 : b 3 = true := hc 7 _ rfl b7 3 (da rfl)
     have b6 : b 6 = true := hc 7 _ rfl b7 6 (da rfl)
     have b2 : b 2 = true := hc 3 _ rfl b3 2 (da rfl)
     have b12 : b 12 = false := later (j := 12) hc rfl (i := 11) (da rfl) hbi
     have b13 : b 13 = false := later (j := 13) hc rfl (i := 12) (da rfl) b12
     have b14 : b 14 = false := later (j := 14) hc rfl (i := 11) (da rfl) hbi
     have b15 : b 15 = false := later (j := 15) hc rfl (i := 11) (da rfl) hbi
     have hm64634 : Mem w0 w (cat [sg g0 T0 fr0 pre0 [v0x0, (.int .i64 r63901.2.at_), (.int .i64 r63901.2.seed)] post0, h56665, hF, (bif b 1 then (sg g63103 3 (0, 0) [] (encs (FK.int .i64) ([1, 1, 1, 2, 2, 3, 3, 4] : List Int)) []) else [])]) := Mem.pick [0, 1, 2, 3] rfl (Mem.cg (B := [sg g0 T0 fr0 pre0 [v0x0, (.int .i64 r63901.2.at_), (.int .i64 r63901.2.seed)] post0, h56665, hF, (bif b 1 then (sg g63103 3 (0, 0) [] (encs (FK.int .i64) ([1, 1, 1, 2, 2, 3, 3, 4] : List Int)) []) else []), [], []]) (cat_cons (off_ hbi (on_ b9 rfl)) (cat_cons (off_ b14 rfl) (cat_cons rfl (cat_cons rfl (cat_cons (off_ b13 rfl) (cat_cons (off_ b14 rfl) rfl)))))) hm)
     refine e_call (i := 11) hbi rfl rfl (won rfl) rfl rfl (x_call rfl rfl cl_83 (map_lit (map_cons (ev (t := 30) (v := (.pointer (some ⟨g0, o0, none⟩))) rfl ((sel_on (p := (10, 30)) rfl b10).trans (y10 b10))) (map_cons rfl map_nil)))) (spec_l00Src_next_ok (hR := (cat [hR])) (hF := cat [h56665, hF, (bif b 1 then (sg g63103 3 (0, 0) [] (encs (FK.int .i64) ([1, 1, 1, 2, 2, 3, 3, 4] : List Int)) []) else [])]) (spec_l00Src.mk a0.code r63901.2.at_ r63901.2.seed) 6 (H0x0.mono (Sub.at_ (k := 0) rfl)) (subc (Sub.trans hs (Sub.at_ (k := 1) rfl)) subn) hp0 (Mem.grp [sg g0 T0 fr0 pre0 [v0x0, (.int .i64 r63901.2.at_), (.int .i64 r63901.2.seed)] post0] [h56665, hF, (bif b 1 then (sg g63103 3 (0, 0) [] (encs (FK.int .i64) ([1, 1, 1, 2, 2, 3, 3, 4] : List Int)) []) else [])] (Mem.pick [0, 1, 2, 3] rfl hm64634)) hr64101) ?_
     rintro e w64102 ⟨rfl, hm64103⟩
     refine ⟨_, rfl, ?_⟩
     replace hm64103 : Mem w0 w64102 (cat [sg g0 T0 fr0 pre0 [v0x0, (.int .i64 r64101.2.at_), (.int .i64 r64101.2.seed)] post0, h56665, hF, (bif b 1 then (sg g63103 3 (0, 0) [] (encs (FK.int .i64) ([1, 1, 1, 2, 2, 3, 3, 4] : List Int)) []) else [])]) := Mem.ung [sg g0 T0 fr0 pre0 [v0x0, (.int .i64 r64101.2.at_), (.int .i64 r64101.2.seed)] post0] [h56665, hF, (bif b 1 then (sg g63103 3 (0, 0) [] (encs (FK.int .i64) ([1, 1, 1, 2, 2, 3, 3, 4] : List Int)) []) else [])] hm64103
     exact hK _ _ ⟨_, g63103, g64303, p64403, rfl, y0, y1, y2, y3, y4, y5, y6, y7, y8, y9, y10, fun _ => rfl, y12, y13, y14, y15, H63104, H64304, H64404, Mem.gc (A := [sg g0 T0 fr0 pre0 [v0x0, (.int .i64 r64101.2.at_), (.int .i64 r64101.2.seed)] post0, h56665, hF, (bif b 1 then (sg g63103 3 (0, 0) [] (encs (FK.int .i64) ([1, 1, 1, 2, 2, 3, 3, 4] : List Int)) []) else []), [], []]) (cat_cons (on_ rfl rfl) (cat_cons (off_ b14 rfl) (cat_cons rfl (cat_cons rfl (cat_cons (off_ b13 rfl) (cat_cons (off_ b14 rfl) rfl)))))) (Mem.pick [0, 1, 2, 3, 1004, 1005] rfl hm64103)⟩
    ·
     intro b a w hI hbi hn hc K hK
     obtain ⟨vs, g63103, g64303, p64403, ha, y0, y1, y2, y3, y4, y5, y6, y7, y8, y9, y10, y11, y12, y13, y14, y15, H63104, H64304, H64404, hm⟩ := hI
     subst ha
     have b5 : b 5 = true := hn 5 (da rfl)
     have b7 : b 7 = true := hn 7 (da rfl)
     have b9 : b 9 = true := hn 9 (da rfl)
     have b11 : b 11 = true := hn 11 (da rfl)
     have b4 : b 4 = true := hc 5 _ rfl b5 4 (da rfl)
     have b3 : b 3 = true := hc 7 _ rfl b7 3 (da rfl)
     have b6 : b 6 = true := hc 7 _ rfl b7 6 (da rfl)
     have b8 : b 8 = true := hc 9 _ rfl b9 8 (da rfl)
     have b10 : b 10 = true := hc 11 _ rfl b11 10 (da rfl)
     have b1 : b 1 = true := hc 4 _ rfl b4 1 (da rfl)
     have b2 : b 2 = true := hc 3 _ rfl b3 2 (da rfl)
     have b13 : b 13 = false := later (j := 13) hc rfl (i := 12) (da rfl) hbi
     have b14 : b 14 = false := later (j := 14) hc rfl (i := 13) (da rfl) b13
     have b15 : b 15 = false := later (j := 15) hc rfl (i := 12) (da rfl) hbi
     have H63104 := H63104 b1
     have hm64637 : Mem w0 w (cat [sg g0 T0 fr0 pre0 [v0x0, (.int .i64 r64101.2.at_), (.int .i64 r64101.2.seed)] post0, h56665, hF, (sg g63103 3 (0, 0) [] (encs (FK.int .i64) ([1, 1, 1, 2, 2, 3, 3, 4] : List Int)) [])]) := Mem.pick [0, 1, 2, 3] rfl (Mem.cg (B := [sg g0 T0 fr0 pre0 [v0x0, (.int .i64 r64101.2.at_), (.int .i64 r64101.2.seed)] post0, h56665, hF, (sg g63103 3 (0, 0) [] (encs (FK.int .i64) ([1, 1, 1, 2, 2, 3, 3, 4] : List Int)) []), [], []]) (cat_cons (on_ b11 rfl) (cat_cons (off_ b14 rfl) (cat_cons rfl (cat_cons (on_ b1 rfl) (cat_cons (off_ b13 rfl) (cat_cons (off_ b14 rfl) rfl)))))) hm)
     refine e_val (i := 12) hbi rfl rfl (v := (.agg #[(.int .i64 (ix ([1, 1, 1, 2, 2, 3, 3, 4] : List Int) r63301.1)), (.int .i64 r63701.1), (.int .i64 r63901.1), (.int .i64 r64101.1)])) (won rfl) rfl rfl (x_build (cells := [(.int .i64 (ix ([1, 1, 1, 2, 2, 3, 3, 4] : List Int) r63301.1)), (.int .i64 r63701.1), (.int .i64 r63901.1), (.int .i64 r64101.1)]) (zc := [.int .i64 0, .int .i64 0, .int .i64 0, .int .i64 0]) (sizes := [(0, 1), (1, 1), (2, 1), (3, 1)]) (ps := [(0, (.int .i64 (ix ([1, 1, 1, 2, 2, 3, 3, 4] : List Int) r63301.1))), (1, (.int .i64 r63701.1)), (2, (.int .i64 r63901.1)), (3, (.int .i64 r64101.1))]) rfl zt_39 rfl uf_39 ufz_39 (pmap_lit (pmap_cons (ev (t := 25) (v := (.int .i64 (ix ([1, 1, 1, 2, 2, 3, 3, 4] : List Int) r63301.1))) rfl ((sel_on (p := (5, 25)) rfl b5).trans (y5 b5))) (pmap_cons (ev (t := 27) (v := (.int .i64 r63701.1)) rfl ((sel_on (p := (7, 27)) rfl b7).trans (y7 b7))) (pmap_cons (ev (t := 29) (v := (.int .i64 r63901.1)) rfl ((sel_on (p := (9, 29)) rfl b9).trans (y9 b9))) (pmap_cons (ev (t := 31) (v := (.int .i64 r64101.1)) rfl ((sel_on (p := (11, 31)) rfl b11).trans (y11 b11))) pmap_nil))))) (fill_cons (cs := [(.int .i64 (ix ([1, 1, 1, 2, 2, 3, 3, 4] : List Int) r63301.1))]) rfl rfl rfl (fill_cons (cs := [(.int .i64 r63701.1)]) rfl rfl rfl (fill_cons (cs := [(.int .i64 r63901.1)]) rfl rfl rfl (fill_cons (cs := [(.int .i64 r64101.1)]) rfl rfl rfl fill_nil))))) ?_
     exact hK _ _ ⟨_, g63103, g64303, p64403, rfl, y0, y1, y2, y3, y4, y5, y6, y7, y8, y9, y10, y11, fun _ => rfl, y13, y14, y15, fun _ => H63104, H64304, H64404, Mem.gc (A := [sg g0 T0 fr0 pre0 [v0x0, (.int .i64 r64101.2.at_), (.int .i64 r64101.2.seed)] post0, h56665, hF, (sg g63103 3 (0, 0) [] (encs (FK.int .i64) ([1, 1, 1, 2, 2, 3, 3, 4] : List Int)) []), [], []]) (cat_cons (on_ b11 rfl) (cat_cons (off_ b14 rfl) (cat_cons rfl (cat_cons (on_ b1 rfl) (cat_cons (off_ b13 rfl) (cat_cons (off_ b14 rfl) rfl)))))) (Mem.pick [0, 1, 2, 3, 1004, 1005] rfl hm64637)⟩
    ·
     intro b a w hI hbi hn hc K hK
     obtain ⟨vs, g63103, g64303, p64403, ha, y0, y1, y2, y3, y4, y5, y6, y7, y8, y9, y10, y11, y12, y13, y14, y15, H63104, H64304, H64404, hm⟩ := hI
     subst ha
     have b12 : b 12 = true := hn 12 (da rfl)
     have b5 : b 5 = true := hc 12 _ rfl b12 5 (da rfl)
     have b7 : b 7 = true := hc 12 _ rfl b12 7 (da rfl)
     have b9 : b 9 = true := hc 12 _ rfl b12 9 (da rfl)
     have b11 : b 11 = true := hc 12 _ rfl b12 11 (da rfl)
     have b4 : b 4 = true := hc 5 _ rfl b5 4 (da rfl)
     have b3 : b 3 = true := hc 7 _ rfl b7 3 (da rfl)
     have b6 : b 6 = true := hc 7 _ rfl b7 6 (da rfl)
     have b8 : b 8 = true := hc 9 _ rfl b9 8 (da rfl)
     have b10 : b 10 = true := hc 11 _ rfl b11 10 (da rfl)
     have b1 : b 1 = true := hc 4 _ rfl b4 1 (da rfl)
     have b2 : b 2 = true := hc 3 _ rfl b3 2 (da rfl)
     have b14 : b 14 = false := later (j := 14) hc rfl (i := 13) (da rfl) hbi
     have b15 : b 15 = false := later (j := 15) hc rfl (i := 13) (da rfl) hbi
     have H63104 := H63104 b1
     have hm64640 : Mem w0 w (cat [sg g0 T0 fr0 pre0 [v0x0, (.int .i64 r64101.2.at_), (.int .i64 r64101.2.seed)] post0, h56665, hF, (sg g63103 3 (0, 0) [] (encs (FK.int .i64) ([1, 1, 1, 2, 2, 3, 3, 4] : List Int)) [])]) := Mem.pick [0, 1, 2, 3] rfl (Mem.cg (B := [sg g0 T0 fr0 pre0 [v0x0, (.int .i64 r64101.2.at_), (.int .i64 r64101.2.seed)] post0, h56665, hF, (sg g63103 3 (0, 0) [] (encs (FK.int .i64) ([1, 1, 1, 2, 2, 3, 3, 4] : List Int)) []), [], []]) (cat_cons (on_ b11 rfl) (cat_cons (off_ b14 rfl) (cat_cons rfl (cat_cons (on_ b1 rfl) (cat_cons (off_ hbi rfl) (cat_cons (off_ b14 rfl) rfl)))))) hm)
     refine e_exv (i := 13) hbi rfl rfl (won rfl) rfl rfl (e_litp (cells := [(.int .i64 (ix ([1, 1, 1, 2, 2, 3, 3, 4] : List Int) r63301.1)), (.int .i64 r63701.1), (.int .i64 r63901.1), (.int .i64 r64101.1)]) (ps := [(0, (.agg #[(.int .i64 (ix ([1, 1, 1, 2, 2, 3, 3, 4] : List Int) r63301.1)), (.int .i64 r63701.1), (.int .i64 r63901.1), (.int .i64 r64101.1)]))]) rfl slt_24 (pmap_lit (pmap_cons (ev (t := 32) (v := (.agg #[(.int .i64 (ix ([1, 1, 1, 2, 2, 3, 3, 4] : List Int) r63301.1)), (.int .i64 r63701.1), (.int .i64 r63901.1), (.int .i64 r64101.1)])) rfl ((sel_on (p := (12, 32)) rfl b12).trans (y12 b12))) pmap_nil)) (fun w1 => run_bslicez (cells := [(.int .i64 (ix ([1, 1, 1, 2, 2, 3, 3, 4] : List Int) r63301.1)), (.int .i64 r63701.1), (.int .i64 r63901.1), (.int .i64 r64101.1)]) (zs := [.int .i64 0, .int .i64 0, .int .i64 0, .int .i64 0]) (zc := [.int .i64 0, .int .i64 0, .int .i64 0, .int .i64 0]) slt_24 rfl rfl (by kernel_rfl) (fill_cons (cs := [(.int .i64 (ix ([1, 1, 1, 2, 2, 3, 3, 4] : List Int) r63301.1)), (.int .i64 r63701.1), (.int .i64 r63901.1), (.int .i64 r64101.1)]) rfl rfl rfl fill_nil) (by decide)) hm64640) ?_
     rintro g64303 w64301 hm64302
     have H64304 : OwF 39 impl_PoolAct.K (.slice (some ⟨g64303, 0, none⟩) 1 1) ([(impl_PoolAct.mk (ix ([1, 1, 1, 2, 2, 3, 3, 4] : List Int) r63301.1) r63701.1 r63901.1 r64101.1)] : List impl_PoolAct) (sg g64303 39 (0, 0) [] (encs impl_PoolAct.K ([(impl_PoolAct.mk (ix ([1, 1, 1, 2, 2, 3, 3, 4] : List Int) r63301.1) r63701.1 r63901.1 r64101.1)] : List impl_PoolAct)) []) := OwF.lit g64303 ([(impl_PoolAct.mk (ix ([1, 1, 1, 2, 2, 3, 3, 4] : List Int) r63301.1) r63701.1 r63901.1 r64101.1)] : List impl_PoolAct) 1 rfl (by decide)
     replace hm64302 : Mem w0 w64301 (cat [(sg g64303 39 (0, 0) [] (encs impl_PoolAct.K ([(impl_PoolAct.mk (ix ([1, 1, 1, 2, 2, 3, 3, 4] : List Int) r63301.1) r63701.1 r63901.1 r64101.1)] : List impl_PoolAct)) []), sg g0 T0 fr0 pre0 [v0x0, (.int .i64 r64101.2.at_), (.int .i64 r64101.2.seed)] post0, h56665, hF, (sg g63103 3 (0, 0) [] (encs (FK.int .i64) ([1, 1, 1, 2, 2, 3, 3, 4] : List Int)) [])]) := hm64302
     exact hK _ _ ⟨_, g63103, g64303, p64403, rfl, y0, y1, y2, y3, y4, y5, y6, y7, y8, y9, y10, y11, y12, fun _ => rfl, y14, y15, fun _ => H63104, fun _ => H64304, H64404, Mem.gc (A := [sg g0 T0 fr0 pre0 [v0x0, (.int .i64 r64101.2.at_), (.int .i64 r64101.2.seed)] post0, h56665, hF, (sg g63103 3 (0, 0) [] (encs (FK.int .i64) ([1, 1, 1, 2, 2, 3, 3, 4] : List Int)) []), (sg g64303 39 (0, 0) [] (encs impl_PoolAct.K ([(impl_PoolAct.mk (ix ([1, 1, 1, 2, 2, 3, 3, 4] : List Int) r63301.1) r63701.1 r63901.1 r64101.1)] : List impl_PoolAct)) []), []]) (cat_cons (on_ b11 rfl) (cat_cons (off_ b14 rfl) (cat_cons rfl (cat_cons (on_ b1 rfl) (cat_cons (on_ rfl rfl) (cat_cons (off_ b14 rfl) rfl)))))) (Mem.pick [1, 2, 3, 4, 0, 1005] rfl hm64302)⟩
    ·
     intro b a w hI hbi hn hc K hK
     obtain ⟨vs, g63103, g64303, p64403, ha, y0, y1, y2, y3, y4, y5, y6, y7, y8, y9, y10, y11, y12, y13, y14, y15, H63104, H64304, H64404, hm⟩ := hI
     subst ha
     have b0 : b 0 = true := hn 0 (da rfl)
     have b11 : b 11 = true := hn 11 (da rfl)
     have b13 : b 13 = true := hn 13 (da rfl)
     have b9 : b 9 = true := hc 11 _ rfl b11 9 (da rfl)
     have b10 : b 10 = true := hc 11 _ rfl b11 10 (da rfl)
     have b12 : b 12 = true := hc 13 _ rfl b13 12 (da rfl)
     have b7 : b 7 = true := hc 9 _ rfl b9 7 (da rfl)
     have b8 : b 8 = true := hc 9 _ rfl b9 8 (da rfl)
     have b5 : b 5 = true := hc 12 _ rfl b12 5 (da rfl)
     have b3 : b 3 = true := hc 7 _ rfl b7 3 (da rfl)
     have b6 : b 6 = true := hc 7 _ rfl b7 6 (da rfl)
     have b4 : b 4 = true := hc 5 _ rfl b5 4 (da rfl)
     have b2 : b 2 = true := hc 3 _ rfl b3 2 (da rfl)
     have b1 : b 1 = true := hc 4 _ rfl b4 1 (da rfl)
     have b15 : b 15 = false := later (j := 15) hc rfl (i := 14) (da rfl) hbi
     have H63104 := H63104 b1
     have H64304 := H64304 b13
     have hm64643 : Mem w0 w (cat [sg g0 T0 fr0 pre0 [v0x0, (.int .i64 r64101.2.at_), (.int .i64 r64101.2.seed)] post0, h56665, hF, (sg g63103 3 (0, 0) [] (encs (FK.int .i64) ([1, 1, 1, 2, 2, 3, 3, 4] : List Int)) []), (sg g64303 39 (0, 0) [] (encs impl_PoolAct.K ([(impl_PoolAct.mk (ix ([1, 1, 1, 2, 2, 3, 3, 4] : List Int) r63301.1) r63701.1 r63901.1 r64101.1)] : List impl_PoolAct)) [])]) := Mem.pick [0, 1, 2, 3, 4] rfl (Mem.cg (B := [sg g0 T0 fr0 pre0 [v0x0, (.int .i64 r64101.2.at_), (.int .i64 r64101.2.seed)] post0, h56665, hF, (sg g63103 3 (0, 0) [] (encs (FK.int .i64) ([1, 1, 1, 2, 2, 3, 3, 4] : List Int)) []), (sg g64303 39 (0, 0) [] (encs impl_PoolAct.K ([(impl_PoolAct.mk (ix ([1, 1, 1, 2, 2, 3, 3, 4] : List Int) r63301.1) r63701.1 r63901.1 r64101.1)] : List impl_PoolAct)) []), []]) (cat_cons (on_ b11 rfl) (cat_cons (off_ hbi rfl) (cat_cons rfl (cat_cons (on_ b1 rfl) (cat_cons (on_ b13 rfl) (cat_cons (off_ hbi rfl) rfl)))))) hm)
     refine e_exv (i := 14) hbi rfl rfl (won rfl) rfl rfl (e_append (bytes := 32) rfl slt_24 rfl (ev (t := 20) (v := v56664) rfl ((sel_on (p := (0, 20)) rfl b0).trans (y0 b0))) (ev (t := 33) (v := (.slice (some ⟨g64303, 0, none⟩) 1 1)) rfl ((sel_on (p := (13, 33)) rfl b13).trans (y13 b13))) H56666 (k := 1) rfl (H64304.rd w0) (Sub.at_ (k := 4) rfl) hm64643 hg64401 (len63 hg64401 rfl)) ?_
     rintro p64403 w64405 ⟨H64404, hm64406⟩
     replace hm64406 : Mem w0 w64405 (cat [sg g0 T0 fr0 pre0 [v0x0, (.int .i64 r64101.2.at_), (.int .i64 r64101.2.seed)] post0, p64403.2, hF, (sg g63103 3 (0, 0) [] (encs (FK.int .i64) ([1, 1, 1, 2, 2, 3, 3, 4] : List Int)) []), (sg g64303 39 (0, 0) [] (encs impl_PoolAct.K ([(impl_PoolAct.mk (ix ([1, 1, 1, 2, 2, 3, 3, 4] : List Int) r63301.1) r63701.1 r63901.1 r64101.1)] : List impl_PoolAct)) [])]) := hm64406
     exact hK _ _ ⟨_, g63103, g64303, p64403, rfl, y0, y1, y2, y3, y4, y5, y6, y7, y8, y9, y10, y11, y12, y13, fun _ => rfl, fun hb => ab b15 hb, fun _ => H63104, fun _ => H64304, fun _ => H64404, Mem.gc (A := [sg g0 T0 fr0 pre0 [v0x0, (.int .i64 r64101.2.at_), (.int .i64 r64101.2.seed)] post0, [], hF, (sg g63103 3 (0, 0) [] (encs (FK.int .i64) ([1, 1, 1, 2, 2, 3, 3, 4] : List Int)) []), (sg g64303 39 (0, 0) [] (encs impl_PoolAct.K ([(impl_PoolAct.mk (ix ([1, 1, 1, 2, 2, 3, 3, 4] : List Int) r63301.1) r63701.1 r63901.1 r64101.1)] : List impl_PoolAct)) []), p64403.2]) (cat_cons (on_ b11 rfl) (cat_cons (on_ rfl rfl) (cat_cons rfl (cat_cons (on_ b1 rfl) (cat_cons (on_ b13 rfl) (cat_cons (on_ rfl rfl) rfl)))))) (Mem.pick [0, 1001, 2, 3, 4, 1] rfl hm64406)⟩
    ·
     intro b a w hI hbi hn hc K hK
     obtain ⟨vs, g63103, g64303, p64403, ha, y0, y1, y2, y3, y4, y5, y6, y7, y8, y9, y10, y11, y12, y13, y14, y15, H63104, H64304, H64404, hm⟩ := hI
     subst ha
     have b0 : b 0 = true := hn 0 (da rfl)
     have b1 : b 1 = true := hn 1 (da rfl)
     have b2 : b 2 = true := hn 2 (da rfl)
     have b3 : b 3 = true := hn 3 (da rfl)
     have b4 : b 4 = true := hn 4 (da rfl)
     have b5 : b 5 = true := hn 5 (da rfl)
     have b6 : b 6 = true := hn 6 (da rfl)
     have b7 : b 7 = true := hn 7 (da rfl)
     have b8 : b 8 = true := hn 8 (da rfl)
     have b9 : b 9 = true := hn 9 (da rfl)
     have b10 : b 10 = true := hn 10 (da rfl)
     have b11 : b 11 = true := hn 11 (da rfl)
     have b12 : b 12 = true := hn 12 (da rfl)
     have b13 : b 13 = true := hn 13 (da rfl)
     have b14 : b 14 = true := hn 14 (da rfl)
     have H63104 := H63104 b1
     have H64304 := H64304 b13
     have H64404 := H64404 b14
     have hm64646 : Mem w0 w (cat [sg g0 T0 fr0 pre0 [v0x0, (.int .i64 r64101.2.at_), (.int .i64 r64101.2.seed)] post0, hF, (sg g63103 3 (0, 0) [] (encs (FK.int .i64) ([1, 1, 1, 2, 2, 3, 3, 4] : List Int)) []), (sg g64303 39 (0, 0) [] (encs impl_PoolAct.K ([(impl_PoolAct.mk (ix ([1, 1, 1, 2, 2, 3, 3, 4] : List Int) r63301.1) r63701.1 r63901.1 r64101.1)] : List impl_PoolAct)) []), p64403.2]) := Mem.pick [0, 2, 3, 4, 5] rfl (Mem.cg (B := [sg g0 T0 fr0 pre0 [v0x0, (.int .i64 r64101.2.at_), (.int .i64 r64101.2.seed)] post0, [], hF, (sg g63103 3 (0, 0) [] (encs (FK.int .i64) ([1, 1, 1, 2, 2, 3, 3, 4] : List Int)) []), (sg g64303 39 (0, 0) [] (encs impl_PoolAct.K ([(impl_PoolAct.mk (ix ([1, 1, 1, 2, 2, 3, 3, 4] : List Int) r63301.1) r63701.1 r63901.1 r64101.1)] : List impl_PoolAct)) []), p64403.2]) (cat_cons (on_ b11 rfl) (cat_cons (on_ b14 rfl) (cat_cons rfl (cat_cons (on_ b1 rfl) (cat_cons (on_ b13 rfl) (cat_cons (on_ b14 rfl) rfl)))))) hm)
     refine e_val (i := 15) hbi rfl rfl (v := p64403.1) (won rfl) rfl rfl (x_assign rfl (ev (t := 34) (v := p64403.1) rfl ((sel_on (p := (14, 34)) rfl b14).trans (y14 b14)))) ?_
     exact hK _ _ ⟨_, g63103, g64303, p64403, rfl, y0, y1, y2, y3, y4, y5, y6, y7, y8, y9, y10, y11, y12, y13, y14, fun _ => rfl, fun _ => H63104, fun _ => H64304, fun _ => H64404, Mem.gc (A := [sg g0 T0 fr0 pre0 [v0x0, (.int .i64 r64101.2.at_), (.int .i64 r64101.2.seed)] post0, [], hF, (sg g63103 3 (0, 0) [] (encs (FK.int .i64) ([1, 1, 1, 2, 2, 3, 3, 4] : List Int)) []), (sg g64303 39 (0, 0) [] (encs impl_PoolAct.K ([(impl_PoolAct.mk (ix ([1, 1, 1, 2, 2, 3, 3, 4] : List Int) r63301.1) r63701.1 r63901.1 r64101.1)] : List impl_PoolAct)) []), p64403.2]) (cat_cons (on_ b11 rfl) (cat_cons (on_ b14 rfl) (cat_cons rfl (cat_cons (on_ b1 rfl) (cat_cons (on_ b13 rfl) (cat_cons (on_ b14 rfl) rfl)))))) (Mem.pick [0, 1001, 1, 2, 3, 4] rfl hm64646)⟩
    intro b a w hall hI
    obtain ⟨vs, g63103, g64303, p64403, ha, y0, y1, y2, y3, y4, y5, y6, y7, y8, y9, y10, y11, y12, y13, y14, y15, H63104, H64304, H64404, hm⟩ := hI
    have b0 : b 0 = true := hall 0 rfl
    have b1 : b 1 = true := hall 1 rfl
    have b2 : b 2 = true := hall 2 rfl
    have b3 : b 3 = true := hall 3 rfl
    have b4 : b 4 = true := hall 4 rfl
    have b5 : b 5 = true := hall 5 rfl
    have b6 : b 6 = true := hall 6 rfl
    have b7 : b 7 = true := hall 7 rfl
    have b8 : b 8 = true := hall 8 rfl
    have b9 : b 9 = true := hall 9 rfl
    have b10 : b 10 = true := hall 10 rfl
    have b11 : b 11 = true := hall 11 rfl
    have b12 : b 12 = true := hall 12 rfl
    have b13 : b 13 = true := hall 13 rfl
    have b14 : b 14 = true := hall 14 rfl
    have b15 : b 15 = true := hall 15 rfl
    replace H63104 := H63104 b1
    replace H64304 := H64304 b13
    replace H64404 := H64404 b14
    have hm64649 : Mem w0 w (cat [sg g0 T0 fr0 pre0 [v0x0, (.int .i64 r64101.2.at_), (.int .i64 r64101.2.seed)] post0, hF, (sg g63103 3 (0, 0) [] (encs (FK.int .i64) ([1, 1, 1, 2, 2, 3, 3, 4] : List Int)) []), (sg g64303 39 (0, 0) [] (encs impl_PoolAct.K ([(impl_PoolAct.mk (ix ([1, 1, 1, 2, 2, 3, 3, 4] : List Int) r63301.1) r63701.1 r63901.1 r64101.1)] : List impl_PoolAct)) []), p64403.2]) := Mem.pick [0, 2, 3, 4, 5] rfl (Mem.cg (B := [sg g0 T0 fr0 pre0 [v0x0, (.int .i64 r64101.2.at_), (.int .i64 r64101.2.seed)] post0, [], hF, (sg g63103 3 (0, 0) [] (encs (FK.int .i64) ([1, 1, 1, 2, 2, 3, 3, 4] : List Int)) []), (sg g64303 39 (0, 0) [] (encs impl_PoolAct.K ([(impl_PoolAct.mk (ix ([1, 1, 1, 2, 2, 3, 3, 4] : List Int) r63301.1) r63701.1 r63901.1 r64101.1)] : List impl_PoolAct)) []), p64403.2]) (cat_cons (on_ b11 rfl) (cat_cons (on_ b14 rfl) (cat_cons rfl (cat_cons (on_ b1 rfl) (cat_cons (on_ b13 rfl) (cat_cons (on_ b14 rfl) rfl)))))) hm)
    obtain ⟨f63000, ha', z63000x0, z63000x3, z63000x4⟩ : ∃ f' : Nat → Value, a = fr 36 f' ∧ f' 0 = (.pointer (some ⟨g0, o0, none⟩)) ∧ f' 3 = p64403.1 ∧ f' 4 = (.int .i64 s56668) := ⟨_, ha, (sel_no rfl).trans q56662, (sel_on (p := (15, 3)) rfl b15).trans (y15 b15), (sel_no rfl).trans q56669⟩
    subst ha'
    have hm64659 : Mem w0 w (cat [sg g0 T0 fr0 pre0 [v0x0, (.int .i64 r64101.2.at_), (.int .i64 r64101.2.seed)] post0, hF, p64403.2]) := Mem.pick [0, 1, 4] rfl hm64649
    refine nb ?_
    refine nx ?_
    refine wp_region_lit ?_
    refine s_val (v := (.int .i64 s56668)) (won rfl) rfl rfl (x_move rfl (ev (t := 4) (v := (.int .i64 s56668)) rfl z63000x4)) ?_
    refine s_val (v := (.int .i64 (IntKind.wrap .i64 (s56668 - 1)))) (won rfl) rfl rfl (x_sub rfl (ev (t := 18) rfl rfl) rfl) ?_
    refine s_val (v := (.int .i64 (IntKind.wrap .i64 (s56668 - 1)))) (won rfl) rfl rfl (x_assign rfl (ev (t := 19) rfl rfl)) ?_
    refine wpList_nil ?_
    refine nx ?_
    exact ⟨r64101.2.at_, r64101.2.seed, (s56663 ++ ([(impl_PoolAct.mk (ix ([1, 1, 1, 2, 2, 3, 3, 4] : List Int) r63301.1) r63701.1 r63901.1 r64101.1)] : List impl_PoolAct)), (IntKind.wrap .i64 (s56668 - 1)), p64403.1, p64403.2, _, he, rfl, z63000x0, z63000x3, rfl, H64404, Mem.pick [0, 2, 1] rfl hm64659⟩
   ·
    replace he := bifF he hb60665
    refine c_false rfl (p := ((decide ((0 : Int) < s56668)) && (decide ((s56663.length : Int) < 300)))) rfl rfl hb60665 ?_
    refine wp_exit ?_
    refine xs ?_
    refine xs ?_
    refine xb ?_
    refine nx ?_
    obtain rfl := Option.some.inj he
    exact ⟨v56664, h56665, _, rfl, q56667, H56666, Mem.pick [0, 1, 2] rfl hm60663⟩
 ·
  rintro a w ⟨v48663, h48664, f, rfl, q48666, H48665, hm64661⟩
  replace he := hk48668
  refine wp_seq ?_
  refine wp_region_lit ?_
  refine s_val (v := v48663) (won rfl) rfl rfl (x_move rfl (ev (t := 3) (v := v48663) rfl q48666)) ?_
  refine s_val (v := v48663) (won rfl) rfl rfl (x_assign rfl (ev (t := 35) rfl rfl)) ?_
  refine wpList_nil ?_
  refine nx ?_
  refine wp_ret ?_
  obtain rfl := Option.some.inj he
  refine r_ret (v := v48663) (rv_one rfl (RVs.tmp (v := v48663) rfl rfl RVs.nil)) rfl ?_
  exact ⟨v48663, h48664, rfl, H48665, Mem.pick [0, 1, 2] rfl hm64661⟩
def spec_PoolActsOf (F : Nat) (a0 : (List Int)) : Option ((List impl_PoolAct)) := (spec_l00Source a0).bind fun r19 => (spec_l00Src_poolActs F r19).bind fun r27 => (some r27.1)
set_option maxHeartbeats 400000 in
set_option maxRecDepth 100000 in
theorem spec_PoolActsOf_ok (F : Nat) {w0 w : World} {hR hF : Hp} {v0x0 : Value} (a0 : (List Int)) {r : ((List impl_PoolAct))} (H0x0 : RdF w0 (FK.int .u8) v0x0 a0 hR) (hs : Sub hR hF) (hm : Mem w0 w (cat [hF])) (he : spec_PoolActsOf F a0 = some r) :
    Calls Try.prog 10 #[v0x0] w (fun e w' => ∃ (v'0 : Value) (h'0 : Hp), e = .returned v'0 ∧ OwF 39 impl_PoolAct.K v'0 r h'0 ∧ Mem w0 w' (cat [h'0, hF])) := by
 refine calls_fr (n := 6) Try.func10 rfl rfl rfl ?_
 unfold spec_PoolActsOf at he
 refine wp_seq ?_
 refine wp_region_lit ?_
 refine s_val (v := (.slice none 0 0)) (won rfl) rfl rfl (x_assign rfl rfl) ?_
 refine wpList_nil ?_
 refine nx ?_
 refine wp_seq ?_
 obtain ⟨r19, hr19, he⟩ := bindE he
 obtain ⟨r27, hr27, he⟩ := bindE he
 refine wp_region_lit ?_
 refine s_val (v := v0x0) (won rfl) rfl rfl (x_move rfl (ev (t := 0) rfl rfl)) ?_
 refine s_call (won rfl) rfl rfl (x_call rfl rfl cl_56 (map_lit (map_cons (ev (t := 3) rfl rfl) map_nil))) (spec_l00Source_ok (hR := (cat [hR])) (hF := cat [hF]) a0 (H0x0.mono (Sub.at_ (k := 0) rfl)) (subc (Sub.trans hs (Sub.at_ (k := 0) rfl)) subn) (Mem.one hm) hr19) ?_
 rintro e w25 ⟨g20, v23, rfl, H24, hm26⟩
 refine ⟨_, rfl, ?_⟩
 replace hm26 : Mem w0 w25 (cat [sg g20 118 (0, 0) [] [v23, (.int .i64 r19.at_), (.int .i64 r19.seed)] [], hF]) := Mem.ung [sg g20 118 (0, 0) [] [v23, (.int .i64 r19.at_), (.int .i64 r19.seed)] []] [hF] hm26
 refine s_call (won rfl) rfl rfl (x_call rfl rfl cl_57 (map_lit (map_cons (ev (t := 4) rfl rfl) map_nil))) (spec_l00Src_poolActs_ok F (hR := (cat [hR])) (hF := cat [hF]) r19 (H24.mono (subc (subc (Sub.at_ (k := 0) rfl) subn) subn)) (subc (Sub.trans hs (Sub.at_ (k := 0) rfl)) subn) rfl (Mem.grp [sg g20 118 (0, 0) [] [v23, (.int .i64 r19.at_), (.int .i64 r19.seed)] []] [hF] (Mem.pick [0, 1] rfl hm26)) hr27) ?_
 rintro e w32 ⟨v29, h31, rfl, H30, hm33⟩
 refine ⟨_, rfl, ?_⟩
 replace hm33 : Mem w0 w32 (cat [sg g20 118 (0, 0) [] [v23, (.int .i64 r27.2.at_), (.int .i64 r27.2.seed)] [], h31, hF]) := Mem.ung [sg g20 118 (0, 0) [] [v23, (.int .i64 r27.2.at_), (.int .i64 r27.2.seed)] [], h31] [hF] hm33
 refine s_val (v := v29) (won rfl) rfl rfl (x_assign rfl (ev (t := 5) rfl rfl)) ?_
 refine wpList_nil ?_
 have hm34 : Mem w0 w32 (cat [h31, hF]) := Mem.pick [1, 2] rfl hm33
 refine nx ?_
 refine wp_ret ?_
 obtain rfl := Option.some.inj he
 refine r_ret (v := v29) (rv_one rfl (RVs.tmp (v := v29) rfl rfl RVs.nil)) rfl ?_
 exact ⟨v29, h31, rfl, H30, Mem.pick [0, 1] rfl hm34⟩
def impl_inRange (a0 : Int) (a1 : Int) (a2 : Int) : Option (Bool) := (some ((decide (a1 ≤ a0)) && (decide (a0 ≤ a2))))
set_option maxHeartbeats 400000 in
set_option maxRecDepth 100000 in
theorem impl_inRange_ok {w0 w : World} {hR hF : Hp} (a0 : Int) (a1 : Int) (a2 : Int) {r : (Bool)} (hm : Mem w0 w (cat [hF])) (he : impl_inRange a0 a1 a2 = some r) :
    Calls Try.prog 58 #[(.int .i64 a0), (.int .i64 a1), (.int .i64 a2)] w (fun e w' => e = .returned (.bool r) ∧ Mem w0 w' (cat [hF])) := by
 refine calls_fr (n := 15) Try.func58 rfl rfl rfl ?_
 unfold impl_inRange at he
 refine wp_seq ?_
 refine wp_region_lit ?_
 refine s_val (v := (.bool false)) (won rfl) rfl rfl (x_assign rfl rfl) ?_
 refine wpList_nil ?_
 refine nx ?_
 refine wp_seq ?_
 refine wp_region_lit ?_
 refine s_val (v := (.int .i64 a0)) (won rfl) rfl rfl (x_move rfl (ev (t := 0) rfl rfl)) ?_
 refine s_val (v := (.int .i64 a1)) (won rfl) rfl rfl (x_move rfl (ev (t := 1) rfl rfl)) ?_
 refine s_val (v := (.bool (decide (a1 ≤ a0)))) (won rfl) rfl rfl (x_geq rfl (ev (t := 7) rfl rfl) (ev (t := 8) rfl rfl)) ?_
 refine s_val (v := (.bool (decide (a1 ≤ a0)))) (won rfl) rfl rfl (x_move rfl (ev (t := 9) rfl rfl)) ?_
 refine s_cval (p := (decide (a1 ≤ a0))) (v := (.int .i64 a0)) (won_t (j := 3) (t := 10) (q := (decide (a1 ≤ a0))) rfl rfl rfl rfl rfl) rfl rfl (fun hp => (x_move rfl (ev (t := 0) rfl rfl))) ?_
 refine s_cval (p := (decide (a1 ≤ a0))) (v := (.int .i64 a2)) (won_t (j := 3) (t := 10) (q := (decide (a1 ≤ a0))) rfl rfl rfl rfl rfl) rfl rfl (fun hp => (x_move rfl (ev (t := 2) rfl rfl))) ?_
 refine s_cval (p := (decide (a1 ≤ a0))) (v := (.bool (decide (a0 ≤ a2)))) (won_t (j := 3) (t := 10) (q := (decide (a1 ≤ a0))) rfl rfl rfl rfl rfl) rfl rfl (fun hp => (x_leq rfl (ev (t := 11) rfl (Eq.trans (b := cv (decide (a1 ≤ a0)) (.int .i64 a0)) rfl (on_c hp))) (ev (t := 12) rfl (Eq.trans (b := cv (decide (a1 ≤ a0)) (.int .i64 a2)) rfl (on_c hp))))) ?_
 refine s_val (v := (.bool ((decide (a1 ≤ a0)) && (decide (a0 ≤ a2))))) (won rfl) rfl rfl (x_pick_and rfl (ev (t := 10) rfl rfl) (fun hq => ev rfl (Eq.trans (b := cv (decide (a1 ≤ a0)) (.bool (decide (a0 ≤ a2)))) rfl (on_c hq))) rfl) ?_
 refine s_val (v := (.bool ((decide (a1 ≤ a0)) && (decide (a0 ≤ a2))))) (won rfl) rfl rfl (x_assign rfl (ev (t := 14) rfl rfl)) ?_
 refine wpList_nil ?_
 refine nx ?_
 refine wp_ret ?_
 obtain rfl := Option.some.inj he
 refine r_ret (v := (.bool ((decide (a1 ≤ a0)) && (decide (a0 ≤ a2))))) (rv_one rfl (RVs.tmp (v := (.bool ((decide (a1 ≤ a0)) && (decide (a0 ≤ a2))))) rfl rfl RVs.nil)) rfl ?_
 exact ⟨rfl, Mem.pick [0] rfl hm⟩
def impl_NewPool_l1 (F : Nat) (a0 : Int) : Nat → (List Int) → (List Int) → Int → Option ((List Int) × (List Int))
  | 0, _, _, _ => none
  | k + 1, s3929, s3932, s3937 => (bif (decide (s3937 < a0)) then gd ((0 : Int) ≤ s3937 ∧ s3937 < (s3929.length : Int)) (gd ((0 : Int) ≤ s3937 ∧ s3937 < (s3932.length : Int)) (impl_NewPool_l1 F a0 k (List.set s3929 (Int.toNat s3937) s3937) (List.set s3932 (Int.toNat s3937) (-1)) (IntKind.wrap .i64 (s3937 + 1)))) else (some (s3929, s3932)))
def impl_NewPool (F : Nat) (a0 : Int) : Option (impl_Pool × Int) := (impl_inRange a0 1 32).bind fun r2010 => (bif (!r2010) then (some ((impl_Pool.mk ([] : List Int) ([] : List Int)), 4)) else gd ((0 : Int) ≤ a0 ∧ (Int.toNat a0) * 8 ≤ 140737488355328) (gd ((0 : Int) ≤ a0 ∧ (Int.toNat a0) * 8 ≤ 140737488355328) ((impl_NewPool_l1 F a0 F (List.replicate (Int.toNat a0) 0) (List.replicate (Int.toNat a0) 0) 0 : Option ((List Int) × (List Int))).bind fun (s3864 : ((List Int) × (List Int))) => (some ((impl_Pool.mk s3864.1 s3864.2), 0)))))
set_option maxHeartbeats 400000 in
set_option maxRecDepth 100000 in
theorem impl_NewPool_ok (F : Nat) {w0 w : World} {hR hF : Hp} (a0 : Int) {r : (impl_Pool × Int)} (hm : Mem w0 w (cat [hF])) (he : impl_NewPool F a0 = some r) :
    Calls Try.prog 11 #[(.int .i64 a0)] w (fun e w' => ∃ (v'0 : Value) (h'0 : Hp) (v'1 : Value) (h'1 : Hp), e = .returned (.tuple #[(.agg #[v'0, v'1]), (.int .i64 r.2)]) ∧ OwF 3 (FK.int .i64) v'0 r.1.Free h'0 ∧ OwF 3 (FK.int .i64) v'1 r.1.Owner h'1 ∧ Mem w0 w' (cat [h'0, h'1, hF])) := by
 refine calls_fr (n := 30) Try.func11 rfl rfl rfl ?_
 unfold impl_NewPool at he
 refine wp_seq ?_
 refine wp_region_lit ?_
 refine s_exv (won rfl) rfl rfl (e_alloc (vs := [(.slice none 0 0), (.slice none 0 0)]) rfl zt_28 rfl hm) ?_
 rintro g1998 w1999 hm2000
 refine s_val (v := (.int .i64 0)) (won rfl) rfl rfl (x_assign rfl rfl) ?_
 refine wpList_nil ?_
 refine nx ?_
 refine wp_seq ?_
 refine wp_seq ?_
 obtain ⟨r2010, hr2010, he⟩ := bindE he
 refine wp_region_lit ?_
 refine s_val (v := (.int .i64 a0)) (won rfl) rfl rfl (x_move rfl (ev (t := 0) rfl rfl)) ?_
 refine s_call (won rfl) rfl rfl (x_call rfl rfl cl_58 (map_lit (map_cons (ev (t := 6) rfl rfl) (map_cons rfl (map_cons rfl map_nil))))) (impl_inRange_ok (hR := (cat [])) (hF := cat [sg g1998 28 (0, 0) [] [(.slice none 0 0), (.slice none 0 0)] [], hF]) a0 1 32  (Mem.one hm2000) hr2010) ?_
 rintro e w2011 ⟨rfl, hm2012⟩
 refine ⟨_, rfl, ?_⟩
 replace hm2012 : Mem w0 w2011 (cat [sg g1998 28 (0, 0) [] [(.slice none 0 0), (.slice none 0 0)] [], hF]) := Mem.un hm2012
 refine s_val (v := (.bool (!r2010))) (won rfl) rfl rfl (x_not rfl (ev (t := 7) rfl rfl)) ?_
 refine wpList_nil ?_
 refine nx ?_
 rcases Bool.eq_false_or_eq_true ((!r2010)) with hb2013 | hb2013
 ·
  replace he := bifT he hb2013
  refine c_true rfl (p := (!r2010)) rfl rfl hb2013 ?_
  refine wp_seq ?_
  refine wp_region_lit ?_
  refine s_val (v := (.agg #[(.slice none 0 0), (.slice none 0 0)])) (won rfl) rfl rfl (x_build (cells := [(.slice none 0 0), (.slice none 0 0)]) (zc := [.slice none 0 0, .slice none 0 0]) (sizes := [(0, 1), (1, 1)]) (ps := []) rfl zt_28 rfl uf_28 ufz_28 (pmap_lit pmap_nil) fill_nil) ?_
  refine s_exs (won rfl) rfl (e_store (vs := [(.slice none 0 0), (.slice none 0 0)]) (o' := 0) (j := 0) rfl sz_28 (ev (t := 2) rfl rfl) (ev (t := 9) rfl rfl) rfl rfl hm2012 (k := 0) rfl rfl rfl) ?_
  intro w2016 hm2017
  replace hm2017 : Mem w0 w2016 (cat [sg g1998 28 (0, 0) [] [(.slice none 0 0), (.slice none 0 0)] [], hF]) := hm2017
  refine s_val (v := (.int .i64 4)) (won rfl) rfl rfl (x_assign rfl rfl) ?_
  refine wpList_nil ?_
  refine nx ?_
  refine wp_ret ?_
  refine xr ?_
  obtain rfl := Option.some.inj he
  refine r_ret (v := (.tuple #[(.agg #[(.slice none 0 0), (.slice none 0 0)]), (.int .i64 4)])) (rv_list rfl rfl (RVs.cell (cs := [(.slice none 0 0), (.slice none 0 0)]) rfl rfl tyN_28 (seg_cells (o' := 0) (j := 0) hm2017 (k := 0) rfl rfl rfl) (RVs.tmp (v := (.int .i64 4)) rfl rfl RVs.nil))) rfl ?_
  exact ⟨(.slice none 0 0), [], (.slice none 0 0), [], rfl, (OwF.nil 3 (FK.int .i64)), (OwF.nil 3 (FK.int .i64)), Mem.pick [1000, 1001, 1] rfl hm2017⟩
 ·
  replace he := bifF he hb2013
  refine c_false rfl (p := (!r2010)) rfl rfl hb2013 ?_
  refine wp_skip ?_
  refine nx ?_
  refine wp_seq ?_
  obtain ⟨hg3101, he⟩ := gdE he
  obtain ⟨hg3301, he⟩ := gdE he
  obtain ⟨hz3000, hze3000⟩ : ∃ hz : Hp, hz = cat [sg g1998 28 (0, 0) [] [(.slice none 0 0), (.slice none 0 0)] [], hF] := ⟨_, rfl⟩
  have hm3000 : Mem w0 w2011 (cat [hz3000]) := by rw [hze3000]; exact Mem.grp [] [sg g1998 28 (0, 0) [] [(.slice none 0 0), (.slice none 0 0)] [], hF] (Mem.pick [0, 1] rfl hm2012)
  refine wp_drawF (I := fun f b a w => ∃ (vs : Nat → Value) (p3103 : Value × Hp) (p3303 : Value × Hp) (g3503 : Nat), a = fr 30 (sel b [(0, 10), (1, 11), (2, 12), (3, 13), (4, 14), (5, 4)] vs f) ∧ (b 0 = true → vs 0 = (.int .i64 a0)) ∧ (b 1 = true → vs 1 = p3103.1) ∧ (b 2 = true → vs 2 = (.int .i64 a0)) ∧ (b 3 = true → vs 3 = p3303.1) ∧ (b 4 = true → vs 4 = (.agg #[p3103.1, p3303.1])) ∧ (b 5 = true → vs 5 = (.pointer (some ⟨g3503, 0, none⟩))) ∧ (b 1 = true → OwF 3 (FK.int .i64) p3103.1 (List.replicate (Int.toNat a0) 0) p3103.2) ∧ (b 3 = true → OwF 3 (FK.int .i64) p3303.1 (List.replicate (Int.toNat a0) 0) p3303.2) ∧ Mem w0 w (cat [hz3000, (bif b 1 then p3103.2 else []), (bif b 3 then p3303.2 else []), (bif b 6 then sg g3503 28 (0, 0) [] [p3103.1, p3303.1] [] else (bif b 5 then sg g3503 28 (0, 0) [] [(.slice none 0 0), (.slice none 0 0)] [] else []))])) mixed (by kernel_rfl) ⟨fun _ => undef, (undef, []), (undef, []), 0, (by rw [sel_false]), fun h => fno h, fun h => fno h, fun h => fno h, fun h => fno h, fun h => fno h, fun h => fno h, fun h => fno h, fun h => fno h, Mem.drew (Mem.pick [0, 1000, 1001, 1002] rfl hm3000)⟩ (steps_cons (i := 0) ?_ (steps_cons (i := 1) ?_ (steps_cons (i := 2) ?_ (steps_cons (i := 3) ?_ (steps_cons (i := 4) ?_ (steps_cons (i := 5) ?_ (steps_cons (i := 6) ?_ steps_nil))))))) ?_
  ·
   intro b a w hI hbi hn hc K hK
   obtain ⟨vs, p3103, p3303, g3503, ha, y0, y1, y2, y3, y4, y5, H3104, H3304, hm⟩ := hI
   subst ha
   have b1 : b 1 = false := later (j := 1) hc rfl (i := 0) (da rfl) hbi
   have b4 : b 4 = false := later (j := 4) hc rfl (i := 1) (da rfl) b1
   have b6 : b 6 = false := later (j := 6) hc rfl (i := 0) (da rfl) hbi
   have hm3701 : Mem w0 w (cat [hz3000, (bif b 3 then p3303.2 else []), (bif b 5 then sg g3503 28 (0, 0) [] [(.slice none 0 0), (.slice none 0 0)] [] else [])]) := Mem.pick [0, 2, 3] rfl (Mem.cg (B := [hz3000, [], (bif b 3 then p3303.2 else []), (bif b 5 then sg g3503 28 (0, 0) [] [(.slice none 0 0), (.slice none 0 0)] [] else [])]) (cat_cons rfl (cat_cons (off_ b1 rfl) (cat_cons rfl (cat_cons (off_ b6 rfl) rfl)))) hm)
   refine e_val (i := 0) hbi rfl rfl (v := (.int .i64 a0)) (won rfl) rfl rfl (x_move rfl (ev (t := 0) (v := (.int .i64 a0)) rfl ((sel_no rfl).trans rfl))) ?_
   exact hK _ _ ⟨_, p3103, p3303, g3503, rfl, fun _ => rfl, y1, y2, y3, y4, y5, H3104, H3304, Mem.gc (A := [hz3000, [], (bif b 3 then p3303.2 else []), (bif b 5 then sg g3503 28 (0, 0) [] [(.slice none 0 0), (.slice none 0 0)] [] else [])]) (cat_cons rfl (cat_cons (off_ b1 rfl) (cat_cons rfl (cat_cons (off_ b6 rfl) rfl)))) (Mem.pick [0, 1001, 1, 2] rfl hm3701)⟩
  ·
   intro b a w hI hbi hn hc K hK
   obtain ⟨vs, p3103, p3303, g3503, ha, y0, y1, y2, y3, y4, y5, H3104, H3304, hm⟩ := hI
   subst ha
   have b0 : b 0 = true := hn 0 (da rfl)
   have b4 : b 4 = false := later (j := 4) hc rfl (i := 1) (da rfl) hbi
   have b6 : b 6 = false := later (j := 6) hc rfl (i := 1) (da rfl) hbi
   have hm3704 : Mem w0 w (cat [hz3000, (bif b 3 then p3303.2 else []), (bif b 5 then sg g3503 28 (0, 0) [] [(.slice none 0 0), (.slice none 0 0)] [] else [])]) := Mem.pick [0, 2, 3] rfl (Mem.cg (B := [hz3000, [], (bif b 3 then p3303.2 else []), (bif b 5 then sg g3503 28 (0, 0) [] [(.slice none 0 0), (.slice none 0 0)] [] else [])]) (cat_cons rfl (cat_cons (off_ hbi rfl) (cat_cons rfl (cat_cons (off_ b6 rfl) rfl)))) hm)
   refine e_exv (i := 1) hbi rfl rfl (won rfl) rfl rfl (e_make (d := (FK.int .i64)) (a := 0) rfl slt_26 rfl (ev (t := 10) (v := (.int .i64 a0)) rfl ((sel_on (p := (0, 10)) rfl b0).trans (y0 b0))) (ev (t := 10) (v := (.int .i64 a0)) rfl ((sel_on (p := (0, 10)) rfl b0).trans (y0 b0))) hg3101.1 hg3101.2 (by have := hg3101; omega) hm3704) ?_
   rintro p3103 w3105 ⟨H3104, hm3106⟩
   replace hm3106 : Mem w0 w3105 (cat [p3103.2, hz3000, (bif b 3 then p3303.2 else []), (bif b 5 then sg g3503 28 (0, 0) [] [(.slice none 0 0), (.slice none 0 0)] [] else [])]) := hm3106
   exact hK _ _ ⟨_, p3103, p3303, g3503, rfl, y0, fun _ => rfl, y2, y3, fun hb => ab b4 hb, y5, fun _ => H3104, H3304, Mem.gc (A := [hz3000, p3103.2, (bif b 3 then p3303.2 else []), (bif b 5 then sg g3503 28 (0, 0) [] [(.slice none 0 0), (.slice none 0 0)] [] else [])]) (cat_cons rfl (cat_cons (on_ rfl rfl) (cat_cons rfl (cat_cons (off_ b6 rfl) rfl)))) (Mem.pick [1, 0, 2, 3] rfl hm3106)⟩
  ·
   intro b a w hI hbi hn hc K hK
   obtain ⟨vs, p3103, p3303, g3503, ha, y0, y1, y2, y3, y4, y5, H3104, H3304, hm⟩ := hI
   subst ha
   have b3 : b 3 = false := later (j := 3) hc rfl (i := 2) (da rfl) hbi
   have b4 : b 4 = false := later (j := 4) hc rfl (i := 3) (da rfl) b3
   have b6 : b 6 = false := later (j := 6) hc rfl (i := 2) (da rfl) hbi
   have hm3707 : Mem w0 w (cat [hz3000, (bif b 1 then p3103.2 else []), (bif b 5 then sg g3503 28 (0, 0) [] [(.slice none 0 0), (.slice none 0 0)] [] else [])]) := Mem.pick [0, 1, 3] rfl (Mem.cg (B := [hz3000, (bif b 1 then p3103.2 else []), [], (bif b 5 then sg g3503 28 (0, 0) [] [(.slice none 0 0), (.slice none 0 0)] [] else [])]) (cat_cons rfl (cat_cons rfl (cat_cons (off_ b3 rfl) (cat_cons (off_ b6 rfl) rfl)))) hm)
   refine e_val (i := 2) hbi rfl rfl (v := (.int .i64 a0)) (won rfl) rfl rfl (x_move rfl (ev (t := 0) (v := (.int .i64 a0)) rfl ((sel_no rfl).trans rfl))) ?_
   exact hK _ _ ⟨_, p3103, p3303, g3503, rfl, y0, y1, fun _ => rfl, y3, y4, y5, H3104, H3304, Mem.gc (A := [hz3000, (bif b 1 then p3103.2 else []), [], (bif b 5 then sg g3503 28 (0, 0) [] [(.slice none 0 0), (.slice none 0 0)] [] else [])]) (cat_cons rfl (cat_cons rfl (cat_cons (off_ b3 rfl) (cat_cons (off_ b6 rfl) rfl)))) (Mem.pick [0, 1, 1002, 2] rfl hm3707)⟩
  ·
   intro b a w hI hbi hn hc K hK
   obtain ⟨vs, p3103, p3303, g3503, ha, y0, y1, y2, y3, y4, y5, H3104, H3304, hm⟩ := hI
   subst ha
   have b2 : b 2 = true := hn 2 (da rfl)
   have b4 : b 4 = false := later (j := 4) hc rfl (i := 3) (da rfl) hbi
   have b6 : b 6 = false := later (j := 6) hc rfl (i := 3) (da rfl) hbi
   have hm3710 : Mem w0 w (cat [hz3000, (bif b 1 then p3103.2 else []), (bif b 5 then sg g3503 28 (0, 0) [] [(.slice none 0 0), (.slice none 0 0)] [] else [])]) := Mem.pick [0, 1, 3] rfl (Mem.cg (B := [hz3000, (bif b 1 then p3103.2 else []), [], (bif b 5 then sg g3503 28 (0, 0) [] [(.slice none 0 0), (.slice none 0 0)] [] else [])]) (cat_cons rfl (cat_cons rfl (cat_cons (off_ hbi rfl) (cat_cons (off_ b6 rfl) rfl)))) hm)
   refine e_exv (i := 3) hbi rfl rfl (won rfl) rfl rfl (e_make (d := (FK.int .i64)) (a := 0) rfl slt_26 rfl (ev (t := 12) (v := (.int .i64 a0)) rfl ((sel_on (p := (2, 12)) rfl b2).trans (y2 b2))) (ev (t := 12) (v := (.int .i64 a0)) rfl ((sel_on (p := (2, 12)) rfl b2).trans (y2 b2))) hg3301.1 hg3301.2 (by have := hg3301; omega) hm3710) ?_
   rintro p3303 w3305 ⟨H3304, hm3306⟩
   replace hm3306 : Mem w0 w3305 (cat [p3303.2, hz3000, (bif b 1 then p3103.2 else []), (bif b 5 then sg g3503 28 (0, 0) [] [(.slice none 0 0), (.slice none 0 0)] [] else [])]) := hm3306
   exact hK _ _ ⟨_, p3103, p3303, g3503, rfl, y0, y1, y2, fun _ => rfl, fun hb => ab b4 hb, y5, H3104, fun _ => H3304, Mem.gc (A := [hz3000, (bif b 1 then p3103.2 else []), p3303.2, (bif b 5 then sg g3503 28 (0, 0) [] [(.slice none 0 0), (.slice none 0 0)] [] else [])]) (cat_cons rfl (cat_cons rfl (cat_cons (on_ rfl rfl) (cat_cons (off_ b6 rfl) rfl)))) (Mem.pick [1, 2, 0, 3] rfl hm3306)⟩
  ·
   intro b a w hI hbi hn hc K hK
   obtain ⟨vs, p3103, p3303, g3503, ha, y0, y1, y2, y3, y4, y5, H3104, H3304, hm⟩ := hI
   subst ha
   have b1 : b 1 = true := hn 1 (da rfl)
   have b3 : b 3 = true := hn 3 (da rfl)
   have b0 : b 0 = true := hc 1 _ rfl b1 0 (da rfl)
   have b2 : b 2 = true := hc 3 _ rfl b3 2 (da rfl)
   have b6 : b 6 = false := later (j := 6) hc rfl (i := 4) (da rfl) hbi
   have H3104 := H3104 b1
   have H3304 := H3304 b3
   have hm3713 : Mem w0 w (cat [hz3000, p3103.2, p3303.2, (bif b 5 then sg g3503 28 (0, 0) [] [(.slice none 0 0), (.slice none 0 0)] [] else [])]) := Mem.pick [0, 1, 2, 3] rfl (Mem.cg (B := [hz3000, p3103.2, p3303.2, (bif b 5 then sg g3503 28 (0, 0) [] [(.slice none 0 0), (.slice none 0 0)] [] else [])]) (cat_cons rfl (cat_cons (on_ b1 rfl) (cat_cons (on_ b3 rfl) (cat_cons (off_ b6 rfl) rfl)))) hm)
   refine e_val (i := 4) hbi rfl rfl (v := (.agg #[p3103.1, p3303.1])) (won rfl) rfl rfl (x_build (cells := [p3103.1, p3303.1]) (zc := [.slice none 0 0, .slice none 0 0]) (sizes := [(0, 1), (1, 1)]) (ps := [(0, p3103.1), (1, p3303.1)]) rfl zt_28 rfl uf_28 ufz_28 (pmap_lit (pmap_cons (ev (t := 11) (v := p3103.1) rfl ((sel_on (p := (1, 11)) rfl b1).trans (y1 b1))) (pmap_cons (ev (t := 13) (v := p3303.1) rfl ((sel_on (p := (3, 13)) rfl b3).trans (y3 b3))) pmap_nil))) (fill_cons (cs := [p3103.1]) rfl (IsSl.cells (H3104).sl) rfl (fill_cons (cs := [p3303.1]) rfl (IsSl.cells (H3304).sl) rfl fill_nil))) ?_
   exact hK _ _ ⟨_, p3103, p3303, g3503, rfl, y0, y1, y2, y3, fun _ => rfl, y5, fun _ => H3104, fun _ => H3304, Mem.gc (A := [hz3000, p3103.2, p3303.2, (bif b 5 then sg g3503 28 (0, 0) [] [(.slice none 0 0), (.slice none 0 0)] [] else [])]) (cat_cons rfl (cat_cons (on_ b1 rfl) (cat_cons (on_ b3 rfl) (cat_cons (off_ b6 rfl) rfl)))) (Mem.pick [0, 1, 2, 3] rfl hm3713)⟩
  ·
   intro b a w hI hbi hn hc K hK
   obtain ⟨vs, p3103, p3303, g3503, ha, y0, y1, y2, y3, y4, y5, H3104, H3304, hm⟩ := hI
   subst ha
   have b6 : b 6 = false := later (j := 6) hc rfl (i := 5) (da rfl) hbi
   have hm3716 : Mem w0 w (cat [hz3000, (bif b 1 then p3103.2 else []), (bif b 3 then p3303.2 else [])]) := Mem.pick [0, 1, 2] rfl (Mem.cg (B := [hz3000, (bif b 1 then p3103.2 else []), (bif b 3 then p3303.2 else []), []]) (cat_cons rfl (cat_cons rfl (cat_cons rfl (cat_cons (off_ b6 (off_ hbi rfl)) rfl)))) hm)
   refine e_exv (i := 5) hbi rfl rfl (won rfl) rfl rfl (e_alloc (vs := [(.slice none 0 0), (.slice none 0 0)]) rfl zt_28 rfl hm3716) ?_
   rintro g3503 w3504 hm3505
   exact hK _ _ ⟨_, p3103, p3303, g3503, rfl, y0, y1, y2, y3, y4, fun _ => rfl, H3104, H3304, Mem.gc (A := [hz3000, (bif b 1 then p3103.2 else []), (bif b 3 then p3303.2 else []), sg g3503 28 (0, 0) [] [(.slice none 0 0), (.slice none 0 0)] []]) (cat_cons rfl (cat_cons rfl (cat_cons rfl (cat_cons (off_ b6 (on_ rfl rfl)) rfl)))) (Mem.pick [1, 2, 3, 0] rfl hm3505)⟩
  ·
   intro b a w hI hbi hn hc K hK
   obtain ⟨vs, p3103, p3303, g3503, ha, y0, y1, y2, y3, y4, y5, H3104, H3304, hm⟩ := hI
   subst ha
   have b0 : b 0 = true := hn 0 (da rfl)
   have b1 : b 1 = true := hn 1 (da rfl)
   have b2 : b 2 = true := hn 2 (da rfl)
   have b3 : b 3 = true := hn 3 (da rfl)
   have b4 : b 4 = true := hn 4 (da rfl)
   have b5 : b 5 = true := hn 5 (da rfl)
   have H3104 := H3104 b1
   have H3304 := H3304 b3
   have hm3719 : Mem w0 w (cat [hz3000, p3103.2, p3303.2, sg g3503 28 (0, 0) [] [(.slice none 0 0), (.slice none 0 0)] []]) := Mem.pick [0, 1, 2, 3] rfl (Mem.cg (B := [hz3000, p3103.2, p3303.2, sg g3503 28 (0, 0) [] [(.slice none 0 0), (.slice none 0 0)] []]) (cat_cons rfl (cat_cons (on_ b1 rfl) (cat_cons (on_ b3 rfl) (cat_cons (off_ hbi (on_ b5 rfl)) rfl)))) hm)
   refine e_exs (i := 6) hbi rfl (won rfl) rfl (e_store (vs := [p3103.1, p3303.1]) (o' := 0) (j := 0) rfl sz_28 (ev (t := 4) (v := (.pointer (some ⟨g3503, 0, none⟩))) rfl ((sel_on (p := (5, 4)) rfl b5).trans (y5 b5))) (ev (t := 14) (v := (.agg #[p3103.1, p3303.1])) rfl ((sel_on (p := (4, 14)) rfl b4).trans (y4 b4))) rfl (one_cons (IsSl.one (H3104).sl) (one_cons (IsSl.one (H3304).sl) one_nil)) hm3719 (k := 3) rfl rfl rfl) ?_
   intro w3601 hm3602
   replace hm3602 : Mem w0 w3601 (cat [hz3000, p3103.2, p3303.2, sg g3503 28 (0, 0) [] [p3103.1, p3303.1] []]) := hm3602
   exact hK _ _ ⟨_, p3103, p3303, g3503, rfl, y0, y1, y2, y3, y4, y5, fun _ => H3104, fun _ => H3304, Mem.gc (A := [hz3000, p3103.2, p3303.2, sg g3503 28 (0, 0) [] [p3103.1, p3303.1] []]) (cat_cons rfl (cat_cons (on_ b1 rfl) (cat_cons (on_ b3 rfl) (cat_cons (on_ rfl rfl) rfl)))) (Mem.pick [0, 1, 2, 3] rfl hm3602)⟩
  intro b a w hall hI
  obtain ⟨vs, p3103, p3303, g3503, ha, y0, y1, y2, y3, y4, y5, H3104, H3304, hm⟩ := hI
  have b0 : b 0 = true := hall 0 rfl
  have b1 : b 1 = true := hall 1 rfl
  have b2 : b 2 = true := hall 2 rfl
  have b3 : b 3 = true := hall 3 rfl
  have b4 : b 4 = true := hall 4 rfl
  have b5 : b 5 = true := hall 5 rfl
  have b6 : b 6 = true := hall 6 rfl
  replace H3104 := H3104 b1
  replace H3304 := H3304 b3
  have hm3722 : Mem w0 w (cat [p3103.2, p3303.2, sg g3503 28 (0, 0) [] [p3103.1, p3303.1] [], hz3000]) := Mem.pick [1, 2, 3, 0] rfl (Mem.cg (B := [hz3000, p3103.2, p3303.2, sg g3503 28 (0, 0) [] [p3103.1, p3303.1] []]) (cat_cons rfl (cat_cons (on_ b1 rfl) (cat_cons (on_ b3 rfl) (cat_cons (on_ b6 rfl) rfl)))) hm)
  obtain ⟨f3000, ha', z3000x0, z3000x2, z3000x4⟩ : ∃ f' : Nat → Value, a = fr 30 f' ∧ f' 0 = (.int .i64 a0) ∧ f' 2 = (.pointer (some ⟨g1998, 0, none⟩)) ∧ f' 4 = (.pointer (some ⟨g3503, 0, none⟩)) := ⟨_, ha, (sel_no rfl).trans rfl, (sel_no rfl).trans rfl, (sel_on (p := (5, 4)) rfl b5).trans (y5 b5)⟩
  subst ha'
  subst hze3000
  replace hm3722 : Mem w0 w (cat [p3103.2, p3303.2, sg g3503 28 (0, 0) [] [p3103.1, p3303.1] [], sg g1998 28 (0, 0) [] [(.slice none 0 0), (.slice none 0 0)] [], hF]) := Mem.ung [p3103.2, p3303.2, sg g3503 28 (0, 0) [] [p3103.1, p3303.1] []] [sg g1998 28 (0, 0) [] [(.slice none 0 0), (.slice none 0 0)] [], hF] hm3722
  refine nx ?_
  obtain ⟨s3864, hT3866, hk3865⟩ := bindE he
  replace he := hT3866
  refine wp_seqJ (fun a w => ∃ (h3858 : Hp) (h3861 : Hp) (f : Nat → Value), a = fr 30 f ∧ f 2 = (.pointer (some ⟨g1998, 0, none⟩)) ∧ f 4 = (.pointer (some ⟨g3503, 0, none⟩)) ∧ OwF 3 (FK.int .i64) p3103.1 s3864.1 h3858 ∧ OwF 3 (FK.int .i64) p3303.1 s3864.2 h3861 ∧ Mem w0 w (cat [sg g1998 28 (0, 0) [] [(.slice none 0 0), (.slice none 0 0)] [], sg g3503 28 (0, 0) [] [p3103.1, p3303.1] [], h3858, h3861, hF])) ?_ ?_
  ·
   refine wp_seq ?_
   refine wp_region_lit ?_
   refine s_val (v := (.int .i64 a0)) (won rfl) rfl rfl (x_move rfl (ev (t := 0) (v := (.int .i64 a0)) rfl z3000x0)) ?_
   refine s_val (v := (.int .i64 0)) (won rfl) rfl rfl (x_move rfl rfl) ?_
   refine wpList_nil ?_
   refine nx ?_
   refine wp_block ?_
   refine wp_fuel (I := fun k => fun a w => ∃ (s3929 : (List Int)) (s3932 : (List Int)) (s3937 : Int) (h3930 : Hp) (h3933 : Hp) (f : Nat → Value), impl_NewPool_l1 F a0 k s3929 s3932 s3937 = some s3864 ∧ a = fr 30 f ∧ f 2 = (.pointer (some ⟨g1998, 0, none⟩)) ∧ f 4 = (.pointer (some ⟨g3503, 0, none⟩)) ∧ f 15 = (.int .i64 a0) ∧ f 16 = (.int .i64 s3937) ∧ OwF 3 (FK.int .i64) p3103.1 s3929 h3930 ∧ OwF 3 (FK.int .i64) p3303.1 s3932 h3933 ∧ Mem w0 w (cat [sg g1998 28 (0, 0) [] [(.slice none 0 0), (.slice none 0 0)] [], sg g3503 28 (0, 0) [] [p3103.1, p3303.1] [], h3930, h3933, hF])) F _ _ ⟨(List.replicate (Int.toNat a0) 0), (List.replicate (Int.toNat a0) 0), 0, p3103.2, p3303.2, _, he, rfl, z3000x2, z3000x4, rfl, rfl, H3104, H3304, Mem.pick [3, 2, 0, 1, 4] rfl hm3722⟩ ?_ ?_
   ·
    rintro a w ⟨s3929, s3932, s3937, h3930, h3933, f, he, rfl, q3928, q3935, q3936, q3938, H3931, H3934, hm3964⟩
    rw [impl_NewPool_l1] at he; exact none_no he
   ·
    rintro k a w ⟨s3929, s3932, s3937, h3930, h3933, f, he, rfl, q3928, q3935, q3936, q3938, H3931, H3934, hm3966⟩
    rw [impl_NewPool_l1] at he
    refine wp_seq ?_
    refine wp_region_lit ?_
    refine s_val (v := (.bool (decide (s3937 < a0)))) (won rfl) rfl rfl (x_lss rfl (ev (t := 16) (v := (.int .i64 s3937)) rfl q3938) (ev (t := 15) (v := (.int .i64 a0)) rfl q3936)) ?_
    refine wpList_nil ?_
    refine nx ?_
    refine wp_seq ?_
    rcases Bool.eq_false_or_eq_true ((decide (s3937 < a0))) with hb3968 | hb3968
    ·
     replace he := bifT he hb3968
     refine c_true rfl (p := (decide (s3937 < a0))) rfl rfl hb3968 ?_
     refine wp_skip ?_
     refine nx ?_
     refine wp_seq ?_
     refine wp_block ?_
     refine wp_seq ?_
     refine wp_region_lit ?_
     refine s_val (v := (.int .i64 s3937)) (won rfl) rfl rfl (x_move rfl (ev (t := 16) (v := (.int .i64 s3937)) rfl q3938)) ?_
     refine s_val (v := (.int .i64 s3937)) (won rfl) rfl rfl (x_assign rfl (ev (t := 18) rfl rfl)) ?_
     refine wpList_nil ?_
     refine nx ?_
     obtain ⟨hg3981, he⟩ := gdE he
     obtain ⟨hg3986, he⟩ := gdE he
     refine wp_fit [(0, 1), (1, 1), (2, 1), (3, 0), (4, 0), (5, 0), (6, 1), (7, 1), (8, 2), (9, 1), (10, 2)] (fun w' => Mem w0 w' (cat [sg g1998 28 (0, 0) [] [(.slice none 0 0), (.slice none 0 0)] [], sg g3503 28 (0, 0) [] [p3103.1, p3303.1] [], hF])) mixed (by kernel_rfl) (Mem.drew (Mem.pick [0, 1, 4] rfl hm3966)) ?_
     have hm3980 := Mem.drew hm3966
     refine z_r (v := (.pointer (some ⟨g3503, 0, none⟩))) rfl (won rfl) rfl rfl ((x_field rfl fa_28x0 (ev (t := 4) (v := (.pointer (some ⟨g3503, 0, none⟩))) rfl q3935))) ?_
     refine z_r (v := p3103.1) rfl (won rfl) rfl rfl ((x_load rfl ty1x26 (ev (t := 19) rfl rfl) (seg_cell (o' := 0) (j := 0) hm3980 (k := 1) rfl rfl rfl))) ?_
     refine z_r (v := (.int .i64 s3937)) rfl (won rfl) rfl rfl ((x_move rfl (ev (t := 5) rfl rfl))) ?_
     refine z_q (v := (.pointer (some ⟨g3503, 1, none⟩))) rfl (won rfl) rfl rfl (fun wq hq => (x_field rfl fa_28x1 (ev (t := 4) (v := (.pointer (some ⟨g3503, 0, none⟩))) rfl q3935))) ?_
     refine z_q (v := p3303.1) rfl (won rfl) rfl rfl (fun wq hq => (x_load rfl ty1x26 (ev (t := 22) rfl rfl) (seg_cell (o' := 0) (j := 1) hq (k := 1) rfl rfl rfl))) ?_
     refine z_q (v := (.int .i64 s3937)) rfl (won rfl) rfl rfl (fun wq hq => (x_move rfl (ev (t := 5) rfl rfl))) ?_
     refine z_r (v := (.int .i64 s3937)) rfl (won rfl) rfl rfl ((x_move rfl (ev (t := 5) rfl rfl))) ?_
     refine z_r (v := (.pointer (some ((slA p3103.1).add (Int.toNat s3937 * 1))))) rfl (won rfl) rfl rfl ((x_index (d := (FK.int .i64)) rfl slt_26 (ev (t := 20) rfl rfl) (ev (t := 21) rfl rfl) (H3931.rd w0) hg3981.1 hg3981.2)) ?_
     refine z_exw rfl (won rfl) rfl (e_storeF (d := (FK.int .i64)) (s := s3937) (vs := [(.int .i64 s3937)]) (j := 0) rfl sz_3 (ev (t := 26) rfl rfl) (add_0 _).symm (ev (t := 25) rfl rfl) rfl rfl H3931 hg3981.1 hg3981.2 rfl rfl hm3980 (k := 2) rfl) ?_
     rintro h3982 w3984 ⟨H3983, hm3985⟩
     replace hm3985 : Mem w0 w3984 (cat [sg g1998 28 (0, 0) [] [(.slice none 0 0), (.slice none 0 0)] [], sg g3503 28 (0, 0) [] [p3103.1, p3303.1] [], h3982, h3933, hF]) := hm3985
     refine ⟨Mem.pick [0, 1, 4] rfl hm3985, ?_⟩
     refine z_r (v := (.pointer (some ((slA p3303.1).add (Int.toNat s3937 * 1))))) rfl (won rfl) rfl rfl ((x_index (d := (FK.int .i64)) rfl slt_26 (ev (t := 23) rfl rfl) (ev (t := 24) rfl rfl) (H3934.rd w0) hg3986.1 hg3986.2)) ?_
     refine z_exw rfl (won rfl) rfl (e_storeF (d := (FK.int .i64)) (s := (-1)) (vs := [(.int .i64 (-1))]) (j := 0) rfl sz_3 (ev (t := 27) rfl rfl) (add_0 _).symm rfl rfl rfl H3934 hg3986.1 hg3986.2 rfl rfl hm3985 (k := 3) rfl) ?_
     rintro h3987 w3989 ⟨H3988, hm3990⟩
     replace hm3990 : Mem w0 w3989 (cat [sg g1998 28 (0, 0) [] [(.slice none 0 0), (.slice none 0 0)] [], sg g3503 28 (0, 0) [] [p3103.1, p3303.1] [], h3982, h3987, hF]) := hm3990
     refine ⟨Mem.pick [0, 1, 4] rfl hm3990, ?_⟩
     refine z_nil ?_
     refine nb ?_
     refine nx ?_
     refine wp_region_lit ?_
     refine s_val (v := (.int .i64 (IntKind.wrap .i64 (s3937 + 1)))) (won rfl) rfl rfl (x_add rfl (ev (t := 16) (v := (.int .i64 s3937)) rfl q3938) rfl) ?_
     refine s_val (v := (.int .i64 (IntKind.wrap .i64 (s3937 + 1)))) (won rfl) rfl rfl (x_move rfl (ev (t := 28) rfl rfl)) ?_
     refine wpList_nil ?_
     refine nx ?_
     exact ⟨(List.set s3929 (Int.toNat s3937) s3937), (List.set s3932 (Int.toNat s3937) (-1)), (IntKind.wrap .i64 (s3937 + 1)), h3982, h3987, _, he, rfl, q3928, q3935, q3936, rfl, H3983, H3988, Mem.pick [0, 1, 2, 3, 4] rfl hm3990⟩
    ·
     replace he := bifF he hb3968
     refine c_false rfl (p := (decide (s3937 < a0))) rfl rfl hb3968 ?_
     refine wp_exit ?_
     refine xs ?_
     refine xs ?_
     refine xb ?_
     refine nx ?_
     obtain rfl := Option.some.inj he
     exact ⟨h3930, h3933, _, rfl, q3928, q3935, H3931, H3934, Mem.pick [0, 1, 2, 3, 4] rfl hm3966⟩
  ·
   rintro a w ⟨h3858, h3861, f, rfl, q3856, q3863, H3859, H3862, hm3992⟩
   replace he := hk3865
   refine wp_seq ?_
   refine wp_region_lit ?_
   refine s_val (v := (.agg #[p3103.1, p3303.1])) (won rfl) rfl rfl (x_loadN (vs := [p3103.1, p3303.1]) rfl tyN_28 (ev (t := 4) (v := (.pointer (some ⟨g3503, 0, none⟩))) rfl q3863) (seg_cells (o' := 0) (j := 0) hm3992 (k := 1) rfl rfl rfl)) ?_
   refine s_exs (won rfl) rfl (e_store (vs := [p3103.1, p3303.1]) (o' := 0) (j := 0) rfl sz_28 (ev (t := 2) (v := (.pointer (some ⟨g1998, 0, none⟩))) rfl q3856) (ev (t := 29) rfl rfl) rfl (one_cons (IsSl.one (H3859).sl) (one_cons (IsSl.one (H3862).sl) one_nil)) hm3992 (k := 0) rfl rfl rfl) ?_
   intro w3993 hm3994
   replace hm3994 : Mem w0 w3993 (cat [sg g1998 28 (0, 0) [] [p3103.1, p3303.1] [], sg g3503 28 (0, 0) [] [p3103.1, p3303.1] [], h3858, h3861, hF]) := hm3994
   refine s_val (v := (.int .i64 0)) (won rfl) rfl rfl (x_assign rfl rfl) ?_
   refine wpList_nil ?_
   have hm3995 : Mem w0 w3993 (cat [sg g1998 28 (0, 0) [] [p3103.1, p3303.1] [], h3858, h3861, hF]) := Mem.pick [0, 2, 3, 4] rfl hm3994
   refine nx ?_
   refine wp_ret ?_
   obtain rfl := Option.some.inj he
   refine r_ret (v := (.tuple #[(.agg #[p3103.1, p3303.1]), (.int .i64 0)])) (rv_list rfl rfl (RVs.cell (cs := [p3103.1, p3303.1]) rfl q3856 tyN_28 (seg_cells (o' := 0) (j := 0) hm3995 (k := 0) rfl rfl rfl) (RVs.tmp (v := (.int .i64 0)) rfl rfl RVs.nil))) rfl ?_
   exact ⟨p3103.1, h3858, p3303.1, h3861, rfl, H3859, H3862, Mem.pick [1, 2, 3] rfl hm3995⟩
def impl_isOwner (a0 : Int) : Option (Bool) := (impl_inRange a0 0 5).bind fun r4 => (some r4)
set_option maxHeartbeats 400000 in
set_option maxRecDepth 100000 in
theorem impl_isOwner_ok {w0 w : World} {hR hF : Hp} (a0 : Int) {r : (Bool)} (hm : Mem w0 w (cat [hF])) (he : impl_isOwner a0 = some r) :
    Calls Try.prog 64 #[(.int .i64 a0)] w (fun e w' => e = .returned (.bool r) ∧ Mem w0 w' (cat [hF])) := by
 refine calls_fr (n := 5) Try.func64 rfl rfl rfl ?_
 unfold impl_isOwner at he
 refine wp_seq ?_
 refine wp_region_lit ?_
 refine s_val (v := (.bool false)) (won rfl) rfl rfl (x_assign rfl rfl) ?_
 refine wpList_nil ?_
 refine nx ?_
 refine wp_seq ?_
 obtain ⟨r4, hr4, he⟩ := bindE he
 refine wp_region_lit ?_
 refine s_val (v := (.int .i64 a0)) (won rfl) rfl rfl (x_move rfl (ev (t := 0) rfl rfl)) ?_
 refine s_call (won rfl) rfl rfl (x_call rfl rfl cl_58 (map_lit (map_cons (ev (t := 3) rfl rfl) (map_cons rfl (map_cons rfl map_nil))))) (impl_inRange_ok (hR := (cat [])) (hF := cat [hF]) a0 0 5  (Mem.one hm) hr4) ?_
 rintro e w5 ⟨rfl, hm6⟩
 refine ⟨_, rfl, ?_⟩
 replace hm6 : Mem w0 w5 (cat [hF]) := Mem.un hm6
 refine s_val (v := (.bool r4)) (won rfl) rfl rfl (x_assign rfl (ev (t := 4) rfl rfl)) ?_
 refine wpList_nil ?_
 refine nx ?_
 refine wp_ret ?_
 obtain rfl := Option.some.inj he
 refine r_ret (v := (.bool r4)) (rv_one rfl (RVs.tmp (v := (.bool r4)) rfl rfl RVs.nil)) rfl ?_
 exact ⟨rfl, Mem.pick [0] rfl hm6⟩
def slices_Delete___int_int_ (a0 : (List Int)) (a1 : Int) (a2 : Int) : Option ((List Int)) := gd ((0 : Int) ≤ a1 ∧ a1 ≤ a2 ∧ a2 ≤ (a0.length : Int) ∧ (a0.length : Int) ≤ (a0.length : Int)) ((bif (decide (a1 = a2)) then (some a0) else gd ((0 : Int) ≤ a1 ∧ a1 ≤ (a0.length : Int)) (gd ((0 : Int) ≤ a2 ∧ a2 ≤ (a0.length : Int)) (gd ((slc a0 0 (Int.toNat a1)).length + (slc a0 (Int.toNat a2) a0.length).length ≤ a0.length) (gd ((0 : Int) ≤ (((slc a0 0 (Int.toNat a1)) ++ (slc a0 (Int.toNat a2) a0.length)).length : Int) ∧ (((slc a0 0 (Int.toNat a1)) ++ (slc a0 (Int.toNat a2) a0.length)).length : Int) ≤ (a0.length : Int) ∧ (a0.length : Int) ≤ (a0.length : Int)) ((some ((slc a0 0 (Int.toNat a1)) ++ (slc a0 (Int.toNat a2) a0.length)))))))))
set_option maxHeartbeats 400000 in
set_option maxRecDepth 100000 in
theorem slices_Delete___int_int__ok {w0 w : World} {hR hF : Hp} {v0x0 : Value} {h0x0 : Hp} (a0 : (List Int)) (a1 : Int) (a2 : Int) {r : ((List Int))} (H0x0 : OwF 3 (FK.int .i64) v0x0 a0 h0x0) (hm : Mem w0 w (cat [h0x0, hF])) (he : slices_Delete___int_int_ a0 a1 a2 = some r) :
    Calls Try.prog 95 #[v0x0, (.int .i64 a1), (.int .i64 a2)] w (fun e w' => ∃ (v'0 : Value) (h'0 : Hp), e = .returned v'0 ∧ OwF 3 (FK.int .i64) v'0 r h'0 ∧ Mem w0 w' (cat [h'0, hF])) := by
 refine calls_fr (n := 33) Try.func95 rfl rfl rfl ?_
 unfold slices_Delete___int_int_ at he
 refine wp_seq ?_
 refine wp_region_lit ?_
 refine s_val (v := (.slice none 0 0)) (won rfl) rfl rfl (x_assign rfl rfl) ?_
 refine wpList_nil ?_
 refine nx ?_
 refine wp_seq ?_
 obtain ⟨hg34, he⟩ := gdE he
 refine wp_region_lit ?_
 refine s_val (v := v0x0) (won rfl) rfl rfl (x_move rfl (ev (t := 0) rfl rfl)) ?_
 refine s_val (v := (.int .i64 a1)) (won rfl) rfl rfl (x_move rfl (ev (t := 1) rfl rfl)) ?_
 refine s_val (v := (.int .i64 a2)) (won rfl) rfl rfl (x_move rfl (ev (t := 2) rfl rfl)) ?_
 refine s_val (v := v0x0) (won rfl) rfl rfl (x_move rfl (ev (t := 0) rfl rfl)) ?_
 refine s_val (v := (.int .i64 (a0.length : Int))) (won rfl) rfl rfl (x_len rfl slt_26 (ev (t := 11) rfl rfl) (H0x0).sl) ?_
 refine s_exv (val := fun u => u) (won rfl) rfl rfl (x_slice3 rfl slt_26 (ev (t := 8) rfl rfl) (ev (t := 9) rfl rfl) (ev (t := 10) rfl rfl) (ev (t := 12) rfl rfl) (H0x0).sl hg34.1 hg34.2.1 hg34.2.2.1 hg34.2.2.2) ?_
 rintro u35 _ rfl
 refine wpList_nil ?_
 refine nx ?_
 refine wp_seq ?_
 refine wp_seq ?_
 refine wp_region_lit ?_
 refine s_val (v := (.int .i64 a1)) (won rfl) rfl rfl (x_move rfl (ev (t := 1) rfl rfl)) ?_
 refine s_val (v := (.int .i64 a2)) (won rfl) rfl rfl (x_move rfl (ev (t := 2) rfl rfl)) ?_
 refine s_val (v := (.bool (decide (a1 = a2)))) (won rfl) rfl rfl (x_eql rfl (ev (t := 14) rfl rfl) (ev (t := 15) rfl rfl)) ?_
 refine wpList_nil ?_
 refine nx ?_
 rcases Bool.eq_false_or_eq_true ((decide (a1 = a2))) with hb37 | hb37
 ·
  replace he := bifT he hb37
  refine c_true rfl (p := (decide (a1 = a2))) rfl rfl hb37 ?_
  refine wp_seq ?_
  refine wp_region_lit ?_
  refine s_val (v := v0x0) (won rfl) rfl rfl (x_move rfl (ev (t := 0) rfl rfl)) ?_
  refine s_val (v := v0x0) (won rfl) rfl rfl (x_assign rfl (ev (t := 17) rfl rfl)) ?_
  refine wpList_nil ?_
  refine nx ?_
  refine wp_ret ?_
  refine xr ?_
  obtain rfl := Option.some.inj he
  refine r_ret (v := v0x0) (rv_one rfl (RVs.tmp (v := v0x0) rfl rfl RVs.nil)) rfl ?_
  exact ⟨v0x0, h0x0, rfl, H0x0, Mem.pick [0, 1] rfl hm⟩
 ·
  replace he := bifF he hb37
  refine c_false rfl (p := (decide (a1 = a2))) rfl rfl hb37 ?_
  refine wp_skip ?_
  refine nx ?_
  refine wp_seq ?_
  refine wp_region_lit ?_
  refine s_val (v := v0x0) (won rfl) rfl rfl (x_move rfl (ev (t := 0) rfl rfl)) ?_
  refine s_val (v := (.int .i64 (a0.length : Int))) (won rfl) rfl rfl (x_len rfl slt_26 (ev (t := 18) rfl rfl) (H0x0).sl) ?_
  refine s_val (v := (.int .i64 (a0.length : Int))) (won rfl) rfl rfl (x_assign rfl (ev (t := 19) rfl rfl)) ?_
  refine wpList_nil ?_
  refine nx ?_
  refine wp_seq ?_
  obtain ⟨hg39, he⟩ := gdE he
  obtain ⟨hg41, he⟩ := gdE he
  obtain ⟨hg43, he⟩ := gdE he
  refine wp_fit [(0, 1), (1, 1), (2, 1), (3, 1), (4, 1), (5, 1), (6, 2), (7, 1)] (fun w' => Mem w0 w' (cat [hF])) mixed (by kernel_rfl) (Mem.drew (Mem.pick [1] rfl hm)) ?_
  have hm38 := Mem.drew hm
  refine z_r (v := v0x0) rfl (won rfl) rfl rfl ((x_move rfl (ev (t := 0) rfl rfl))) ?_
  refine z_r (v := (.int .i64 a1)) rfl (won rfl) rfl rfl ((x_move rfl (ev (t := 1) rfl rfl))) ?_
  refine z_r (v := (cutV v0x0 0 (Int.toNat a1) 1)) rfl (won rfl) rfl rfl ((y_slice_h rfl slt_26 (ev (t := 20) rfl rfl) (ev (t := 21) rfl rfl) (H0x0).sl hg39.1 hg39.2)) ?_
  refine z_r (v := v0x0) rfl (won rfl) rfl rfl ((x_move rfl (ev (t := 0) rfl rfl))) ?_
  refine z_r (v := (.int .i64 a2)) rfl (won rfl) rfl rfl ((x_move rfl (ev (t := 2) rfl rfl))) ?_
  refine z_r (v := (cutV v0x0 (Int.toNat a2) a0.length 1)) rfl (won rfl) rfl rfl ((y_slice_l rfl slt_26 (ev (t := 23) rfl rfl) (ev (t := 24) rfl rfl) (H0x0).sl hg41.1 hg41.2)) ?_
  refine z_exv rfl (won rfl) rfl rfl (e_append_room rfl slt_26 (ev (t := 22) rfl rfl) (ev (t := 25) rfl rfl) (OwR.cut0 (b := (Int.toNat a1)) (OwF.room H0x0) (by have := hg39; omega)) (k := 0) rfl (cutV_rd (a := (Int.toNat a2)) (b := a0.length) (H0x0.rd w0) (by have := hg41; omega) (Nat.le_refl _)) (Sub.at_ (k := 0) rfl) hm38 hg43) ?_
  rintro p46 w48 ⟨H47, hm49⟩
  replace hm49 : Mem w0 w48 (cat [p46.2, hF]) := hm49
  have H44 := H47.own
  refine ⟨Mem.pick [1] rfl hm49, ?_⟩
  refine z_r (v := p46.1) rfl (won rfl) rfl rfl ((x_assign rfl (ev (t := 26) rfl rfl))) ?_
  refine z_nil ?_
  refine nx ?_
  refine wp_seq ?_
  obtain ⟨hg50, he⟩ := gdE he
  refine wp_region_lit ?_
  refine s_val (v := p46.1) (won rfl) rfl rfl (x_move rfl (ev (t := 0) rfl rfl)) ?_
  refine s_val (v := p46.1) (won rfl) rfl rfl (x_move rfl (ev (t := 0) rfl rfl)) ?_
  refine s_val (v := (.int .i64 (((slc a0 0 (Int.toNat a1)) ++ (slc a0 (Int.toNat a2) a0.length)).length : Int))) (won rfl) rfl rfl (x_len rfl slt_26 (ev (t := 28) rfl rfl) (H44).sl) ?_
  refine s_val (v := (.int .i64 (a0.length : Int))) (won rfl) rfl rfl (x_move rfl (ev (t := 7) rfl rfl)) ?_
  refine s_val (v := (cutV p46.1 (Int.toNat (((slc a0 0 (Int.toNat a1)) ++ (slc a0 (Int.toNat a2) a0.length)).length : Int)) (Int.toNat (a0.length : Int)) 1)) (won rfl) rfl rfl (x_slice_spare rfl slt_26 (ev (t := 27) rfl rfl) (ev (t := 29) rfl rfl) (ev (t := 30) rfl rfl) H47 hg50.1 hg50.2.1 hg50.2.2) ?_
  refine s_vw (won rfl) rfl (e_clear_spare (d := (FK.int .i64)) (zc := [.int .i64 0]) (a := (Int.toNat (((slc a0 0 (Int.toNat a1)) ++ (slc a0 (Int.toNat a2) a0.length)).length : Int))) (b := (Int.toNat (a0.length : Int))) rfl rfl slt_26 rfl rfl rfl (ev (t := 31) rfl rfl) H47 (Int.toNat_natCast _) (by have := hg50; omega) (by have := hg50; omega) (k := 0) rfl hm49) ?_
  rintro h51 w54 ⟨H52, hm55⟩
  have H53 := H52.own
  replace hm55 : Mem w0 w54 (cat [h51, hF]) := hm55
  refine wpList_nil ?_
  refine nx ?_
  refine wp_seq ?_
  refine wp_region_lit ?_
  refine s_val (v := p46.1) (won rfl) rfl rfl (x_move rfl (ev (t := 0) rfl rfl)) ?_
  refine s_val (v := p46.1) (won rfl) rfl rfl (x_assign rfl (ev (t := 32) rfl rfl)) ?_
  refine wpList_nil ?_
  refine nx ?_
  refine wp_ret ?_
  obtain rfl := Option.some.inj he
  refine r_ret (v := p46.1) (rv_one rfl (RVs.tmp (v := p46.1) rfl rfl RVs.nil)) rfl ?_
  exact ⟨p46.1, h51, rfl, H53, Mem.pick [0, 1] rfl hm55⟩
def impl_Pool_take (a0 : impl_Pool) (a1 : Int) : Option (impl_PoolReply × impl_Pool) := (bif (decide ((a0.Free.length : Int) = 0)) then (some ((impl_PoolReply.mk 7 0), a0)) else gd ((0 : Int) ≤ 0 ∧ 0 < (a0.Free.length : Int)) ((slices_Delete___int_int_ a0.Free 0 1).bind fun r71 => gd ((0 : Int) ≤ (ix a0.Free 0) ∧ (ix a0.Free 0) < (a0.Owner.length : Int)) ((some ((impl_PoolReply.mk 0 (ix a0.Free 0)), (impl_Pool.mk r71 (List.set a0.Owner (Int.toNat (ix a0.Free 0)) a1)))))))
set_option maxHeartbeats 400000 in
set_option maxRecDepth 100000 in
theorem impl_Pool_take_ok {w0 w : World} {hR hF : Hp} {v0x0 : Value} {h0x0 : Hp} {v0x1 : Value} {h0x1 : Hp} {g0 T0 o0 : Nat} {fr0 : Nat × Nat} {pre0 post0 : List Value} (a0 : impl_Pool) (a1 : Int) {r : (impl_PoolReply × impl_Pool)} (H0x0 : OwF 3 (FK.int .i64) v0x0 a0.Free h0x0) (H0x1 : OwF 3 (FK.int .i64) v0x1 a0.Owner h0x1) (hp0 : pre0.length = o0) (hm : Mem w0 w (cat [sg g0 T0 fr0 pre0 [v0x0, v0x1] post0, h0x0, h0x1, hF])) (he : impl_Pool_take a0 a1 = some r) :
    Calls Try.prog 85 #[(.pointer (some ⟨g0, o0, none⟩)), (.int .i64 a1)] w (fun e w' => ∃ (v'0 : Value) (h'0 : Hp) (v'1 : Value) (h'1 : Hp), e = .returned (.agg #[(.int .i64 r.1.Code), (.int .i64 r.1.Buffer)]) ∧ OwF 3 (FK.int .i64) v'0 r.2.Free h'0 ∧ OwF 3 (FK.int .i64) v'1 r.2.Owner h'1 ∧ Mem w0 w' (cat [sg g0 T0 fr0 pre0 [v'0, v'1] post0, h'0, h'1, hF])) := by
 refine calls_fr (n := 36) Try.func85 rfl rfl rfl ?_
 unfold impl_Pool_take at he
 refine wp_seq ?_
 refine wp_region_lit ?_
 refine s_exv (won rfl) rfl rfl (e_alloc (vs := [(.int .i64 0), (.int .i64 0)]) rfl zt_35 rfl hm) ?_
 rintro g60 w61 hm62
 refine wpList_nil ?_
 refine nx ?_
 refine wp_seq ?_
 refine wp_seq ?_
 refine wp_region_lit ?_
 refine s_val (v := (.pointer (some ⟨g0, o0, none⟩))) (won rfl) rfl rfl (x_move rfl (ev (t := 0) rfl rfl)) ?_
 refine s_val (v := (.pointer (some ⟨g0, o0, none⟩))) (won rfl) rfl rfl (x_nil rfl (ev (t := 6) rfl rfl)) ?_
 refine s_val (v := (.pointer (some ⟨g0, o0, none⟩))) (won rfl) rfl rfl (x_field rfl fa_28x0 (ev (t := 7) rfl rfl)) ?_
 refine s_val (v := v0x0) (won rfl) rfl rfl (x_load rfl ty1x26 (ev (t := 8) rfl rfl) (seg_cell (o' := o0) (j := 0) hm62 (k := 1) rfl hp0 rfl)) ?_
 refine s_val (v := (.int .i64 (a0.Free.length : Int))) (won rfl) rfl rfl (x_len rfl slt_26 (ev (t := 9) rfl rfl) (H0x0).sl) ?_
 refine s_val (v := (.bool (decide ((a0.Free.length : Int) = 0)))) (won rfl) rfl rfl (x_eql rfl (ev (t := 10) rfl rfl) rfl) ?_
 refine wpList_nil ?_
 refine nx ?_
 rcases Bool.eq_false_or_eq_true ((decide ((a0.Free.length : Int) = 0))) with hb67 | hb67
 ·
  replace he := bifT he hb67
  refine c_true rfl (p := (decide ((a0.Free.length : Int) = 0))) rfl rfl hb67 ?_
  refine wp_seq ?_
  refine wp_region_lit ?_
  refine s_val (v := (.agg #[(.int .i64 7), (.int .i64 0)])) (won rfl) rfl rfl (x_build (cells := [(.int .i64 7), (.int .i64 0)]) (zc := [.int .i64 0, .int .i64 0]) (sizes := [(0, 1), (1, 1)]) (ps := [(0, (.int .i64 7))]) rfl zt_35 rfl uf_35 ufz_35 (pmap_lit (pmap_cons rfl pmap_nil)) (fill_cons (cs := [(.int .i64 7)]) rfl rfl rfl fill_nil)) ?_
  refine s_exs (won rfl) rfl (e_store (vs := [(.int .i64 7), (.int .i64 0)]) (o' := 0) (j := 0) rfl sz_35 (ev (t := 4) rfl rfl) (ev (t := 12) rfl rfl) rfl rfl hm62 (k := 0) rfl rfl rfl) ?_
  intro w68 hm69
  replace hm69 : Mem w0 w68 (cat [sg g60 35 (0, 0) [] [(.int .i64 7), (.int .i64 0)] [], sg g0 T0 fr0 pre0 [v0x0, v0x1] post0, h0x0, h0x1, hF]) := hm69
  refine wpList_nil ?_
  refine nx ?_
  refine wp_ret ?_
  refine xr ?_
  obtain rfl := Option.some.inj he
  refine r_ret (v := (.agg #[(.int .i64 7), (.int .i64 0)])) (rv_one rfl (RVs.cell (cs := [(.int .i64 7), (.int .i64 0)]) rfl rfl tyN_35 (seg_cells (o' := 0) (j := 0) hm69 (k := 0) rfl rfl rfl) RVs.nil)) rfl ?_
  exact ⟨v0x0, h0x0, v0x1, h0x1, rfl, H0x0, H0x1, Mem.pick [1, 2, 3, 4] rfl hm69⟩
 ·
  replace he := bifF he hb67
  refine c_false rfl (p := (decide ((a0.Free.length : Int) = 0))) rfl rfl hb67 ?_
  refine wp_skip ?_
  refine nx ?_
  refine wp_seq ?_
  obtain ⟨hg70, he⟩ := gdE he
  refine wp_region_lit ?_
  refine s_val (v := (.pointer (some ⟨g0, o0, none⟩))) (won rfl) rfl rfl (x_move rfl (ev (t := 0) rfl rfl)) ?_
  refine s_val (v := (.pointer (some ⟨g0, o0, none⟩))) (won rfl) rfl rfl (x_nil rfl (ev (t := 13) rfl rfl)) ?_
  refine s_val (v := (.pointer (some ⟨g0, o0, none⟩))) (won rfl) rfl rfl (x_field rfl fa_28x0 (ev (t := 14) rfl rfl)) ?_
  refine s_val (v := v0x0) (won rfl) rfl rfl (x_load rfl ty1x26 (ev (t := 15) rfl rfl) (seg_cell (o' := o0) (j := 0) hm62 (k := 1) rfl hp0 rfl)) ?_
  refine s_val (v := (.pointer (some ((slA v0x0).add (Int.toNat 0 * 1))))) (won rfl) rfl rfl (x_index (d := (FK.int .i64)) rfl slt_26 (ev (t := 16) rfl rfl) rfl (H0x0.rd w0) hg70.1 hg70.2) ?_
  refine s_val (v := (.int .i64 (ix a0.Free 0))) (won rfl) rfl rfl (x_load rfl ty1x3 (ev (t := 17) rfl rfl) (RdF.cell0 (H0x0.rd w0) hm62 (Sub.at_ (k := 2) rfl) hg70.1 hg70.2 rfl)) ?_
  refine s_val (v := (.int .i64 (ix a0.Free 0))) (won rfl) rfl rfl (x_assign rfl (ev (t := 18) rfl rfl)) ?_
  refine wpList_nil ?_
  refine nx ?_
  refine wp_seq ?_
  obtain ⟨r71, hr71, he⟩ := bindE he
  refine wp_region_lit ?_
  refine s_val (v := (.pointer (some ⟨g0, o0, none⟩))) (won rfl) rfl rfl (x_move rfl (ev (t := 0) rfl rfl)) ?_
  refine s_val (v := (.pointer (some ⟨g0, o0, none⟩))) (won rfl) rfl rfl (x_move rfl (ev (t := 0) rfl rfl)) ?_
  refine s_val (v := (.pointer (some ⟨g0, o0, none⟩))) (won rfl) rfl rfl (x_nil rfl (ev (t := 20) rfl rfl)) ?_
  refine s_val (v := (.pointer (some ⟨g0, o0, none⟩))) (won rfl) rfl rfl (x_field rfl fa_28x0 (ev (t := 21) rfl rfl)) ?_
  refine s_val (v := v0x0) (won rfl) rfl rfl (x_load rfl ty1x26 (ev (t := 22) rfl rfl) (seg_cell (o' := o0) (j := 0) hm62 (k := 1) rfl hp0 rfl)) ?_
  refine s_call (won rfl) rfl rfl (x_call rfl rfl cl_95 (map_lit (map_cons (ev (t := 23) rfl rfl) (map_cons rfl (map_cons rfl map_nil))))) (slices_Delete___int_int__ok (hR := (cat [])) (hF := cat [sg g60 35 (0, 0) [] [(.int .i64 0), (.int .i64 0)] [], sg g0 T0 fr0 pre0 [v0x0, v0x1] post0, h0x1, hF]) a0.Free 0 1 H0x0 (Mem.grp [h0x0] [sg g60 35 (0, 0) [] [(.int .i64 0), (.int .i64 0)] [], sg g0 T0 fr0 pre0 [v0x0, v0x1] post0, h0x1, hF] (Mem.pick [2, 0, 1, 3, 4] rfl hm62)) hr71) ?_
  rintro e w76 ⟨v73, h75, rfl, H74, hm77⟩
  refine ⟨_, rfl, ?_⟩
  replace hm77 : Mem w0 w76 (cat [h75, sg g60 35 (0, 0) [] [(.int .i64 0), (.int .i64 0)] [], sg g0 T0 fr0 pre0 [v0x0, v0x1] post0, h0x1, hF]) := Mem.ung [h75] [sg g60 35 (0, 0) [] [(.int .i64 0), (.int .i64 0)] [], sg g0 T0 fr0 pre0 [v0x0, v0x1] post0, h0x1, hF] hm77
  refine s_val (v := (.pointer (some ⟨g0, o0, none⟩))) (won rfl) rfl rfl (x_nil rfl (ev (t := 19) rfl rfl)) ?_
  refine s_val (v := (.pointer (some ⟨g0, o0, none⟩))) (won rfl) rfl rfl (x_field rfl fa_28x0 (ev (t := 25) rfl rfl)) ?_
  refine s_exs (won rfl) rfl (e_store (vs := [v73]) (o' := o0) (j := 0) rfl sz_26 (ev (t := 26) rfl rfl) (ev (t := 24) rfl rfl) (IsSl.cells (H74).sl) (one_cons (IsSl.one (H74).sl) one_nil) hm77 (k := 2) rfl hp0 rfl) ?_
  intro w78 hm79
  replace hm79 : Mem w0 w78 (cat [h75, sg g60 35 (0, 0) [] [(.int .i64 0), (.int .i64 0)] [], sg g0 T0 fr0 pre0 [v73, v0x1] post0, h0x1, hF]) := hm79
  refine wpList_nil ?_
  refine nx ?_
  refine wp_seq ?_
  obtain ⟨hg80, he⟩ := gdE he
  refine wp_region_lit ?_
  refine s_val (v := (.pointer (some ⟨g0, o0, none⟩))) (won rfl) rfl rfl (x_move rfl (ev (t := 0) rfl rfl)) ?_
  refine s_val (v := (.pointer (some ⟨g0, o0, none⟩))) (won rfl) rfl rfl (x_nil rfl (ev (t := 27) rfl rfl)) ?_
  refine s_val (v := (.pointer (some ⟨g0, o0 + 1, none⟩))) (won rfl) rfl rfl (x_field rfl fa_28x1 (ev (t := 28) rfl rfl)) ?_
  refine s_val (v := v0x1) (won rfl) rfl rfl (x_load rfl ty1x26 (ev (t := 29) rfl rfl) (seg_cell (o' := o0) (j := 1) hm79 (k := 2) rfl hp0 rfl)) ?_
  refine s_val (v := (.int .i64 (ix a0.Free 0))) (won rfl) rfl rfl (x_move rfl (ev (t := 5) rfl rfl)) ?_
  refine s_val (v := (.int .i64 a1)) (won rfl) rfl rfl (x_move rfl (ev (t := 1) rfl rfl)) ?_
  refine s_val (v := (.pointer (some ((slA v0x1).add (Int.toNat (ix a0.Free 0) * 1))))) (won rfl) rfl rfl (x_index (d := (FK.int .i64)) rfl slt_26 (ev (t := 30) rfl rfl) (ev (t := 31) rfl rfl) (H0x1.rd w0) hg80.1 hg80.2) ?_
  refine s_exw (won rfl) rfl (e_storeF (d := (FK.int .i64)) (s := a1) (vs := [(.int .i64 a1)]) (j := 0) rfl sz_3 (ev (t := 33) rfl rfl) (add_0 _).symm (ev (t := 32) rfl rfl) rfl rfl H0x1 hg80.1 hg80.2 rfl rfl hm79 (k := 3) rfl) ?_
  rintro h81 w83 ⟨H82, hm84⟩
  replace hm84 : Mem w0 w83 (cat [h75, sg g60 35 (0, 0) [] [(.int .i64 0), (.int .i64 0)] [], sg g0 T0 fr0 pre0 [v73, v0x1] post0, h81, hF]) := hm84
  refine wpList_nil ?_
  refine nx ?_
  refine wp_seq ?_
  refine wp_region_lit ?_
  refine s_val (v := (.int .i64 (ix a0.Free 0))) (won rfl) rfl rfl (x_move rfl (ev (t := 5) rfl rfl)) ?_
  refine s_val (v := (.agg #[(.int .i64 0), (.int .i64 (ix a0.Free 0))])) (won rfl) rfl rfl (x_build (cells := [(.int .i64 0), (.int .i64 (ix a0.Free 0))]) (zc := [.int .i64 0, .int .i64 0]) (sizes := [(0, 1), (1, 1)]) (ps := [(1, (.int .i64 (ix a0.Free 0)))]) rfl zt_35 rfl uf_35 ufz_35 (pmap_lit (pmap_cons (ev (t := 34) rfl rfl) pmap_nil)) (fill_cons (cs := [(.int .i64 (ix a0.Free 0))]) rfl rfl rfl fill_nil)) ?_
  refine s_exs (won rfl) rfl (e_store (vs := [(.int .i64 0), (.int .i64 (ix a0.Free 0))]) (o' := 0) (j := 0) rfl sz_35 (ev (t := 4) rfl rfl) (ev (t := 35) rfl rfl) rfl rfl hm84 (k := 1) rfl rfl rfl) ?_
  intro w85 hm86
  replace hm86 : Mem w0 w85 (cat [h75, sg g60 35 (0, 0) [] [(.int .i64 0), (.int .i64 (ix a0.Free 0))] [], sg g0 T0 fr0 pre0 [v73, v0x1] post0, h81, hF]) := hm86
  refine wpList_nil ?_
  refine nx ?_
  refine wp_ret ?_
  obtain rfl := Option.some.inj he
  refine r_ret (v := (.agg #[(.int .i64 0), (.int .i64 (ix a0.Free 0))])) (rv_one rfl (RVs.cell (cs := [(.int .i64 0), (.int .i64 (ix a0.Free 0))]) rfl rfl tyN_35 (seg_cells (o' := 0) (j := 0) hm86 (k := 1) rfl rfl rfl) RVs.nil)) rfl ?_
  exact ⟨v73, h75, v0x1, h81, rfl, H74, H82, Mem.pick [2, 0, 3, 4] rfl hm86⟩
def impl_Pool_held_l1 (F : Nat) (a0 : impl_Pool) (a1 : Int) : Nat → (List Int) → Int → Option ((List Int))
  | 0, _, _ => none
  | k + 1, s756, s763 => (bif (decide (s763 < (a0.Owner.length : Int))) then (gd ((0 : Int) ≤ s763 ∧ s763 < (a0.Owner.length : Int)) ((bif (decide ((ix a0.Owner s763) = a1)) then gd ((s756.length + ([s763] : List Int).length) * 8 ≤ 140737488355328) ((some (s756 ++ ([s763] : List Int)))) else (some s756))) : Option ((List Int))).bind fun (s840 : ((List Int))) => impl_Pool_held_l1 F a0 a1 k s840 (IntKind.wrap .i64 (s763 + 1)) else (some s756))
def impl_Pool_held (F : Nat) (a0 : impl_Pool) (a1 : Int) : Option ((List Int)) := (impl_Pool_held_l1 F a0 a1 F ([] : List Int) 0 : Option ((List Int))).bind fun (s649 : ((List Int))) => (some s649)
set_option maxHeartbeats 400000 in
set_option maxRecDepth 100000 in
theorem impl_Pool_held_ok (F : Nat) {w0 w : World} {hR hF : Hp} {v0x0 : Value} {v0x1 : Value} {g0 T0 o0 : Nat} {fr0 : Nat × Nat} {pre0 post0 : List Value} (a0 : impl_Pool) (a1 : Int) {r : ((List Int))} (H0x0 : RdF w0 (FK.int .i64) v0x0 a0.Free hR) (H0x1 : RdF w0 (FK.int .i64) v0x1 a0.Owner hR) (hs : Sub hR hF) (hp0 : pre0.length = o0) (hm : Mem w0 w (cat [sg g0 T0 fr0 pre0 [v0x0, v0x1] post0, hF])) (he : impl_Pool_held F a0 a1 = some r) :
    Calls Try.prog 65 #[(.pointer (some ⟨g0, o0, none⟩)), (.int .i64 a1)] w (fun e w' => ∃ (v'0 : Value) (h'0 : Hp), e = .returned v'0 ∧ OwF 3 (FK.int .i64) v'0 r h'0 ∧ Mem w0 w' (cat [sg g0 T0 fr0 pre0 [v0x0, v0x1] post0, h'0, hF])) := by
 refine calls_fr (n := 28) Try.func65 rfl rfl rfl ?_
 unfold impl_Pool_held at he
 refine wp_seq ?_
 refine wp_region_lit ?_
 refine s_val (v := (.slice none 0 0)) (won rfl) rfl rfl (x_assign rfl rfl) ?_
 refine wpList_nil ?_
 refine nx ?_
 refine wp_seq ?_
 refine wp_region_lit ?_
 refine s_exv (won rfl) rfl rfl (e_litp (cells := []) (ps := []) rfl slt_26 (pmap_lit pmap_nil) (fun w1 => run_bslice0 slt_26) hm) ?_
 rintro g434 w432 hm433
 have H435 : OwF 3 (FK.int .i64) (.slice (some ⟨g434, 0, none⟩) 0 0) ([] : List Int) (sg g434 3 (0, 0) [] (encs (FK.int .i64) ([] : List Int)) []) := OwF.lit g434 ([] : List Int) 0 rfl (by decide)
 replace hm433 : Mem w0 w432 (cat [(sg g434 3 (0, 0) [] (encs (FK.int .i64) ([] : List Int)) []), sg g0 T0 fr0 pre0 [v0x0, v0x1] post0, hF]) := hm433
 refine s_val (v := (.slice (some ⟨g434, 0, none⟩) 0 0)) (won rfl) rfl rfl (x_assign rfl (ev (t := 8) rfl rfl)) ?_
 refine wpList_nil ?_
 refine nx ?_
 obtain ⟨s649, hT651, hk650⟩ := bindE he
 replace he := hT651
 refine wp_seqJ (fun a w => ∃ (v645 : Value) (h646 : Hp) (f : Nat → Value), a = fr 28 f ∧ f 5 = v645 ∧ OwF 3 (FK.int .i64) v645 s649 h646 ∧ Mem w0 w (cat [sg g0 T0 fr0 pre0 [v0x0, v0x1] post0, h646, hF])) ?_ ?_
 ·
  refine wp_seq ?_
  refine wp_region_lit ?_
  refine s_val (v := (.pointer (some ⟨g0, o0, none⟩))) (won rfl) rfl rfl (x_move rfl (ev (t := 0) rfl rfl)) ?_
  refine s_val (v := (.pointer (some ⟨g0, o0, none⟩))) (won rfl) rfl rfl (x_nil rfl (ev (t := 9) rfl rfl)) ?_
  refine s_val (v := (.pointer (some ⟨g0, o0 + 1, none⟩))) (won rfl) rfl rfl (x_field rfl fa_28x1 (ev (t := 10) rfl rfl)) ?_
  refine s_val (v := v0x1) (won rfl) rfl rfl (x_load rfl ty1x26 (ev (t := 11) rfl rfl) (seg_cell (o' := o0) (j := 1) hm433 (k := 1) rfl hp0 rfl)) ?_
  refine s_val (v := (.int .i64 (a0.Owner.length : Int))) (won rfl) rfl rfl (x_len rfl slt_26 (ev (t := 12) rfl rfl) (H0x1).sl) ?_
  refine s_val (v := (.int .i64 0)) (won rfl) rfl rfl (x_move rfl rfl) ?_
  refine wpList_nil ?_
  refine nx ?_
  refine wp_block ?_
  refine wp_fuel (I := fun k => fun a w => ∃ (s756 : (List Int)) (s763 : Int) (v757 : Value) (h758 : Hp) (f : Nat → Value), impl_Pool_held_l1 F a0 a1 k s756 s763 = some s649 ∧ a = fr 28 f ∧ f 1 = (.int .i64 a1) ∧ f 5 = v757 ∧ f 12 = v0x1 ∧ f 13 = (.int .i64 (a0.Owner.length : Int)) ∧ f 14 = (.int .i64 s763) ∧ OwF 3 (FK.int .i64) v757 s756 h758 ∧ Mem w0 w (cat [sg g0 T0 fr0 pre0 [v0x0, v0x1] post0, h758, hF])) F _ _ ⟨([] : List Int), 0, (.slice (some ⟨g434, 0, none⟩) 0 0), (sg g434 3 (0, 0) [] (encs (FK.int .i64) ([] : List Int)) []), _, he, rfl, rfl, rfl, rfl, rfl, rfl, H435, Mem.pick [1, 0, 2] rfl hm433⟩ ?_ ?_
  ·
   rintro a w ⟨s756, s763, v757, h758, f, he, rfl, q755, q760, q761, q762, q764, H759, hm811⟩
   rw [impl_Pool_held_l1] at he; exact none_no he
  ·
   rintro k a w ⟨s756, s763, v757, h758, f, he, rfl, q755, q760, q761, q762, q764, H759, hm813⟩
   rw [impl_Pool_held_l1] at he
   refine wp_seq ?_
   refine wp_region_lit ?_
   refine s_val (v := (.bool (decide (s763 < (a0.Owner.length : Int))))) (won rfl) rfl rfl (x_lss rfl (ev (t := 14) (v := (.int .i64 s763)) rfl q764) (ev (t := 13) (v := (.int .i64 (a0.Owner.length : Int))) rfl q762)) ?_
   refine wpList_nil ?_
   refine nx ?_
   refine wp_seq ?_
   rcases Bool.eq_false_or_eq_true ((decide (s763 < (a0.Owner.length : Int)))) with hb815 | hb815
   ·
    replace he := bifT he hb815
    refine c_true rfl (p := (decide (s763 < (a0.Owner.length : Int)))) rfl rfl hb815 ?_
    refine wp_skip ?_
    refine nx ?_
    obtain ⟨s840, hT842, hk841⟩ := bindE he
    replace he := hT842
    refine wp_seqJ (fun a w => ∃ (v833 : Value) (h834 : Hp) (f : Nat → Value), a = fr 28 f ∧ f 1 = (.int .i64 a1) ∧ f 5 = v833 ∧ f 12 = v0x1 ∧ f 13 = (.int .i64 (a0.Owner.length : Int)) ∧ f 14 = (.int .i64 s763) ∧ OwF 3 (FK.int .i64) v833 s840 h834 ∧ Mem w0 w (cat [sg g0 T0 fr0 pre0 [v0x0, v0x1] post0, h834, hF])) ?_ ?_
    ·
     refine wp_block ?_
     refine wp_seq ?_
     obtain ⟨hg843, he⟩ := gdE he
     refine wp_region_lit ?_
     refine s_val (v := (.int .i64 s763)) (won rfl) rfl rfl (x_move rfl (ev (t := 14) (v := (.int .i64 s763)) rfl q764)) ?_
     refine s_val (v := (.pointer (some ((slA v0x1).add (Int.toNat s763 * 1))))) (won rfl) rfl rfl (x_index (d := (FK.int .i64)) rfl slt_26 (ev (t := 12) (v := v0x1) rfl q761) (ev (t := 14) (v := (.int .i64 s763)) rfl q764) H0x1 hg843.1 hg843.2) ?_
     refine s_val (v := (.int .i64 (ix a0.Owner s763))) (won rfl) rfl rfl (x_load rfl ty1x3 (ev (t := 17) rfl rfl) (RdF.cell0 H0x1 hm813 (Sub.trans hs (Sub.at_ (k := 2) rfl)) hg843.1 hg843.2 rfl)) ?_
     refine s_val (v := (.int .i64 s763)) (won rfl) rfl rfl (x_assign rfl (ev (t := 16) rfl rfl)) ?_
     refine s_val (v := (.int .i64 (ix a0.Owner s763))) (won rfl) rfl rfl (x_assign rfl (ev (t := 18) rfl rfl)) ?_
     refine wpList_nil ?_
     refine nx ?_
     refine wp_seq ?_
     refine wp_region_lit ?_
     refine s_val (v := (.int .i64 (ix a0.Owner s763))) (won rfl) rfl rfl (x_move rfl (ev (t := 7) rfl rfl)) ?_
     refine s_val (v := (.int .i64 a1)) (won rfl) rfl rfl (x_move rfl (ev (t := 1) (v := (.int .i64 a1)) rfl q755)) ?_
     refine s_val (v := (.bool (decide ((ix a0.Owner s763) = a1)))) (won rfl) rfl rfl (x_eql rfl (ev (t := 19) rfl rfl) (ev (t := 20) rfl rfl)) ?_
     refine wpList_nil ?_
     refine nx ?_
     rcases Bool.eq_false_or_eq_true ((decide ((ix a0.Owner s763) = a1))) with hb844 | hb844
     ·
      replace he := bifT he hb844
      refine c_true rfl (p := (decide ((ix a0.Owner s763) = a1))) rfl rfl hb844 ?_
      obtain ⟨hg850, he⟩ := gdE he
      refine wp_region_lit ?_
      refine s_val (v := v757) (won rfl) rfl rfl (x_move rfl (ev (t := 5) (v := v757) rfl q760)) ?_
      refine s_val (v := (.int .i64 s763)) (won rfl) rfl rfl (x_move rfl (ev (t := 6) rfl rfl)) ?_
      refine s_exv (won rfl) rfl rfl (e_litp (cells := [(.int .i64 s763)]) (ps := [(0, (.int .i64 s763))]) rfl slt_26 (pmap_lit (pmap_cons (ev (t := 23) rfl rfl) pmap_nil)) (fun w1 => run_bslicez (cells := [(.int .i64 s763)]) (zs := [.int .i64 0]) (zc := [.int .i64 0]) slt_26 rfl rfl (by kernel_rfl) (fill_cons (cs := [(.int .i64 s763)]) rfl rfl rfl fill_nil) (by decide)) hm813) ?_
      rintro g847 w845 hm846
      have H848 : OwF 3 (FK.int .i64) (.slice (some ⟨g847, 0, none⟩) 1 1) ([s763] : List Int) (sg g847 3 (0, 0) [] (encs (FK.int .i64) ([s763] : List Int)) []) := OwF.lit g847 ([s763] : List Int) 1 rfl (by decide)
      replace hm846 : Mem w0 w845 (cat [(sg g847 3 (0, 0) [] (encs (FK.int .i64) ([s763] : List Int)) []), sg g0 T0 fr0 pre0 [v0x0, v0x1] post0, h758, hF]) := hm846
      refine s_exv (won rfl) rfl rfl (e_append (bytes := 8) rfl slt_26 rfl (ev (t := 22) rfl rfl) (ev (t := 24) rfl rfl) H759 (k := 2) rfl (H848.rd w0) (Sub.at_ (k := 0) rfl) hm846 hg850 (len63 hg850 rfl)) ?_
      rintro p852 w854 ⟨H853, hm855⟩
      replace hm855 : Mem w0 w854 (cat [(sg g847 3 (0, 0) [] (encs (FK.int .i64) ([s763] : List Int)) []), sg g0 T0 fr0 pre0 [v0x0, v0x1] post0, p852.2, hF]) := hm855
      refine s_val (v := p852.1) (won rfl) rfl rfl (x_assign rfl (ev (t := 25) rfl rfl)) ?_
      refine wpList_nil ?_
      have hm856 : Mem w0 w854 (cat [sg g0 T0 fr0 pre0 [v0x0, v0x1] post0, p852.2, hF]) := Mem.pick [1, 2, 3] rfl hm855
      refine nb ?_
      refine nx ?_
      obtain rfl := Option.some.inj he
      exact ⟨p852.1, p852.2, _, rfl, q755, rfl, q761, q762, q764, H853, Mem.pick [0, 1, 2] rfl hm856⟩
     ·
      replace he := bifF he hb844
      refine c_false rfl (p := (decide ((ix a0.Owner s763) = a1))) rfl rfl hb844 ?_
      refine wp_skip ?_
      refine nb ?_
      refine nx ?_
      obtain rfl := Option.some.inj he
      exact ⟨v757, h758, _, rfl, q755, q760, q761, q762, q764, H759, Mem.pick [0, 1, 2] rfl hm813⟩
    ·
     rintro a w ⟨v833, h834, f, rfl, q830, q836, q837, q838, q839, H835, hm858⟩
     replace he := hk841
     refine wp_region_lit ?_
     refine s_val (v := (.int .i64 (IntKind.wrap .i64 (s763 + 1)))) (won rfl) rfl rfl (x_add rfl (ev (t := 14) (v := (.int .i64 s763)) rfl q839) rfl) ?_
     refine s_val (v := (.int .i64 (IntKind.wrap .i64 (s763 + 1)))) (won rfl) rfl rfl (x_move rfl (ev (t := 26) rfl rfl)) ?_
     refine wpList_nil ?_
     refine nx ?_
     exact ⟨s840, (IntKind.wrap .i64 (s763 + 1)), v833, h834, _, he, rfl, q830, q836, q837, q838, rfl, H835, Mem.pick [0, 1, 2] rfl hm858⟩
   ·
    replace he := bifF he hb815
    refine c_false rfl (p := (decide (s763 < (a0.Owner.length : Int)))) rfl rfl hb815 ?_
    refine wp_exit ?_
    refine xs ?_
    refine xs ?_
    refine xb ?_
    refine nx ?_
    obtain rfl := Option.some.inj he
    exact ⟨v757, h758, _, rfl, q760, H759, Mem.pick [0, 1, 2] rfl hm813⟩
 ·
  rintro a w ⟨v645, h646, f, rfl, q648, H647, hm860⟩
  replace he := hk650
  refine wp_seq ?_
  refine wp_region_lit ?_
  refine s_val (v := v645) (won rfl) rfl rfl (x_move rfl (ev (t := 5) (v := v645) rfl q648)) ?_
  refine s_val (v := v645) (won rfl) rfl rfl (x_assign rfl (ev (t := 27) rfl rfl)) ?_
  refine wpList_nil ?_
  refine nx ?_
  refine wp_ret ?_
  obtain rfl := Option.some.inj he
  refine r_ret (v := v645) (rv_one rfl (RVs.tmp (v := v645) rfl rfl RVs.nil)) rfl ?_
  exact ⟨v645, h646, rfl, H647, Mem.pick [0, 1, 2] rfl hm860⟩
def impl_Pool_release (a0 : impl_Pool) (a1 : Int) : Option (impl_Pool) := gd ((0 : Int) ≤ a1 ∧ a1 < (a0.Owner.length : Int)) (gd ((a0.Free.length + ([a1] : List Int).length) * 8 ≤ 140737488355328) ((some (impl_Pool.mk (a0.Free ++ ([a1] : List Int)) (List.set a0.Owner (Int.toNat a1) (-1))))))
set_option maxHeartbeats 400000 in
set_option maxRecDepth 100000 in
theorem impl_Pool_release_ok {w0 w : World} {hR hF : Hp} {v0x0 : Value} {h0x0 : Hp} {v0x1 : Value} {h0x1 : Hp} {g0 T0 o0 : Nat} {fr0 : Nat × Nat} {pre0 post0 : List Value} (a0 : impl_Pool) (a1 : Int) {r : (impl_Pool)} (H0x0 : OwF 3 (FK.int .i64) v0x0 a0.Free h0x0) (H0x1 : OwF 3 (FK.int .i64) v0x1 a0.Owner h0x1) (hp0 : pre0.length = o0) (hm : Mem w0 w (cat [sg g0 T0 fr0 pre0 [v0x0, v0x1] post0, h0x0, h0x1, hF])) (he : impl_Pool_release a0 a1 = some r) :
    Calls Try.prog 86 #[(.pointer (some ⟨g0, o0, none⟩)), (.int .i64 a1)] w (fun e w' => ∃ (v'0 : Value) (h'0 : Hp) (v'1 : Value) (h'1 : Hp), e = .returned (.tuple #[]) ∧ OwF 3 (FK.int .i64) v'0 r.Free h'0 ∧ OwF 3 (FK.int .i64) v'1 r.Owner h'1 ∧ Mem w0 w' (cat [sg g0 T0 fr0 pre0 [v'0, v'1] post0, h'0, h'1, hF])) := by
 refine calls_fr (n := 20) Try.func86 rfl rfl rfl ?_
 unfold impl_Pool_release at he
 refine wp_seq ?_
 obtain ⟨hg31, he⟩ := gdE he
 refine wp_region_lit ?_
 refine s_val (v := (.pointer (some ⟨g0, o0, none⟩))) (won rfl) rfl rfl (x_move rfl (ev (t := 0) rfl rfl)) ?_
 refine s_val (v := (.pointer (some ⟨g0, o0, none⟩))) (won rfl) rfl rfl (x_nil rfl (ev (t := 4) rfl rfl)) ?_
 refine s_val (v := (.pointer (some ⟨g0, o0 + 1, none⟩))) (won rfl) rfl rfl (x_field rfl fa_28x1 (ev (t := 5) rfl rfl)) ?_
 refine s_val (v := v0x1) (won rfl) rfl rfl (x_load rfl ty1x26 (ev (t := 6) rfl rfl) (seg_cell (o' := o0) (j := 1) hm (k := 0) rfl hp0 rfl)) ?_
 refine s_val (v := (.int .i64 a1)) (won rfl) rfl rfl (x_move rfl (ev (t := 1) rfl rfl)) ?_
 refine s_val (v := (.pointer (some ((slA v0x1).add (Int.toNat a1 * 1))))) (won rfl) rfl rfl (x_index (d := (FK.int .i64)) rfl slt_26 (ev (t := 7) rfl rfl) (ev (t := 8) rfl rfl) (H0x1.rd w0) hg31.1 hg31.2) ?_
 refine s_exw (won rfl) rfl (e_storeF (d := (FK.int .i64)) (s := (-1)) (vs := [(.int .i64 (-1))]) (j := 0) rfl sz_3 (ev (t := 9) rfl rfl) (add_0 _).symm rfl rfl rfl H0x1 hg31.1 hg31.2 rfl rfl hm (k := 2) rfl) ?_
 rintro h32 w34 ⟨H33, hm35⟩
 replace hm35 : Mem w0 w34 (cat [sg g0 T0 fr0 pre0 [v0x0, v0x1] post0, h0x0, h32, hF]) := hm35
 refine wpList_nil ?_
 refine nx ?_
 obtain ⟨hg41, he⟩ := gdE he
 refine wp_region_lit ?_
 refine s_val (v := (.pointer (some ⟨g0, o0, none⟩))) (won rfl) rfl rfl (x_move rfl (ev (t := 0) rfl rfl)) ?_
 refine s_val (v := (.pointer (some ⟨g0, o0, none⟩))) (won rfl) rfl rfl (x_move rfl (ev (t := 0) rfl rfl)) ?_
 refine s_val (v := (.pointer (some ⟨g0, o0, none⟩))) (won rfl) rfl rfl (x_nil rfl (ev (t := 11) rfl rfl)) ?_
 refine s_val (v := (.pointer (some ⟨g0, o0, none⟩))) (won rfl) rfl rfl (x_field rfl fa_28x0 (ev (t := 12) rfl rfl)) ?_
 refine s_val (v := v0x0) (won rfl) rfl rfl (x_load rfl ty1x26 (ev (t := 13) rfl rfl) (seg_cell (o' := o0) (j := 0) hm35 (k := 0) rfl hp0 rfl)) ?_
 refine s_val (v := (.int .i64 a1)) (won rfl) rfl rfl (x_move rfl (ev (t := 1) rfl rfl)) ?_
 refine s_exv (won rfl) rfl rfl (e_litp (cells := [(.int .i64 a1)]) (ps := [(0, (.int .i64 a1))]) rfl slt_26 (pmap_lit (pmap_cons (ev (t := 15) rfl rfl) pmap_nil)) (fun w1 => run_bslicez (cells := [(.int .i64 a1)]) (zs := [.int .i64 0]) (zc := [.int .i64 0]) slt_26 rfl rfl (by kernel_rfl) (fill_cons (cs := [(.int .i64 a1)]) rfl rfl rfl fill_nil) (by decide)) hm35) ?_
 rintro g38 w36 hm37
 have H39 : OwF 3 (FK.int .i64) (.slice (some ⟨g38, 0, none⟩) 1 1) ([a1] : List Int) (sg g38 3 (0, 0) [] (encs (FK.int .i64) ([a1] : List Int)) []) := OwF.lit g38 ([a1] : List Int) 1 rfl (by decide)
 replace hm37 : Mem w0 w36 (cat [(sg g38 3 (0, 0) [] (encs (FK.int .i64) ([a1] : List Int)) []), sg g0 T0 fr0 pre0 [v0x0, v0x1] post0, h0x0, h32, hF]) := hm37
 refine s_exv (won rfl) rfl rfl (e_append (bytes := 8) rfl slt_26 rfl (ev (t := 14) rfl rfl) (ev (t := 16) rfl rfl) H0x0 (k := 2) rfl (H39.rd w0) (Sub.at_ (k := 0) rfl) hm37 hg41 (len63 hg41 rfl)) ?_
 rintro p43 w45 ⟨H44, hm46⟩
 replace hm46 : Mem w0 w45 (cat [(sg g38 3 (0, 0) [] (encs (FK.int .i64) ([a1] : List Int)) []), sg g0 T0 fr0 pre0 [v0x0, v0x1] post0, p43.2, h32, hF]) := hm46
 refine s_val (v := (.pointer (some ⟨g0, o0, none⟩))) (won rfl) rfl rfl (x_nil rfl (ev (t := 10) rfl rfl)) ?_
 refine s_val (v := (.pointer (some ⟨g0, o0, none⟩))) (won rfl) rfl rfl (x_field rfl fa_28x0 (ev (t := 18) rfl rfl)) ?_
 refine s_exs (won rfl) rfl (e_store (vs := [p43.1]) (o' := o0) (j := 0) rfl sz_26 (ev (t := 19) rfl rfl) (ev (t := 17) rfl rfl) (IsSl.cells (H44).sl) (one_cons (IsSl.one (H44).sl) one_nil) hm46 (k := 1) rfl hp0 rfl) ?_
 intro w47 hm48
 replace hm48 : Mem w0 w47 (cat [(sg g38 3 (0, 0) [] (encs (FK.int .i64) ([a1] : List Int)) []), sg g0 T0 fr0 pre0 [p43.1, v0x1] post0, p43.2, h32, hF]) := hm48
 refine wpList_nil ?_
 have hm49 : Mem w0 w47 (cat [sg g0 T0 fr0 pre0 [p43.1, v0x1] post0, p43.2, h32, hF]) := Mem.pick [1, 2, 3, 4] rfl hm48
 obtain rfl := Option.some.inj he
 refine bodyPost_end (v := (.tuple #[])) (rv_list rfl rfl RVs.nil) rfl ?_
 exact ⟨p43.1, p43.2, v0x1, h32, rfl, H44, H33, Mem.pick [0, 1, 2, 3] rfl hm49⟩
def impl_Pool_act_l1 (F : Nat) (r1365 : ((List Int))) : Nat → (List Int) → (List Int) → Int → Option ((List Int) × (List Int))
  | 0, _, _, _ => none
  | k + 1, s1595, s1599, s1608 => (bif (decide (s1608 < (r1365.length : Int))) then gd ((0 : Int) ≤ s1608 ∧ s1608 < (r1365.length : Int)) ((impl_Pool_release (impl_Pool.mk s1595 s1599) (ix r1365 s1608)).bind fun r1655 => impl_Pool_act_l1 F r1365 k r1655.Free r1655.Owner (IntKind.wrap .i64 (s1608 + 1))) else (some (s1595, s1599)))
def impl_Pool_act (F : Nat) (a0 : impl_Pool) (a1 : impl_PoolAct) : Option (impl_PoolReply × impl_Pool) := (impl_inRange a1.Kind 1 4).bind fun r964 => (bif (!r964) then (some ((impl_PoolReply.mk 3 0), a0)) else ((bif ((decide (a1.Kind = 2)) || (decide (a1.Kind = 3))) then (some a1.Buffer) else (some 0)) : Option (Int)).bind fun (s985 : (Int)) => (impl_isOwner a1.Owner).bind fun r1006 => (bif ((!(!r1006)) && (decide (a1.Kind = 2))) then impl_isOwner a1.To else some false).bind fun r1009 => (bif ((!r1006) || ((decide (a1.Kind = 2)) && (!r1009))) then (some ((impl_PoolReply.mk 4 s985), a0)) else ((bif (decide (a1.Kind = 1)) then (impl_Pool_take a0 a1.Owner).bind fun r1350 => (some (Fl.out (r1350.1, r1350.2))) else (bif (decide (a1.Kind = 4)) then (impl_Pool_held F a0 a1.Owner).bind fun r1365 => (impl_Pool_act_l1 F r1365 F a0.Free a0.Owner 0 : Option ((List Int) × (List Int))).bind fun (s1523 : ((List Int) × (List Int))) => (some (Fl.out ((impl_PoolReply.mk 0 (r1365.length : Int)), (impl_Pool.mk s1523.1 s1523.2)))) else (some (Fl.go ())))) : Option (Fl (impl_PoolReply × impl_Pool) (Unit))).bind fun l1346 => l1346.on fun (s1345 : (Unit)) => (impl_inRange a1.Buffer 0 (IntKind.wrap .i64 ((a0.Owner.length : Int) - 1))).bind fun r1684 => gd ((!(!r1684)) = true → (0 : Int) ≤ a1.Buffer ∧ a1.Buffer < (a0.Owner.length : Int)) ((bif ((!r1684) || (!decide ((ix a0.Owner a1.Buffer) = a1.Owner))) then (some ((impl_PoolReply.mk 5 s985), a0)) else ((bif (decide (a1.Kind = 2)) then gd ((0 : Int) ≤ a1.Buffer ∧ a1.Buffer < (a0.Owner.length : Int)) ((some (a0.Free, (List.set a0.Owner (Int.toNat a1.Buffer) a1.To)))) else (impl_Pool_release a0 a1.Buffer).bind fun r1738 => (some (r1738.Free, r1738.Owner))) : Option ((List Int) × (List Int))).bind fun (s1727 : ((List Int) × (List Int))) => (some ((impl_PoolReply.mk 0 s985), (impl_Pool.mk s1727.1 s1727.2)))))))
set_option maxHeartbeats 400000 in
set_option maxRecDepth 100000 in
theorem impl_Pool_act_ok (F : Nat) {w0 w : World} {hR hF : Hp} {v0x0 : Value} {h0x0 : Hp} {v0x1 : Value} {h0x1 : Hp} {g0 T0 o0 : Nat} {fr0 : Nat × Nat} {pre0 post0 : List Value} (a0 : impl_Pool) (a1 : impl_PoolAct) {r : (impl_PoolReply × impl_Pool)} (H0x0 : OwF 3 (FK.int .i64) v0x0 a0.Free h0x0) (H0x1 : OwF 3 (FK.int .i64) v0x1 a0.Owner h0x1) (hp0 : pre0.length = o0) (hm : Mem w0 w (cat [sg g0 T0 fr0 pre0 [v0x0, v0x1] post0, h0x0, h0x1, hF])) (he : impl_Pool_act F a0 a1 = some r) :
    Calls Try.prog 59 #[(.pointer (some ⟨g0, o0, none⟩)), (.agg #[(.int .i64 a1.Kind), (.int .i64 a1.Owner), (.int .i64 a1.To), (.int .i64 a1.Buffer)])] w (fun e w' => ∃ (v'0 : Value) (h'0 : Hp) (v'1 : Value) (h'1 : Hp), e = .returned (.agg #[(.int .i64 r.1.Code), (.int .i64 r.1.Buffer)]) ∧ OwF 3 (FK.int .i64) v'0 r.2.Free h'0 ∧ OwF 3 (FK.int .i64) v'1 r.2.Owner h'1 ∧ Mem w0 w' (cat [sg g0 T0 fr0 pre0 [v'0, v'1] post0, h'0, h'1, hF])) := by
 refine calls_fr (n := 112) Try.func59 rfl rfl rfl ?_
 unfold impl_Pool_act at he
 refine wp_seq ?_
 refine wp_region_lit ?_
 refine s_exv (won rfl) rfl rfl (e_box (vs := [(.int .i64 a1.Kind), (.int .i64 a1.Owner), (.int .i64 a1.To), (.int .i64 a1.Buffer)]) rfl (ev (t := 1) rfl rfl) rfl hm) ?_
 rintro g949 w950 hm951
 refine s_exv (won rfl) rfl rfl (e_alloc (vs := [(.int .i64 0), (.int .i64 0)]) rfl zt_35 rfl hm951) ?_
 rintro g953 w954 hm955
 refine wpList_nil ?_
 refine nx ?_
 refine wp_seq ?_
 refine wp_seq ?_
 obtain ⟨r964, hr964, he⟩ := bindE he
 refine wp_region_lit ?_
 refine s_val (v := (.pointer (some ⟨g949, 0, none⟩))) (won rfl) rfl rfl (x_field rfl fa_39x0 (ev (t := 3) rfl rfl)) ?_
 refine s_val (v := (.int .i64 a1.Kind)) (won rfl) rfl rfl (x_load rfl ty1x3 (ev (t := 9) rfl rfl) (seg_cell (o' := 0) (j := 0) hm955 (k := 1) rfl rfl rfl)) ?_
 refine s_call (won rfl) rfl rfl (x_call rfl rfl cl_58 (map_lit (map_cons (ev (t := 10) rfl rfl) (map_cons rfl (map_cons rfl map_nil))))) (impl_inRange_ok (hR := (cat [])) (hF := cat [sg g953 35 (0, 0) [] [(.int .i64 0), (.int .i64 0)] [], sg g949 39 (0, 0) [] [(.int .i64 a1.Kind), (.int .i64 a1.Owner), (.int .i64 a1.To), (.int .i64 a1.Buffer)] [], sg g0 T0 fr0 pre0 [v0x0, v0x1] post0, h0x0, h0x1, hF]) a1.Kind 1 4  (Mem.one hm955) hr964) ?_
 rintro e w965 ⟨rfl, hm966⟩
 refine ⟨_, rfl, ?_⟩
 replace hm966 : Mem w0 w965 (cat [sg g953 35 (0, 0) [] [(.int .i64 0), (.int .i64 0)] [], sg g949 39 (0, 0) [] [(.int .i64 a1.Kind), (.int .i64 a1.Owner), (.int .i64 a1.To), (.int .i64 a1.Buffer)] [], sg g0 T0 fr0 pre0 [v0x0, v0x1] post0, h0x0, h0x1, hF]) := Mem.un hm966
 refine s_val (v := (.bool (!r964))) (won rfl) rfl rfl (x_not rfl (ev (t := 11) rfl rfl)) ?_
 refine wpList_nil ?_
 refine nx ?_
 rcases Bool.eq_false_or_eq_true ((!r964)) with hb967 | hb967
 ·
  replace he := bifT he hb967
  refine c_true rfl (p := (!r964)) rfl rfl hb967 ?_
  refine wp_seq ?_
  refine wp_region_lit ?_
  refine s_val (v := (.agg #[(.int .i64 3), (.int .i64 0)])) (won rfl) rfl rfl (x_build (cells := [(.int .i64 3), (.int .i64 0)]) (zc := [.int .i64 0, .int .i64 0]) (sizes := [(0, 1), (1, 1)]) (ps := [(0, (.int .i64 3))]) rfl zt_35 rfl uf_35 ufz_35 (pmap_lit (pmap_cons rfl pmap_nil)) (fill_cons (cs := [(.int .i64 3)]) rfl rfl rfl fill_nil)) ?_
  refine s_exs (won rfl) rfl (e_store (vs := [(.int .i64 3), (.int .i64 0)]) (o' := 0) (j := 0) rfl sz_35 (ev (t := 4) rfl rfl) (ev (t := 13) rfl rfl) rfl rfl hm966 (k := 0) rfl rfl rfl) ?_
  intro w968 hm969
  replace hm969 : Mem w0 w968 (cat [sg g953 35 (0, 0) [] [(.int .i64 3), (.int .i64 0)] [], sg g949 39 (0, 0) [] [(.int .i64 a1.Kind), (.int .i64 a1.Owner), (.int .i64 a1.To), (.int .i64 a1.Buffer)] [], sg g0 T0 fr0 pre0 [v0x0, v0x1] post0, h0x0, h0x1, hF]) := hm969
  refine wpList_nil ?_
  have hm970 : Mem w0 w968 (cat [sg g953 35 (0, 0) [] [(.int .i64 3), (.int .i64 0)] [], sg g0 T0 fr0 pre0 [v0x0, v0x1] post0, h0x0, h0x1, hF]) := Mem.pick [0, 2, 3, 4, 5] rfl hm969
  refine nx ?_
  refine wp_ret ?_
  refine xr ?_
  obtain rfl := Option.some.inj he
  refine r_ret (v := (.agg #[(.int .i64 3), (.int .i64 0)])) (rv_one rfl (RVs.cell (cs := [(.int .i64 3), (.int .i64 0)]) rfl rfl tyN_35 (seg_cells (o' := 0) (j := 0) hm970 (k := 0) rfl rfl rfl) RVs.nil)) rfl ?_
  exact ⟨v0x0, h0x0, v0x1, h0x1, rfl, H0x0, H0x1, Mem.pick [1, 2, 3, 4] rfl hm970⟩
 ·
  replace he := bifF he hb967
  refine c_false rfl (p := (!r964)) rfl rfl hb967 ?_
  refine wp_skip ?_
  refine nx ?_
  refine wp_seq ?_
  refine wp_region_lit ?_
  refine s_val (v := (.agg #[(.int .i64 0), (.int .i64 0)])) (won rfl) rfl rfl (x_build (cells := [(.int .i64 0), (.int .i64 0)]) (zc := [.int .i64 0, .int .i64 0]) (sizes := [(0, 1), (1, 1)]) (ps := []) rfl zt_35 rfl uf_35 ufz_35 (pmap_lit pmap_nil) fill_nil) ?_
  refine s_exv (won rfl) rfl rfl (e_alloc (vs := [(.int .i64 0), (.int .i64 0)]) rfl zt_35 rfl hm966) ?_
  rintro g971 w972 hm973
  refine s_exs (won rfl) rfl (e_store (vs := [(.int .i64 0), (.int .i64 0)]) (o' := 0) (j := 0) rfl sz_35 (ev (t := 5) rfl rfl) (ev (t := 14) rfl rfl) rfl rfl hm973 (k := 0) rfl rfl rfl) ?_
  intro w975 hm976
  replace hm976 : Mem w0 w975 (cat [sg g971 35 (0, 0) [] [(.int .i64 0), (.int .i64 0)] [], sg g953 35 (0, 0) [] [(.int .i64 0), (.int .i64 0)] [], sg g949 39 (0, 0) [] [(.int .i64 a1.Kind), (.int .i64 a1.Owner), (.int .i64 a1.To), (.int .i64 a1.Buffer)] [], sg g0 T0 fr0 pre0 [v0x0, v0x1] post0, h0x0, h0x1, hF]) := hm976
  refine wpList_nil ?_
  refine nx ?_
  obtain ⟨s985, hT987, hk986⟩ := bindE he
  replace he := hT987
  refine wp_seqJ (fun a w => ∃ (f : Nat → Value), a = fr 112 f ∧ f 0 = (.pointer (some ⟨g0, o0, none⟩)) ∧ f 3 = (.pointer (some ⟨g949, 0, none⟩)) ∧ f 4 = (.pointer (some ⟨g953, 0, none⟩)) ∧ f 5 = (.pointer (some ⟨g971, 0, none⟩)) ∧ Mem w0 w (cat [sg g0 T0 fr0 pre0 [v0x0, v0x1] post0, sg g949 39 (0, 0) [] [(.int .i64 a1.Kind), (.int .i64 a1.Owner), (.int .i64 a1.To), (.int .i64 a1.Buffer)] [], sg g953 35 (0, 0) [] [(.int .i64 0), (.int .i64 0)] [], sg g971 35 (0, 0) [] [(.int .i64 0), (.int .i64 s985)] [], h0x0, h0x1, hF])) ?_ ?_
  ·
   refine wp_seq ?_
   refine wp_region_lit ?_
   refine s_val (v := (.pointer (some ⟨g949, 0, none⟩))) (won rfl) rfl rfl (x_field rfl fa_39x0 (ev (t := 3) rfl rfl)) ?_
   refine s_val (v := (.int .i64 a1.Kind)) (won rfl) rfl rfl (x_load rfl ty1x3 (ev (t := 15) rfl rfl) (seg_cell (o' := 0) (j := 0) hm976 (k := 2) rfl rfl rfl)) ?_
   refine s_val (v := (.bool (decide (a1.Kind = 2)))) (won rfl) rfl rfl (x_eql rfl (ev (t := 16) rfl rfl) rfl) ?_
   refine s_val (v := (.bool (decide (a1.Kind = 2)))) (won rfl) rfl rfl (x_move rfl (ev (t := 17) rfl rfl)) ?_
   refine s_cval (p := (!(decide (a1.Kind = 2)))) (v := (.pointer (some ⟨g949, 0, none⟩))) (won_f (j := 3) (t := 18) (q := (decide (a1.Kind = 2))) rfl rfl rfl rfl rfl) rfl rfl (fun hp => (x_field rfl fa_39x0 (ev (t := 3) rfl rfl))) ?_
   refine s_cval (p := (!(decide (a1.Kind = 2)))) (v := (.int .i64 a1.Kind)) (won_f (j := 3) (t := 18) (q := (decide (a1.Kind = 2))) rfl rfl rfl rfl rfl) rfl rfl (fun hp => (x_load rfl ty1x3 (ev (t := 19) rfl (Eq.trans (b := cv (!(decide (a1.Kind = 2))) (.pointer (some ⟨g949, 0, none⟩))) rfl (on_c hp))) (seg_cell (o' := 0) (j := 0) hm976 (k := 2) rfl rfl rfl))) ?_
   refine s_cval (p := (!(decide (a1.Kind = 2)))) (v := (.bool (decide (a1.Kind = 3)))) (won_f (j := 3) (t := 18) (q := (decide (a1.Kind = 2))) rfl rfl rfl rfl rfl) rfl rfl (fun hp => (x_eql rfl (ev (t := 20) rfl (Eq.trans (b := cv (!(decide (a1.Kind = 2))) (.int .i64 a1.Kind)) rfl (on_c hp))) rfl)) ?_
   refine s_val (v := (.bool ((decide (a1.Kind = 2)) || (decide (a1.Kind = 3))))) (won rfl) rfl rfl (x_pick_or rfl (ev (t := 18) rfl rfl) rfl (fun hq => ev rfl (Eq.trans (b := cv (!(decide (a1.Kind = 2))) (.bool (decide (a1.Kind = 3)))) rfl (on_c (not_i hq))))) ?_
   refine wpList_nil ?_
   refine nx ?_
   rcases Bool.eq_false_or_eq_true (((decide (a1.Kind = 2)) || (decide (a1.Kind = 3)))) with hb988 | hb988
   ·
    replace he := bifT he hb988
    refine c_true rfl (p := ((decide (a1.Kind = 2)) || (decide (a1.Kind = 3)))) rfl rfl hb988 ?_
    refine wp_region_lit ?_
    refine s_val (v := (.pointer (some ⟨g949, 3, none⟩))) (won rfl) rfl rfl (x_field rfl fa_39x3 (ev (t := 3) rfl rfl)) ?_
    refine s_val (v := (.int .i64 a1.Buffer)) (won rfl) rfl rfl (x_load rfl ty1x3 (ev (t := 23) rfl rfl) (seg_cell (o' := 0) (j := 3) hm976 (k := 2) rfl rfl rfl)) ?_
    refine s_val (v := (.pointer (some ⟨g971, 1, none⟩))) (won rfl) rfl rfl (x_field rfl fa_35x1 (ev (t := 5) rfl rfl)) ?_
    refine s_exs (won rfl) rfl (e_store (vs := [(.int .i64 a1.Buffer)]) (o' := 0) (j := 1) rfl sz_3 (ev (t := 25) rfl rfl) (ev (t := 24) rfl rfl) rfl rfl hm976 (k := 0) rfl rfl rfl) ?_
    intro w989 hm990
    replace hm990 : Mem w0 w989 (cat [sg g971 35 (0, 0) [] [(.int .i64 0), (.int .i64 a1.Buffer)] [], sg g953 35 (0, 0) [] [(.int .i64 0), (.int .i64 0)] [], sg g949 39 (0, 0) [] [(.int .i64 a1.Kind), (.int .i64 a1.Owner), (.int .i64 a1.To), (.int .i64 a1.Buffer)] [], sg g0 T0 fr0 pre0 [v0x0, v0x1] post0, h0x0, h0x1, hF]) := hm990
    refine wpList_nil ?_
    refine nx ?_
    obtain rfl := Option.some.inj he
    exact ⟨_, rfl, rfl, rfl, rfl, rfl, Mem.pick [3, 2, 1, 0, 4, 5, 6] rfl hm990⟩
   ·
    replace he := bifF he hb988
    refine c_false rfl (p := ((decide (a1.Kind = 2)) || (decide (a1.Kind = 3)))) rfl rfl hb988 ?_
    refine wp_skip ?_
    refine nx ?_
    obtain rfl := Option.some.inj he
    exact ⟨_, rfl, rfl, rfl, rfl, rfl, Mem.pick [3, 2, 1, 0, 4, 5, 6] rfl hm976⟩
  ·
   rintro a w ⟨f, rfl, q980, q981, q982, q984, hm992⟩
   replace he := hk986
   refine wp_seq ?_
   refine wp_seq ?_
   obtain ⟨r1006, hr1006, he⟩ := bindE he
   obtain ⟨r1009, hr1009, he⟩ := bindE he
   refine wp_region_lit ?_
   refine s_val (v := (.pointer (some ⟨g949, 1, none⟩))) (won rfl) rfl rfl (x_field rfl fa_39x1 (ev (t := 3) (v := (.pointer (some ⟨g949, 0, none⟩))) rfl q981)) ?_
   refine s_val (v := (.int .i64 a1.Owner)) (won rfl) rfl rfl (x_load rfl ty1x3 (ev (t := 26) rfl rfl) (seg_cell (o' := 0) (j := 1) hm992 (k := 1) rfl rfl rfl)) ?_
   refine s_call (won rfl) rfl rfl (x_call rfl rfl cl_64 (map_lit (map_cons (ev (t := 27) rfl rfl) map_nil))) (impl_isOwner_ok (hR := (cat [])) (hF := cat [sg g0 T0 fr0 pre0 [v0x0, v0x1] post0, sg g949 39 (0, 0) [] [(.int .i64 a1.Kind), (.int .i64 a1.Owner), (.int .i64 a1.To), (.int .i64 a1.Buffer)] [], sg g953 35 (0, 0) [] [(.int .i64 0), (.int .i64 0)] [], sg g971 35 (0, 0) [] [(.int .i64 0), (.int .i64 s985)] [], h0x0, h0x1, hF]) a1.Owner  (Mem.one hm992) hr1006) ?_
   rintro e w1007 ⟨rfl, hm1008⟩
   refine ⟨_, rfl, ?_⟩
   replace hm1008 : Mem w0 w1007 (cat [sg g0 T0 fr0 pre0 [v0x0, v0x1] post0, sg g949 39 (0, 0) [] [(.int .i64 a1.Kind), (.int .i64 a1.Owner), (.int .i64 a1.To), (.int .i64 a1.Buffer)] [], sg g953 35 (0, 0) [] [(.int .i64 0), (.int .i64 0)] [], sg g971 35 (0, 0) [] [(.int .i64 0), (.int .i64 s985)] [], h0x0, h0x1, hF]) := Mem.un hm1008
   refine s_val (v := (.bool (!r1006))) (won rfl) rfl rfl (x_not rfl (ev (t := 28) rfl rfl)) ?_
   refine s_val (v := (.bool (!r1006))) (won rfl) rfl rfl (x_move rfl (ev (t := 29) rfl rfl)) ?_
   refine s_cval (p := (!(!r1006))) (v := (.pointer (some ⟨g949, 0, none⟩))) (won_f (j := 4) (t := 30) (q := (!r1006)) rfl rfl rfl rfl rfl) rfl rfl (fun hp => (x_field rfl fa_39x0 (ev (t := 3) (v := (.pointer (some ⟨g949, 0, none⟩))) rfl q981))) ?_
   refine s_cval (p := (!(!r1006))) (v := (.int .i64 a1.Kind)) (won_f (j := 4) (t := 30) (q := (!r1006)) rfl rfl rfl rfl rfl) rfl rfl (fun hp => (x_load rfl ty1x3 (ev (t := 31) rfl (Eq.trans (b := cv (!(!r1006)) (.pointer (some ⟨g949, 0, none⟩))) rfl (on_c hp))) (seg_cell (o' := 0) (j := 0) hm1008 (k := 1) rfl rfl rfl))) ?_
   refine s_cval (p := (!(!r1006))) (v := (.bool (decide (a1.Kind = 2)))) (won_f (j := 4) (t := 30) (q := (!r1006)) rfl rfl rfl rfl rfl) rfl rfl (fun hp => (x_eql rfl (ev (t := 32) rfl (Eq.trans (b := cv (!(!r1006)) (.int .i64 a1.Kind)) rfl (on_c hp))) rfl)) ?_
   refine s_cval (p := (!(!r1006))) (v := (.bool (decide (a1.Kind = 2)))) (won_f (j := 4) (t := 30) (q := (!r1006)) rfl rfl rfl rfl rfl) rfl rfl (fun hp => (x_move rfl (ev (t := 33) rfl (Eq.trans (b := cv (!(!r1006)) (.bool (decide (a1.Kind = 2)))) rfl (on_c hp))))) ?_
   refine s_cval (p := ((!(!r1006)) && (decide (a1.Kind = 2)))) (v := (.pointer (some ⟨g949, 2, none⟩))) (won_ct (j := 8) (t := 34) (p := (!(!r1006))) (q := (decide (a1.Kind = 2))) rfl rfl rfl rfl rfl) rfl rfl (fun hp => (x_field rfl fa_39x2 (ev (t := 3) (v := (.pointer (some ⟨g949, 0, none⟩))) rfl q981))) ?_
   refine s_cval (p := ((!(!r1006)) && (decide (a1.Kind = 2)))) (v := (.int .i64 a1.To)) (won_ct (j := 8) (t := 34) (p := (!(!r1006))) (q := (decide (a1.Kind = 2))) rfl rfl rfl rfl rfl) rfl rfl (fun hp => (x_load rfl ty1x3 (ev (t := 35) rfl (Eq.trans (b := cv ((!(!r1006)) && (decide (a1.Kind = 2))) (.pointer (some ⟨g949, 2, none⟩))) rfl (on_c hp))) (seg_cell (o' := 0) (j := 2) hm1008 (k := 1) rfl rfl rfl))) ?_
   refine s_ccall (p := ((!(!r1006)) && (decide (a1.Kind = 2)))) (v := (.bool r1009)) (J := fun w' => Mem w0 w' (cat [sg g0 T0 fr0 pre0 [v0x0, v0x1] post0, sg g949 39 (0, 0) [] [(.int .i64 a1.Kind), (.int .i64 a1.Owner), (.int .i64 a1.To), (.int .i64 a1.Buffer)] [], sg g953 35 (0, 0) [] [(.int .i64 0), (.int .i64 0)] [], sg g971 35 (0, 0) [] [(.int .i64 0), (.int .i64 s985)] [], h0x0, h0x1, hF])) (won_ct (j := 8) (t := 34) (p := (!(!r1006))) (q := (decide (a1.Kind = 2))) rfl rfl rfl rfl rfl) rfl rfl (fun hp => (x_call rfl rfl cl_64 (map_lit (map_cons (ev (t := 36) rfl (Eq.trans (b := cv ((!(!r1006)) && (decide (a1.Kind = 2))) (.int .i64 a1.To)) rfl (on_c hp))) map_nil)))) (fun hp => ((impl_isOwner_ok (hR := (cat [])) (hF := cat [sg g0 T0 fr0 pre0 [v0x0, v0x1] post0, sg g949 39 (0, 0) [] [(.int .i64 a1.Kind), (.int .i64 a1.Owner), (.int .i64 a1.To), (.int .i64 a1.Buffer)] [], sg g953 35 (0, 0) [] [(.int .i64 0), (.int .i64 0)] [], sg g971 35 (0, 0) [] [(.int .i64 0), (.int .i64 s985)] [], h0x0, h0x1, hF]) a1.To  (Mem.one hm1008) (bifT hr1009 hp))).mono fun e w2 h => ⟨h.1, Mem.un h.2⟩) hm1008 ?_
   intro w1010 hm1011
   refine s_cval (p := ((!(!r1006)) && (decide (a1.Kind = 2)))) (v := (.bool (!r1009))) (won_ct (j := 8) (t := 34) (p := (!(!r1006))) (q := (decide (a1.Kind = 2))) rfl rfl rfl rfl rfl) rfl rfl (fun hp => (x_not rfl (ev (t := 37) rfl (Eq.trans (b := cv ((!(!r1006)) && (decide (a1.Kind = 2))) (.bool r1009)) rfl (on_c hp))))) ?_
   refine s_cval (p := (!(!r1006))) (v := (.bool ((decide (a1.Kind = 2)) && (!r1009)))) (won_f (j := 4) (t := 30) (q := (!r1006)) rfl rfl rfl rfl rfl) rfl rfl (fun hp => (x_pick_and rfl (ev (t := 34) rfl (Eq.trans (b := cv (!(!r1006)) (.bool (decide (a1.Kind = 2)))) rfl (on_c hp))) (fun hq => ev rfl (Eq.trans (b := cv ((!(!r1006)) && (decide (a1.Kind = 2))) (.bool (!r1009))) rfl (on_c (and_i hp hq)))) rfl)) ?_
   refine s_val (v := (.bool ((!r1006) || ((decide (a1.Kind = 2)) && (!r1009))))) (won rfl) rfl rfl (x_pick_or rfl (ev (t := 30) rfl rfl) rfl (fun hq => ev rfl (Eq.trans (b := cv (!(!r1006)) (.bool ((decide (a1.Kind = 2)) && (!r1009)))) rfl (on_c (not_i hq))))) ?_
   refine wpList_nil ?_
   refine nx ?_
   rcases Bool.eq_false_or_eq_true (((!r1006) || ((decide (a1.Kind = 2)) && (!r1009)))) with hb1012 | hb1012
   ·
    replace he := bifT he hb1012
    refine c_true rfl (p := ((!r1006) || ((decide (a1.Kind = 2)) && (!r1009)))) rfl rfl hb1012 ?_
    refine wp_seq ?_
    refine wp_region_lit ?_
    refine s_val (v := (.pointer (some ⟨g971, 0, none⟩))) (won rfl) rfl rfl (x_field rfl fa_35x0 (ev (t := 5) (v := (.pointer (some ⟨g971, 0, none⟩))) rfl q984)) ?_
    refine s_exs (won rfl) rfl (e_store (vs := [(.int .i64 4)]) (o' := 0) (j := 0) rfl sz_3 (ev (t := 41) rfl rfl) rfl rfl rfl hm1011 (k := 3) rfl rfl rfl) ?_
    intro w1013 hm1014
    replace hm1014 : Mem w0 w1013 (cat [sg g0 T0 fr0 pre0 [v0x0, v0x1] post0, sg g949 39 (0, 0) [] [(.int .i64 a1.Kind), (.int .i64 a1.Owner), (.int .i64 a1.To), (.int .i64 a1.Buffer)] [], sg g953 35 (0, 0) [] [(.int .i64 0), (.int .i64 0)] [], sg g971 35 (0, 0) [] [(.int .i64 4), (.int .i64 s985)] [], h0x0, h0x1, hF]) := hm1014
    refine wpList_nil ?_
    have hm1015 : Mem w0 w1013 (cat [sg g0 T0 fr0 pre0 [v0x0, v0x1] post0, sg g953 35 (0, 0) [] [(.int .i64 0), (.int .i64 0)] [], sg g971 35 (0, 0) [] [(.int .i64 4), (.int .i64 s985)] [], h0x0, h0x1, hF]) := Mem.pick [0, 2, 3, 4, 5, 6] rfl hm1014
    refine nx ?_
    refine wp_seq ?_
    refine wp_region_lit ?_
    refine s_val (v := (.agg #[(.int .i64 4), (.int .i64 s985)])) (won rfl) rfl rfl (x_loadN (vs := [(.int .i64 4), (.int .i64 s985)]) rfl tyN_35 (ev (t := 5) (v := (.pointer (some ⟨g971, 0, none⟩))) rfl q984) (seg_cells (o' := 0) (j := 0) hm1015 (k := 2) rfl rfl rfl)) ?_
    refine s_exs (won rfl) rfl (e_store (vs := [(.int .i64 4), (.int .i64 s985)]) (o' := 0) (j := 0) rfl sz_35 (ev (t := 4) (v := (.pointer (some ⟨g953, 0, none⟩))) rfl q982) (ev (t := 42) rfl rfl) rfl rfl hm1015 (k := 1) rfl rfl rfl) ?_
    intro w1016 hm1017
    replace hm1017 : Mem w0 w1016 (cat [sg g0 T0 fr0 pre0 [v0x0, v0x1] post0, sg g953 35 (0, 0) [] [(.int .i64 4), (.int .i64 s985)] [], sg g971 35 (0, 0) [] [(.int .i64 4), (.int .i64 s985)] [], h0x0, h0x1, hF]) := hm1017
    refine wpList_nil ?_
    have hm1018 : Mem w0 w1016 (cat [sg g0 T0 fr0 pre0 [v0x0, v0x1] post0, sg g953 35 (0, 0) [] [(.int .i64 4), (.int .i64 s985)] [], h0x0, h0x1, hF]) := Mem.pick [0, 1, 3, 4, 5] rfl hm1017
    refine nx ?_
    refine wp_ret ?_
    refine xr ?_
    obtain rfl := Option.some.inj he
    refine r_ret (v := (.agg #[(.int .i64 4), (.int .i64 s985)])) (rv_one rfl (RVs.cell (cs := [(.int .i64 4), (.int .i64 s985)]) rfl q982 tyN_35 (seg_cells (o' := 0) (j := 0) hm1018 (k := 1) rfl rfl rfl) RVs.nil)) rfl ?_
    exact ⟨v0x0, h0x0, v0x1, h0x1, rfl, H0x0, H0x1, Mem.pick [0, 2, 3, 4] rfl hm1018⟩
   ·
    replace he := bifF he hb1012
    refine c_false rfl (p := ((!r1006) || ((decide (a1.Kind = 2)) && (!r1009)))) rfl rfl hb1012 ?_
    refine wp_skip ?_
    refine nx ?_
    obtain ⟨l1346, hT1348, hk1347⟩ := bindE he
    replace he := hT1348
    refine wp_seqJ (fun a w => ∃ (s1345 : (Unit)) (f : Nat → Value), l1346 = Fl.go s1345 ∧ a = fr 112 f ∧ f 0 = (.pointer (some ⟨g0, o0, none⟩)) ∧ f 3 = (.pointer (some ⟨g949, 0, none⟩)) ∧ f 4 = (.pointer (some ⟨g953, 0, none⟩)) ∧ f 5 = (.pointer (some ⟨g971, 0, none⟩)) ∧ Mem w0 w (cat [sg g0 T0 fr0 pre0 [v0x0, v0x1] post0, sg g949 39 (0, 0) [] [(.int .i64 a1.Kind), (.int .i64 a1.Owner), (.int .i64 a1.To), (.int .i64 a1.Buffer)] [], sg g953 35 (0, 0) [] [(.int .i64 0), (.int .i64 0)] [], sg g971 35 (0, 0) [] [(.int .i64 0), (.int .i64 s985)] [], h0x0, h0x1, hF])) ?_ ?_
    ·
     refine wp_seq ?_
     refine wp_region_lit ?_
     refine s_val (v := (.pointer (some ⟨g949, 0, none⟩))) (won rfl) rfl rfl (x_field rfl fa_39x0 (ev (t := 3) (v := (.pointer (some ⟨g949, 0, none⟩))) rfl q981)) ?_
     refine s_val (v := (.int .i64 a1.Kind)) (won rfl) rfl rfl (x_load rfl ty1x3 (ev (t := 43) rfl rfl) (seg_cell (o' := 0) (j := 0) hm1011 (k := 1) rfl rfl rfl)) ?_
     refine wpList_nil ?_
     refine nx ?_
     refine wp_block ?_
     refine wp_seq ?_
     refine wp_region_lit ?_
     refine s_val (v := (.bool (decide (a1.Kind = 1)))) (won rfl) rfl rfl (x_eql rfl (ev (t := 44) rfl rfl) rfl) ?_
     refine s_val (v := (.bool (decide (a1.Kind = 1)))) (won rfl) rfl rfl (x_assign rfl (ev (t := 46) rfl rfl)) ?_
     refine wpList_nil ?_
     refine nx ?_
     rcases Bool.eq_false_or_eq_true ((decide (a1.Kind = 1))) with hb1349 | hb1349
     ·
      replace he := bifT he hb1349
      refine c_true rfl (p := (decide (a1.Kind = 1))) rfl rfl hb1349 ?_
      refine wp_seq ?_
      obtain ⟨r1350, hr1350, he⟩ := bindE he
      refine wp_region_lit ?_
      refine s_val (v := (.pointer (some ⟨g0, o0, none⟩))) (won rfl) rfl rfl (x_move rfl (ev (t := 0) (v := (.pointer (some ⟨g0, o0, none⟩))) rfl q980)) ?_
      refine s_val (v := (.pointer (some ⟨g949, 1, none⟩))) (won rfl) rfl rfl (x_field rfl fa_39x1 (ev (t := 3) (v := (.pointer (some ⟨g949, 0, none⟩))) rfl q981)) ?_
      refine s_val (v := (.int .i64 a1.Owner)) (won rfl) rfl rfl (x_load rfl ty1x3 (ev (t := 48) rfl rfl) (seg_cell (o' := 0) (j := 1) hm1011 (k := 1) rfl rfl rfl)) ?_
      refine s_call (won rfl) rfl rfl (x_call rfl rfl cl_85 (map_lit (map_cons (ev (t := 47) rfl rfl) (map_cons (ev (t := 49) rfl rfl) map_nil)))) (impl_Pool_take_ok (hR := (cat [])) (hF := cat [sg g949 39 (0, 0) [] [(.int .i64 a1.Kind), (.int .i64 a1.Owner), (.int .i64 a1.To), (.int .i64 a1.Buffer)] [], sg g953 35 (0, 0) [] [(.int .i64 0), (.int .i64 0)] [], sg g971 35 (0, 0) [] [(.int .i64 0), (.int .i64 s985)] [], hF]) a0 a1.Owner H0x0 H0x1 hp0 (Mem.grp [sg g0 T0 fr0 pre0 [v0x0, v0x1] post0, h0x0, h0x1] [sg g949 39 (0, 0) [] [(.int .i64 a1.Kind), (.int .i64 a1.Owner), (.int .i64 a1.To), (.int .i64 a1.Buffer)] [], sg g953 35 (0, 0) [] [(.int .i64 0), (.int .i64 0)] [], sg g971 35 (0, 0) [] [(.int .i64 0), (.int .i64 s985)] [], hF] (Mem.pick [0, 4, 5, 1, 2, 3, 6] rfl hm1011)) hr1350) ?_
      rintro e w1359 ⟨v1352, h1354, v1356, h1358, rfl, H1353, H1357, hm1360⟩
      refine ⟨_, rfl, ?_⟩
      replace hm1360 : Mem w0 w1359 (cat [sg g0 T0 fr0 pre0 [v1352, v1356] post0, h1354, h1358, sg g949 39 (0, 0) [] [(.int .i64 a1.Kind), (.int .i64 a1.Owner), (.int .i64 a1.To), (.int .i64 a1.Buffer)] [], sg g953 35 (0, 0) [] [(.int .i64 0), (.int .i64 0)] [], sg g971 35 (0, 0) [] [(.int .i64 0), (.int .i64 s985)] [], hF]) := Mem.ung [sg g0 T0 fr0 pre0 [v1352, v1356] post0, h1354, h1358] [sg g949 39 (0, 0) [] [(.int .i64 a1.Kind), (.int .i64 a1.Owner), (.int .i64 a1.To), (.int .i64 a1.Buffer)] [], sg g953 35 (0, 0) [] [(.int .i64 0), (.int .i64 0)] [], sg g971 35 (0, 0) [] [(.int .i64 0), (.int .i64 s985)] [], hF] hm1360
      refine s_exs (won rfl) rfl (e_store (vs := [(.int .i64 r1350.1.Code), (.int .i64 r1350.1.Buffer)]) (o' := 0) (j := 0) rfl sz_35 (ev (t := 4) (v := (.pointer (some ⟨g953, 0, none⟩))) rfl q982) (ev (t := 50) rfl rfl) rfl rfl hm1360 (k := 4) rfl rfl rfl) ?_
      intro w1361 hm1362
      replace hm1362 : Mem w0 w1361 (cat [sg g0 T0 fr0 pre0 [v1352, v1356] post0, h1354, h1358, sg g949 39 (0, 0) [] [(.int .i64 a1.Kind), (.int .i64 a1.Owner), (.int .i64 a1.To), (.int .i64 a1.Buffer)] [], sg g953 35 (0, 0) [] [(.int .i64 r1350.1.Code), (.int .i64 r1350.1.Buffer)] [], sg g971 35 (0, 0) [] [(.int .i64 0), (.int .i64 s985)] [], hF]) := hm1362
      refine wpList_nil ?_
      have hm1363 : Mem w0 w1361 (cat [sg g0 T0 fr0 pre0 [v1352, v1356] post0, h1354, h1358, sg g953 35 (0, 0) [] [(.int .i64 r1350.1.Code), (.int .i64 r1350.1.Buffer)] [], hF]) := Mem.pick [0, 1, 2, 4, 6] rfl hm1362
      refine nx ?_
      refine wp_ret ?_
      refine rb ?_
      refine xr ?_
      obtain rfl := Option.some.inj he
      replace he := outE hk1347
      obtain rfl := Option.some.inj he
      refine r_ret (v := (.agg #[(.int .i64 r1350.1.Code), (.int .i64 r1350.1.Buffer)])) (rv_one rfl (RVs.cell (cs := [(.int .i64 r1350.1.Code), (.int .i64 r1350.1.Buffer)]) rfl q982 tyN_35 (seg_cells (o' := 0) (j := 0) hm1363 (k := 3) rfl rfl rfl) RVs.nil)) rfl ?_
      exact ⟨v1352, h1354, v1356, h1358, rfl, H1353, H1357, Mem.pick [0, 1, 2, 4] rfl hm1363⟩
     ·
      replace he := bifF he hb1349
      refine c_false rfl (p := (decide (a1.Kind = 1))) rfl rfl hb1349 ?_
      refine wp_seq ?_
      refine wp_region_lit ?_
      refine s_val (v := (.bool (decide (a1.Kind = 4)))) (won rfl) rfl rfl (x_eql rfl (ev (t := 44) rfl rfl) rfl) ?_
      refine s_val (v := (.bool (decide (a1.Kind = 4)))) (won rfl) rfl rfl (x_assign rfl (ev (t := 52) rfl rfl)) ?_
      refine wpList_nil ?_
      refine nx ?_
      rcases Bool.eq_false_or_eq_true ((decide (a1.Kind = 4))) with hb1364 | hb1364
      ·
       replace he := bifT he hb1364
       refine c_true rfl (p := (decide (a1.Kind = 4))) rfl rfl hb1364 ?_
       refine wp_seq ?_
       obtain ⟨r1365, hr1365, he⟩ := bindE he
       refine wp_region_lit ?_
       refine s_val (v := (.pointer (some ⟨g0, o0, none⟩))) (won rfl) rfl rfl (x_move rfl (ev (t := 0) (v := (.pointer (some ⟨g0, o0, none⟩))) rfl q980)) ?_
       refine s_val (v := (.pointer (some ⟨g949, 1, none⟩))) (won rfl) rfl rfl (x_field rfl fa_39x1 (ev (t := 3) (v := (.pointer (some ⟨g949, 0, none⟩))) rfl q981)) ?_
       refine s_val (v := (.int .i64 a1.Owner)) (won rfl) rfl rfl (x_load rfl ty1x3 (ev (t := 54) rfl rfl) (seg_cell (o' := 0) (j := 1) hm1011 (k := 1) rfl rfl rfl)) ?_
       refine s_call (won rfl) rfl rfl (x_call rfl rfl cl_65 (map_lit (map_cons (ev (t := 53) rfl rfl) (map_cons (ev (t := 55) rfl rfl) map_nil)))) (impl_Pool_held_ok F (hR := (cat [h0x0, h0x1])) (hF := cat [sg g949 39 (0, 0) [] [(.int .i64 a1.Kind), (.int .i64 a1.Owner), (.int .i64 a1.To), (.int .i64 a1.Buffer)] [], sg g953 35 (0, 0) [] [(.int .i64 0), (.int .i64 0)] [], sg g971 35 (0, 0) [] [(.int .i64 0), (.int .i64 s985)] [], h0x0, h0x1, hF]) a0 a1.Owner ((H0x0.rd w0).mono (Sub.at_ (k := 0) rfl)) ((H0x1.rd w0).mono (Sub.at_ (k := 1) rfl)) (subc (Sub.at_ (k := 3) rfl) (subc (Sub.at_ (k := 4) rfl) subn)) hp0 (Mem.grp [sg g0 T0 fr0 pre0 [v0x0, v0x1] post0] [sg g949 39 (0, 0) [] [(.int .i64 a1.Kind), (.int .i64 a1.Owner), (.int .i64 a1.To), (.int .i64 a1.Buffer)] [], sg g953 35 (0, 0) [] [(.int .i64 0), (.int .i64 0)] [], sg g971 35 (0, 0) [] [(.int .i64 0), (.int .i64 s985)] [], h0x0, h0x1, hF] (Mem.pick [0, 1, 2, 3, 4, 5, 6] rfl hm1011)) hr1365) ?_
       rintro e w1370 ⟨v1367, h1369, rfl, H1368, hm1371⟩
       refine ⟨_, rfl, ?_⟩
       replace hm1371 : Mem w0 w1370 (cat [sg g0 T0 fr0 pre0 [v0x0, v0x1] post0, h1369, sg g949 39 (0, 0) [] [(.int .i64 a1.Kind), (.int .i64 a1.Owner), (.int .i64 a1.To), (.int .i64 a1.Buffer)] [], sg g953 35 (0, 0) [] [(.int .i64 0), (.int .i64 0)] [], sg g971 35 (0, 0) [] [(.int .i64 0), (.int .i64 s985)] [], h0x0, h0x1, hF]) := Mem.ung [sg g0 T0 fr0 pre0 [v0x0, v0x1] post0, h1369] [sg g949 39 (0, 0) [] [(.int .i64 a1.Kind), (.int .i64 a1.Owner), (.int .i64 a1.To), (.int .i64 a1.Buffer)] [], sg g953 35 (0, 0) [] [(.int .i64 0), (.int .i64 0)] [], sg g971 35 (0, 0) [] [(.int .i64 0), (.int .i64 s985)] [], h0x0, h0x1, hF] hm1371
       refine s_val (v := v1367) (won rfl) rfl rfl (x_assign rfl (ev (t := 56) rfl rfl)) ?_
       refine wpList_nil ?_
       have hm1372 : Mem w0 w1370 (cat [sg g0 T0 fr0 pre0 [v0x0, v0x1] post0, h1369, sg g953 35 (0, 0) [] [(.int .i64 0), (.int .i64 0)] [], h0x0, h0x1, hF]) := Mem.pick [0, 1, 3, 5, 6, 7] rfl hm1371
       refine nx ?_
       obtain ⟨s1523, hT1525, hk1524⟩ := bindE he
       replace he := hT1525
       refine wp_seqJ (fun a w => ∃ (v1514 : Value) (h1515 : Hp) (v1518 : Value) (h1519 : Hp) (f : Nat → Value), a = fr 112 f ∧ f 4 = (.pointer (some ⟨g953, 0, none⟩)) ∧ f 6 = v1367 ∧ OwF 3 (FK.int .i64) v1514 s1523.1 h1515 ∧ OwF 3 (FK.int .i64) v1518 s1523.2 h1519 ∧ Mem w0 w (cat [sg g0 T0 fr0 pre0 [v1514, v1518] post0, sg g953 35 (0, 0) [] [(.int .i64 0), (.int .i64 0)] [], h1515, h1519, h1369, hF])) ?_ ?_
       ·
        refine wp_seq ?_
        refine wp_region_lit ?_
        refine s_val (v := v1367) (won rfl) rfl rfl (x_move rfl (ev (t := 6) rfl rfl)) ?_
        refine s_val (v := (.int .i64 (r1365.length : Int))) (won rfl) rfl rfl (x_len rfl slt_26 (ev (t := 57) rfl rfl) (H1368).sl) ?_
        refine s_val (v := (.int .i64 0)) (won rfl) rfl rfl (x_move rfl rfl) ?_
        refine wpList_nil ?_
        refine nx ?_
        refine wp_block ?_
        refine wp_fuel (I := fun k => fun a w => ∃ (s1595 : (List Int)) (s1599 : (List Int)) (s1608 : Int) (v1596 : Value) (h1597 : Hp) (v1600 : Value) (h1601 : Hp) (f : Nat → Value), impl_Pool_act_l1 F r1365 k s1595 s1599 s1608 = some s1523 ∧ a = fr 112 f ∧ f 0 = (.pointer (some ⟨g0, o0, none⟩)) ∧ f 4 = (.pointer (some ⟨g953, 0, none⟩)) ∧ f 6 = v1367 ∧ f 57 = v1367 ∧ f 58 = (.int .i64 (r1365.length : Int)) ∧ f 59 = (.int .i64 s1608) ∧ OwF 3 (FK.int .i64) v1596 s1595 h1597 ∧ OwF 3 (FK.int .i64) v1600 s1599 h1601 ∧ Mem w0 w (cat [sg g0 T0 fr0 pre0 [v1596, v1600] post0, sg g953 35 (0, 0) [] [(.int .i64 0), (.int .i64 0)] [], h1597, h1601, h1369, hF])) F _ _ ⟨a0.Free, a0.Owner, 0, v0x0, h0x0, v0x1, h0x1, _, he, rfl, q980, q982, rfl, rfl, rfl, rfl, H0x0, H0x1, Mem.pick [0, 2, 3, 4, 1, 5] rfl hm1372⟩ ?_ ?_
        ·
         rintro a w ⟨s1595, s1599, s1608, v1596, h1597, v1600, h1601, f, he, rfl, q1603, q1604, q1605, q1606, q1607, q1609, H1598, H1602, hm1637⟩
         rw [impl_Pool_act_l1] at he; exact none_no he
        ·
         rintro k a w ⟨s1595, s1599, s1608, v1596, h1597, v1600, h1601, f, he, rfl, q1603, q1604, q1605, q1606, q1607, q1609, H1598, H1602, hm1639⟩
         rw [impl_Pool_act_l1] at he
         refine wp_seq ?_
         refine wp_region_lit ?_
         refine s_val (v := (.bool (decide (s1608 < (r1365.length : Int))))) (won rfl) rfl rfl (x_lss rfl (ev (t := 59) (v := (.int .i64 s1608)) rfl q1609) (ev (t := 58) (v := (.int .i64 (r1365.length : Int))) rfl q1607)) ?_
         refine wpList_nil ?_
         refine nx ?_
         refine wp_seq ?_
         rcases Bool.eq_false_or_eq_true ((decide (s1608 < (r1365.length : Int)))) with hb1641 | hb1641
         ·
          replace he := bifT he hb1641
          refine c_true rfl (p := (decide (s1608 < (r1365.length : Int)))) rfl rfl hb1641 ?_
          refine wp_skip ?_
          refine nx ?_
          refine wp_seq ?_
          refine wp_block ?_
          refine wp_seq ?_
          obtain ⟨hg1654, he⟩ := gdE he
          refine wp_region_lit ?_
          refine s_val (v := (.pointer (some ((slA v1367).add (Int.toNat s1608 * 1))))) (won rfl) rfl rfl (x_index (d := (FK.int .i64)) rfl slt_26 (ev (t := 57) (v := v1367) rfl q1606) (ev (t := 59) (v := (.int .i64 s1608)) rfl q1609) (H1368.rd w0) hg1654.1 hg1654.2) ?_
          refine s_val (v := (.int .i64 (ix r1365 s1608))) (won rfl) rfl rfl (x_load rfl ty1x3 (ev (t := 61) rfl rfl) (RdF.cell0 (H1368.rd w0) hm1639 (Sub.at_ (k := 4) rfl) hg1654.1 hg1654.2 rfl)) ?_
          refine s_val (v := (.int .i64 (ix r1365 s1608))) (won rfl) rfl rfl (x_assign rfl (ev (t := 62) rfl rfl)) ?_
          refine wpList_nil ?_
          refine nx ?_
          obtain ⟨r1655, hr1655, he⟩ := bindE he
          refine wp_region_lit ?_
          refine s_val (v := (.pointer (some ⟨g0, o0, none⟩))) (won rfl) rfl rfl (x_move rfl (ev (t := 0) (v := (.pointer (some ⟨g0, o0, none⟩))) rfl q1603)) ?_
          refine s_val (v := (.int .i64 (ix r1365 s1608))) (won rfl) rfl rfl (x_move rfl (ev (t := 8) rfl rfl)) ?_
          refine s_call (won rfl) rfl rfl (x_call rfl rfl cl_86 (map_lit (map_cons (ev (t := 63) rfl rfl) (map_cons (ev (t := 64) rfl rfl) map_nil)))) (impl_Pool_release_ok (hR := (cat [])) (hF := cat [sg g953 35 (0, 0) [] [(.int .i64 0), (.int .i64 0)] [], h1369, hF]) (impl_Pool.mk s1595 s1599) (ix r1365 s1608) H1598 H1602 hp0 (Mem.grp [sg g0 T0 fr0 pre0 [v1596, v1600] post0, h1597, h1601] [sg g953 35 (0, 0) [] [(.int .i64 0), (.int .i64 0)] [], h1369, hF] (Mem.pick [0, 2, 3, 1, 4, 5] rfl hm1639)) hr1655) ?_
          rintro e w1664 ⟨v1657, h1659, v1661, h1663, rfl, H1658, H1662, hm1665⟩
          refine ⟨_, rfl, ?_⟩
          replace hm1665 : Mem w0 w1664 (cat [sg g0 T0 fr0 pre0 [v1657, v1661] post0, h1659, h1663, sg g953 35 (0, 0) [] [(.int .i64 0), (.int .i64 0)] [], h1369, hF]) := Mem.ung [sg g0 T0 fr0 pre0 [v1657, v1661] post0, h1659, h1663] [sg g953 35 (0, 0) [] [(.int .i64 0), (.int .i64 0)] [], h1369, hF] hm1665
          refine wpList_nil ?_
          refine nb ?_
          refine nx ?_
          refine wp_region_lit ?_
          refine s_val (v := (.int .i64 (IntKind.wrap .i64 (s1608 + 1)))) (won rfl) rfl rfl (x_add rfl (ev (t := 59) (v := (.int .i64 s1608)) rfl q1609) rfl) ?_
          refine s_val (v := (.int .i64 (IntKind.wrap .i64 (s1608 + 1)))) (won rfl) rfl rfl (x_move rfl (ev (t := 66) rfl rfl)) ?_
          refine wpList_nil ?_
          refine nx ?_
          exact ⟨r1655.Free, r1655.Owner, (IntKind.wrap .i64 (s1608 + 1)), v1657, h1659, v1661, h1663, _, he, rfl, q1603, q1604, q1605, q1606, q1607, rfl, H1658, H1662, Mem.pick [0, 3, 1, 2, 4, 5] rfl hm1665⟩
         ·
          replace he := bifF he hb1641
          refine c_false rfl (p := (decide (s1608 < (r1365.length : Int)))) rfl rfl hb1641 ?_
          refine wp_exit ?_
          refine xs ?_
          refine xs ?_
          refine xb ?_
          refine nx ?_
          obtain rfl := Option.some.inj he
          exact ⟨v1596, h1597, v1600, h1601, _, rfl, q1604, q1605, H1598, H1602, Mem.pick [0, 1, 2, 3, 4, 5] rfl hm1639⟩
       ·
        rintro a w ⟨v1514, h1515, v1518, h1519, f, rfl, q1521, q1522, H1516, H1520, hm1667⟩
        replace he := hk1524
        refine wp_seq ?_
        refine wp_region_lit ?_
        refine s_val (v := v1367) (won rfl) rfl rfl (x_move rfl (ev (t := 6) (v := v1367) rfl q1522)) ?_
        refine s_val (v := (.int .i64 (r1365.length : Int))) (won rfl) rfl rfl (x_len rfl slt_26 (ev (t := 67) rfl rfl) (H1368).sl) ?_
        refine s_val (v := (.agg #[(.int .i64 0), (.int .i64 (r1365.length : Int))])) (won rfl) rfl rfl (x_build (cells := [(.int .i64 0), (.int .i64 (r1365.length : Int))]) (zc := [.int .i64 0, .int .i64 0]) (sizes := [(0, 1), (1, 1)]) (ps := [(1, (.int .i64 (r1365.length : Int)))]) rfl zt_35 rfl uf_35 ufz_35 (pmap_lit (pmap_cons (ev (t := 68) rfl rfl) pmap_nil)) (fill_cons (cs := [(.int .i64 (r1365.length : Int))]) rfl rfl rfl fill_nil)) ?_
        refine s_exs (won rfl) rfl (e_store (vs := [(.int .i64 0), (.int .i64 (r1365.length : Int))]) (o' := 0) (j := 0) rfl sz_35 (ev (t := 4) (v := (.pointer (some ⟨g953, 0, none⟩))) rfl q1521) (ev (t := 69) rfl rfl) rfl rfl hm1667 (k := 1) rfl rfl rfl) ?_
        intro w1668 hm1669
        replace hm1669 : Mem w0 w1668 (cat [sg g0 T0 fr0 pre0 [v1514, v1518] post0, sg g953 35 (0, 0) [] [(.int .i64 0), (.int .i64 (r1365.length : Int))] [], h1515, h1519, h1369, hF]) := hm1669
        refine wpList_nil ?_
        have hm1670 : Mem w0 w1668 (cat [sg g0 T0 fr0 pre0 [v1514, v1518] post0, sg g953 35 (0, 0) [] [(.int .i64 0), (.int .i64 (r1365.length : Int))] [], h1515, h1519, hF]) := Mem.pick [0, 1, 2, 3, 5] rfl hm1669
        refine nx ?_
        refine wp_ret ?_
        refine rb ?_
        refine xr ?_
        obtain rfl := Option.some.inj he
        replace he := outE hk1347
        obtain rfl := Option.some.inj he
        refine r_ret (v := (.agg #[(.int .i64 0), (.int .i64 (r1365.length : Int))])) (rv_one rfl (RVs.cell (cs := [(.int .i64 0), (.int .i64 (r1365.length : Int))]) rfl q1521 tyN_35 (seg_cells (o' := 0) (j := 0) hm1670 (k := 1) rfl rfl rfl) RVs.nil)) rfl ?_
        exact ⟨v1514, h1515, v1518, h1519, rfl, H1516, H1520, Mem.pick [0, 2, 3, 4] rfl hm1670⟩
      ·
       replace he := bifF he hb1364
       refine c_false rfl (p := (decide (a1.Kind = 4))) rfl rfl hb1364 ?_
       refine wp_skip ?_
       refine nb ?_
       refine nx ?_
       obtain rfl := Option.some.inj he
       exact ⟨(), _, rfl, rfl, q980, q981, q982, q984, Mem.pick [0, 1, 2, 3, 4, 5, 6] rfl hm1011⟩
    ·
     rintro a w ⟨s1345, f, rfl, rfl, q1341, q1342, q1343, q1344, hm1672⟩
     replace he := goE hk1347
     refine wp_seq ?_
     refine wp_seq ?_
     obtain ⟨r1684, hr1684, he⟩ := bindE he
     obtain ⟨hg1685, he⟩ := gdE he
     refine wp_qregion (cat [sg g0 T0 fr0 pre0 [v0x0, v0x1] post0, sg g949 39 (0, 0) [] [(.int .i64 a1.Kind), (.int .i64 a1.Owner), (.int .i64 a1.To), (.int .i64 a1.Buffer)] [], sg g953 35 (0, 0) [] [(.int .i64 0), (.int .i64 0)] [], sg g971 35 (0, 0) [] [(.int .i64 0), (.int .i64 s985)] [], h0x0, h0x1, hF]) mixed (by kernel_rfl) hm1672 ?_
     refine q_val (v := (.pointer (some ⟨g949, 3, none⟩))) (won rfl) rfl rfl (fun wq hq => (x_field rfl fa_39x3 (ev (t := 3) (v := (.pointer (some ⟨g949, 0, none⟩))) rfl q1342))) ?_
     refine q_val (v := (.int .i64 a1.Buffer)) (won rfl) rfl rfl (fun wq hq => (x_load rfl ty1x3 (ev (t := 70) rfl rfl) (seg_cell (o' := 0) (j := 3) hq (k := 1) rfl rfl rfl))) ?_
     refine q_val (v := (.pointer (some ⟨g0, o0, none⟩))) (won rfl) rfl rfl (fun wq hq => (x_move rfl (ev (t := 0) (v := (.pointer (some ⟨g0, o0, none⟩))) rfl q1341))) ?_
     refine q_val (v := (.pointer (some ⟨g0, o0, none⟩))) (won rfl) rfl rfl (fun wq hq => (x_nil rfl (ev (t := 72) rfl rfl))) ?_
     refine q_val (v := (.pointer (some ⟨g0, o0 + 1, none⟩))) (won rfl) rfl rfl (fun wq hq => (x_field rfl fa_28x1 (ev (t := 73) rfl rfl))) ?_
     refine q_val (v := v0x1) (won rfl) rfl rfl (fun wq hq => (x_load rfl ty1x26 (ev (t := 74) rfl rfl) (seg_cell (o' := o0) (j := 1) hq (k := 0) rfl hp0 rfl))) ?_
     refine q_val (v := (.int .i64 (a0.Owner.length : Int))) (won rfl) rfl rfl (fun wq hq => (x_len rfl slt_26 (ev (t := 75) rfl rfl) (H0x1).sl)) ?_
     refine q_val (v := (.int .i64 (IntKind.wrap .i64 ((a0.Owner.length : Int) - 1)))) (won rfl) rfl rfl (fun wq hq => (x_sub rfl (ev (t := 76) rfl rfl) rfl)) ?_
     refine q_call (v := (.bool r1684)) (won rfl) rfl rfl (fun wq hq => (x_call rfl rfl cl_58 (map_lit (map_cons (ev (t := 71) rfl rfl) (map_cons rfl (map_cons (ev (t := 77) rfl rfl) map_nil)))))) (fun wq hq => ((impl_inRange_ok (hR := (cat [])) (hF := cat [sg g0 T0 fr0 pre0 [v0x0, v0x1] post0, sg g949 39 (0, 0) [] [(.int .i64 a1.Kind), (.int .i64 a1.Owner), (.int .i64 a1.To), (.int .i64 a1.Buffer)] [], sg g953 35 (0, 0) [] [(.int .i64 0), (.int .i64 0)] [], sg g971 35 (0, 0) [] [(.int .i64 0), (.int .i64 s985)] [], h0x0, h0x1, hF]) a1.Buffer 0 (IntKind.wrap .i64 ((a0.Owner.length : Int) - 1))  (Mem.one hq) hr1684)).mono fun e w2 h => ⟨h.1, Mem.un h.2⟩) ?_
     refine q_val (v := (.bool (!r1684))) (won rfl) rfl rfl (fun wq hq => (x_not rfl (ev (t := 78) rfl rfl))) ?_
     refine q_val (v := (.bool (!r1684))) (won rfl) rfl rfl (fun wq hq => (x_move rfl (ev (t := 79) rfl rfl))) ?_
     refine q_cval (p := (!(!r1684))) (v := (.pointer (some ⟨g0, o0, none⟩))) (won_f (j := 10) (t := 80) (q := (!r1684)) rfl rfl rfl rfl rfl) rfl rfl (fun hp wq hq => (x_move rfl (ev (t := 0) (v := (.pointer (some ⟨g0, o0, none⟩))) rfl q1341))) ?_
     refine q_cval (p := (!(!r1684))) (v := (.pointer (some ⟨g0, o0, none⟩))) (won_f (j := 10) (t := 80) (q := (!r1684)) rfl rfl rfl rfl rfl) rfl rfl (fun hp wq hq => (x_nil rfl (ev (t := 81) rfl (Eq.trans (b := cv (!(!r1684)) (.pointer (some ⟨g0, o0, none⟩))) rfl (on_c hp))))) ?_
     refine q_cval (p := (!(!r1684))) (v := (.pointer (some ⟨g0, o0 + 1, none⟩))) (won_f (j := 10) (t := 80) (q := (!r1684)) rfl rfl rfl rfl rfl) rfl rfl (fun hp wq hq => (x_field rfl fa_28x1 (ev (t := 82) rfl (Eq.trans (b := cv (!(!r1684)) (.pointer (some ⟨g0, o0, none⟩))) rfl (on_c hp))))) ?_
     refine q_cval (p := (!(!r1684))) (v := v0x1) (won_f (j := 10) (t := 80) (q := (!r1684)) rfl rfl rfl rfl rfl) rfl rfl (fun hp wq hq => (x_load rfl ty1x26 (ev (t := 83) rfl (Eq.trans (b := cv (!(!r1684)) (.pointer (some ⟨g0, o0 + 1, none⟩))) rfl (on_c hp))) (seg_cell (o' := o0) (j := 1) hq (k := 0) rfl hp0 rfl))) ?_
     refine q_cval (p := (!(!r1684))) (v := (.pointer (some ⟨g949, 3, none⟩))) (won_f (j := 10) (t := 80) (q := (!r1684)) rfl rfl rfl rfl rfl) rfl rfl (fun hp wq hq => (x_field rfl fa_39x3 (ev (t := 3) (v := (.pointer (some ⟨g949, 0, none⟩))) rfl q1342))) ?_
     refine q_cval (p := (!(!r1684))) (v := (.int .i64 a1.Buffer)) (won_f (j := 10) (t := 80) (q := (!r1684)) rfl rfl rfl rfl rfl) rfl rfl (fun hp wq hq => (x_load rfl ty1x3 (ev (t := 85) rfl (Eq.trans (b := cv (!(!r1684)) (.pointer (some ⟨g949, 3, none⟩))) rfl (on_c hp))) (seg_cell (o' := 0) (j := 3) hq (k := 1) rfl rfl rfl))) ?_
     refine q_cval (p := (!(!r1684))) (v := (.pointer (some ((slA v0x1).add (Int.toNat a1.Buffer * 1))))) (won_f (j := 10) (t := 80) (q := (!r1684)) rfl rfl rfl rfl rfl) rfl rfl (fun hp wq hq => (x_index (d := (FK.int .i64)) rfl slt_26 (ev (t := 84) rfl (Eq.trans (b := cv (!(!r1684)) v0x1) rfl (on_c hp))) (ev (t := 86) rfl (Eq.trans (b := cv (!(!r1684)) (.int .i64 a1.Buffer)) rfl (on_c hp))) (H0x1.rd w0) (hg1685 hp).1 (hg1685 hp).2)) ?_
     refine q_cval (p := (!(!r1684))) (v := (.int .i64 (ix a0.Owner a1.Buffer))) (won_f (j := 10) (t := 80) (q := (!r1684)) rfl rfl rfl rfl rfl) rfl rfl (fun hp wq hq => (x_load rfl ty1x3 (ev (t := 87) rfl (Eq.trans (b := cv (!(!r1684)) (.pointer (some ((slA v0x1).add (Int.toNat a1.Buffer * 1))))) rfl (on_c hp))) (RdF.cell0 (H0x1.rd w0) hq (Sub.at_ (k := 5) rfl) (hg1685 hp).1 (hg1685 hp).2 rfl))) ?_
     refine q_cval (p := (!(!r1684))) (v := (.pointer (some ⟨g949, 1, none⟩))) (won_f (j := 10) (t := 80) (q := (!r1684)) rfl rfl rfl rfl rfl) rfl rfl (fun hp wq hq => (x_field rfl fa_39x1 (ev (t := 3) (v := (.pointer (some ⟨g949, 0, none⟩))) rfl q1342))) ?_
     refine q_cval (p := (!(!r1684))) (v := (.int .i64 a1.Owner)) (won_f (j := 10) (t := 80) (q := (!r1684)) rfl rfl rfl rfl rfl) rfl rfl (fun hp wq hq => (x_load rfl ty1x3 (ev (t := 89) rfl (Eq.trans (b := cv (!(!r1684)) (.pointer (some ⟨g949, 1, none⟩))) rfl (on_c hp))) (seg_cell (o' := 0) (j := 1) hq (k := 1) rfl rfl rfl))) ?_
     refine q_cval (p := (!(!r1684))) (v := (.bool (!decide ((ix a0.Owner a1.Buffer) = a1.Owner)))) (won_f (j := 10) (t := 80) (q := (!r1684)) rfl rfl rfl rfl rfl) rfl rfl (fun hp wq hq => (x_neq rfl (ev (t := 88) rfl (Eq.trans (b := cv (!(!r1684)) (.int .i64 (ix a0.Owner a1.Buffer))) rfl (on_c hp))) (ev (t := 90) rfl (Eq.trans (b := cv (!(!r1684)) (.int .i64 a1.Owner)) rfl (on_c hp))))) ?_
     refine q_val (v := (.bool ((!r1684) || (!decide ((ix a0.Owner a1.Buffer) = a1.Owner))))) (won rfl) rfl rfl (fun wq hq => (x_pick_or rfl (ev (t := 80) rfl rfl) rfl (fun hq => ev rfl (Eq.trans (b := cv (!(!r1684)) (.bool (!decide ((ix a0.Owner a1.Buffer) = a1.Owner)))) rfl (on_c (not_i hq)))))) ?_
     refine wpQuiet_nil ?_
     intro w1686 hm1687
     refine nx ?_
     rcases Bool.eq_false_or_eq_true (((!r1684) || (!decide ((ix a0.Owner a1.Buffer) = a1.Owner)))) with hb1688 | hb1688
     ·
      replace he := bifT he hb1688
      refine c_true rfl (p := ((!r1684) || (!decide ((ix a0.Owner a1.Buffer) = a1.Owner)))) rfl rfl hb1688 ?_
      refine wp_seq ?_
      refine wp_region_lit ?_
      refine s_val (v := (.pointer (some ⟨g971, 0, none⟩))) (won rfl) rfl rfl (x_field rfl fa_35x0 (ev (t := 5) (v := (.pointer (some ⟨g971, 0, none⟩))) rfl q1344)) ?_
      refine s_exs (won rfl) rfl (e_store (vs := [(.int .i64 5)]) (o' := 0) (j := 0) rfl sz_3 (ev (t := 93) rfl rfl) rfl rfl rfl hm1687 (k := 3) rfl rfl rfl) ?_
      intro w1689 hm1690
      replace hm1690 : Mem w0 w1689 (cat [sg g0 T0 fr0 pre0 [v0x0, v0x1] post0, sg g949 39 (0, 0) [] [(.int .i64 a1.Kind), (.int .i64 a1.Owner), (.int .i64 a1.To), (.int .i64 a1.Buffer)] [], sg g953 35 (0, 0) [] [(.int .i64 0), (.int .i64 0)] [], sg g971 35 (0, 0) [] [(.int .i64 5), (.int .i64 s985)] [], h0x0, h0x1, hF]) := hm1690
      refine wpList_nil ?_
      have hm1691 : Mem w0 w1689 (cat [sg g0 T0 fr0 pre0 [v0x0, v0x1] post0, sg g953 35 (0, 0) [] [(.int .i64 0), (.int .i64 0)] [], sg g971 35 (0, 0) [] [(.int .i64 5), (.int .i64 s985)] [], h0x0, h0x1, hF]) := Mem.pick [0, 2, 3, 4, 5, 6] rfl hm1690
      refine nx ?_
      refine wp_seq ?_
      refine wp_region_lit ?_
      refine s_val (v := (.agg #[(.int .i64 5), (.int .i64 s985)])) (won rfl) rfl rfl (x_loadN (vs := [(.int .i64 5), (.int .i64 s985)]) rfl tyN_35 (ev (t := 5) (v := (.pointer (some ⟨g971, 0, none⟩))) rfl q1344) (seg_cells (o' := 0) (j := 0) hm1691 (k := 2) rfl rfl rfl)) ?_
      refine s_exs (won rfl) rfl (e_store (vs := [(.int .i64 5), (.int .i64 s985)]) (o' := 0) (j := 0) rfl sz_35 (ev (t := 4) (v := (.pointer (some ⟨g953, 0, none⟩))) rfl q1343) (ev (t := 94) rfl rfl) rfl rfl hm1691 (k := 1) rfl rfl rfl) ?_
      intro w1692 hm1693
      replace hm1693 : Mem w0 w1692 (cat [sg g0 T0 fr0 pre0 [v0x0, v0x1] post0, sg g953 35 (0, 0) [] [(.int .i64 5), (.int .i64 s985)] [], sg g971 35 (0, 0) [] [(.int .i64 5), (.int .i64 s985)] [], h0x0, h0x1, hF]) := hm1693
      refine wpList_nil ?_
      have hm1694 : Mem w0 w1692 (cat [sg g0 T0 fr0 pre0 [v0x0, v0x1] post0, sg g953 35 (0, 0) [] [(.int .i64 5), (.int .i64 s985)] [], h0x0, h0x1, hF]) := Mem.pick [0, 1, 3, 4, 5] rfl hm1693
      refine nx ?_
      refine wp_ret ?_
      refine xr ?_
      obtain rfl := Option.some.inj he
      refine r_ret (v := (.agg #[(.int .i64 5), (.int .i64 s985)])) (rv_one rfl (RVs.cell (cs := [(.int .i64 5), (.int .i64 s985)]) rfl q1343 tyN_35 (seg_cells (o' := 0) (j := 0) hm1694 (k := 1) rfl rfl rfl) RVs.nil)) rfl ?_
      exact ⟨v0x0, h0x0, v0x1, h0x1, rfl, H0x0, H0x1, Mem.pick [0, 2, 3, 4] rfl hm1694⟩
     ·
      replace he := bifF he hb1688
      refine c_false rfl (p := ((!r1684) || (!decide ((ix a0.Owner a1.Buffer) = a1.Owner)))) rfl rfl hb1688 ?_
      refine wp_skip ?_
      refine nx ?_
      obtain ⟨s1727, hT1729, hk1728⟩ := bindE he
      replace he := hT1729
      refine wp_seqJ (fun a w => ∃ (v1717 : Value) (h1718 : Hp) (v1722 : Value) (h1723 : Hp) (f : Nat → Value), a = fr 112 f ∧ f 4 = (.pointer (some ⟨g953, 0, none⟩)) ∧ f 5 = (.pointer (some ⟨g971, 0, none⟩)) ∧ OwF 3 (FK.int .i64) v1717 s1727.1 h1718 ∧ OwF 3 (FK.int .i64) v1722 s1727.2 h1723 ∧ Mem w0 w (cat [sg g0 T0 fr0 pre0 [v1717, v1722] post0, sg g953 35 (0, 0) [] [(.int .i64 0), (.int .i64 0)] [], sg g971 35 (0, 0) [] [(.int .i64 0), (.int .i64 s985)] [], h1718, h1723, hF])) ?_ ?_
      ·
       refine wp_seq ?_
       refine wp_region_lit ?_
       refine s_val (v := (.pointer (some ⟨g949, 0, none⟩))) (won rfl) rfl rfl (x_field rfl fa_39x0 (ev (t := 3) (v := (.pointer (some ⟨g949, 0, none⟩))) rfl q1342)) ?_
       refine s_val (v := (.int .i64 a1.Kind)) (won rfl) rfl rfl (x_load rfl ty1x3 (ev (t := 95) rfl rfl) (seg_cell (o' := 0) (j := 0) hm1687 (k := 1) rfl rfl rfl)) ?_
       refine s_val (v := (.bool (decide (a1.Kind = 2)))) (won rfl) rfl rfl (x_eql rfl (ev (t := 96) rfl rfl) rfl) ?_
       refine wpList_nil ?_
       refine nx ?_
       rcases Bool.eq_false_or_eq_true ((decide (a1.Kind = 2))) with hb1730 | hb1730
       ·
        replace he := bifT he hb1730
        refine c_true rfl (p := (decide (a1.Kind = 2))) rfl rfl hb1730 ?_
        obtain ⟨hg1732, he⟩ := gdE he
        refine wp_fit [(0, 1), (1, 1), (2, 1), (3, 1), (4, 1), (5, 1), (6, 1), (7, 1), (8, 1), (9, 2)] (fun w' => Mem w0 w' (cat [sg g0 T0 fr0 pre0 [v0x0, v0x1] post0, sg g949 39 (0, 0) [] [(.int .i64 a1.Kind), (.int .i64 a1.Owner), (.int .i64 a1.To), (.int .i64 a1.Buffer)] [], sg g953 35 (0, 0) [] [(.int .i64 0), (.int .i64 0)] [], sg g971 35 (0, 0) [] [(.int .i64 0), (.int .i64 s985)] [], h0x0, hF])) mixed (by kernel_rfl) (Mem.drew (Mem.pick [0, 1, 2, 3, 4, 6] rfl hm1687)) ?_
        have hm1731 := Mem.drew hm1687
        refine z_r (v := (.pointer (some ⟨g0, o0, none⟩))) rfl (won rfl) rfl rfl ((x_move rfl (ev (t := 0) (v := (.pointer (some ⟨g0, o0, none⟩))) rfl q1341))) ?_
        refine z_r (v := (.pointer (some ⟨g0, o0, none⟩))) rfl (won rfl) rfl rfl ((x_nil rfl (ev (t := 98) rfl rfl))) ?_
        refine z_r (v := (.pointer (some ⟨g0, o0 + 1, none⟩))) rfl (won rfl) rfl rfl ((x_field rfl fa_28x1 (ev (t := 99) rfl rfl))) ?_
        refine z_r (v := v0x1) rfl (won rfl) rfl rfl ((x_load rfl ty1x26 (ev (t := 100) rfl rfl) (seg_cell (o' := o0) (j := 1) hm1731 (k := 0) rfl hp0 rfl))) ?_
        refine z_r (v := (.pointer (some ⟨g949, 3, none⟩))) rfl (won rfl) rfl rfl ((x_field rfl fa_39x3 (ev (t := 3) (v := (.pointer (some ⟨g949, 0, none⟩))) rfl q1342))) ?_
        refine z_r (v := (.int .i64 a1.Buffer)) rfl (won rfl) rfl rfl ((x_load rfl ty1x3 (ev (t := 102) rfl rfl) (seg_cell (o' := 0) (j := 3) hm1731 (k := 1) rfl rfl rfl))) ?_
        refine z_r (v := (.pointer (some ⟨g949, 2, none⟩))) rfl (won rfl) rfl rfl ((x_field rfl fa_39x2 (ev (t := 3) (v := (.pointer (some ⟨g949, 0, none⟩))) rfl q1342))) ?_
        refine z_r (v := (.int .i64 a1.To)) rfl (won rfl) rfl rfl ((x_load rfl ty1x3 (ev (t := 104) rfl rfl) (seg_cell (o' := 0) (j := 2) hm1731 (k := 1) rfl rfl rfl))) ?_
        refine z_r (v := (.pointer (some ((slA v0x1).add (Int.toNat a1.Buffer * 1))))) rfl (won rfl) rfl rfl ((x_index (d := (FK.int .i64)) rfl slt_26 (ev (t := 101) rfl rfl) (ev (t := 103) rfl rfl) (H0x1.rd w0) hg1732.1 hg1732.2)) ?_
        refine z_exw rfl (won rfl) rfl (e_storeF (d := (FK.int .i64)) (s := a1.To) (vs := [(.int .i64 a1.To)]) (j := 0) rfl sz_3 (ev (t := 106) rfl rfl) (add_0 _).symm (ev (t := 105) rfl rfl) rfl rfl H0x1 hg1732.1 hg1732.2 rfl rfl hm1731 (k := 5) rfl) ?_
        rintro h1733 w1735 ⟨H1734, hm1736⟩
        replace hm1736 : Mem w0 w1735 (cat [sg g0 T0 fr0 pre0 [v0x0, v0x1] post0, sg g949 39 (0, 0) [] [(.int .i64 a1.Kind), (.int .i64 a1.Owner), (.int .i64 a1.To), (.int .i64 a1.Buffer)] [], sg g953 35 (0, 0) [] [(.int .i64 0), (.int .i64 0)] [], sg g971 35 (0, 0) [] [(.int .i64 0), (.int .i64 s985)] [], h0x0, h1733, hF]) := hm1736
        refine ⟨Mem.pick [0, 1, 2, 3, 4, 6] rfl hm1736, ?_⟩
        refine z_nil ?_
        have hm1737 : Mem w0 w1735 (cat [sg g0 T0 fr0 pre0 [v0x0, v0x1] post0, sg g953 35 (0, 0) [] [(.int .i64 0), (.int .i64 0)] [], sg g971 35 (0, 0) [] [(.int .i64 0), (.int .i64 s985)] [], h0x0, h1733, hF]) := Mem.pick [0, 2, 3, 4, 5, 6] rfl hm1736
        refine nx ?_
        obtain rfl := Option.some.inj he
        exact ⟨v0x0, h0x0, v0x1, h1733, _, rfl, q1343, q1344, H0x0, H1734, Mem.pick [0, 1, 2, 3, 4, 5] rfl hm1737⟩
       ·
        replace he := bifF he hb1730
        refine c_false rfl (p := (decide (a1.Kind = 2))) rfl rfl hb1730 ?_
        obtain ⟨r1738, hr1738, he⟩ := bindE he
        refine wp_region_lit ?_
        refine s_val (v := (.pointer (some ⟨g0, o0, none⟩))) (won rfl) rfl rfl (x_move rfl (ev (t := 0) (v := (.pointer (some ⟨g0, o0, none⟩))) rfl q1341)) ?_
        refine s_val (v := (.pointer (some ⟨g949, 3, none⟩))) (won rfl) rfl rfl (x_field rfl fa_39x3 (ev (t := 3) (v := (.pointer (some ⟨g949, 0, none⟩))) rfl q1342)) ?_
        refine s_val (v := (.int .i64 a1.Buffer)) (won rfl) rfl rfl (x_load rfl ty1x3 (ev (t := 108) rfl rfl) (seg_cell (o' := 0) (j := 3) hm1687 (k := 1) rfl rfl rfl)) ?_
        refine s_call (won rfl) rfl rfl (x_call rfl rfl cl_86 (map_lit (map_cons (ev (t := 107) rfl rfl) (map_cons (ev (t := 109) rfl rfl) map_nil)))) (impl_Pool_release_ok (hR := (cat [])) (hF := cat [sg g949 39 (0, 0) [] [(.int .i64 a1.Kind), (.int .i64 a1.Owner), (.int .i64 a1.To), (.int .i64 a1.Buffer)] [], sg g953 35 (0, 0) [] [(.int .i64 0), (.int .i64 0)] [], sg g971 35 (0, 0) [] [(.int .i64 0), (.int .i64 s985)] [], hF]) a0 a1.Buffer H0x0 H0x1 hp0 (Mem.grp [sg g0 T0 fr0 pre0 [v0x0, v0x1] post0, h0x0, h0x1] [sg g949 39 (0, 0) [] [(.int .i64 a1.Kind), (.int .i64 a1.Owner), (.int .i64 a1.To), (.int .i64 a1.Buffer)] [], sg g953 35 (0, 0) [] [(.int .i64 0), (.int .i64 0)] [], sg g971 35 (0, 0) [] [(.int .i64 0), (.int .i64 s985)] [], hF] (Mem.pick [0, 4, 5, 1, 2, 3, 6] rfl hm1687)) hr1738) ?_
        rintro e w1747 ⟨v1740, h1742, v1744, h1746, rfl, H1741, H1745, hm1748⟩
        refine ⟨_, rfl, ?_⟩
        replace hm1748 : Mem w0 w1747 (cat [sg g0 T0 fr0 pre0 [v1740, v1744] post0, h1742, h1746, sg g949 39 (0, 0) [] [(.int .i64 a1.Kind), (.int .i64 a1.Owner), (.int .i64 a1.To), (.int .i64 a1.Buffer)] [], sg g953 35 (0, 0) [] [(.int .i64 0), (.int .i64 0)] [], sg g971 35 (0, 0) [] [(.int .i64 0), (.int .i64 s985)] [], hF]) := Mem.ung [sg g0 T0 fr0 pre0 [v1740, v1744] post0, h1742, h1746] [sg g949 39 (0, 0) [] [(.int .i64 a1.Kind), (.int .i64 a1.Owner), (.int .i64 a1.To), (.int .i64 a1.Buffer)] [], sg g953 35 (0, 0) [] [(.int .i64 0), (.int .i64 0)] [], sg g971 35 (0, 0) [] [(.int .i64 0), (.int .i64 s985)] [], hF] hm1748
        refine wpList_nil ?_
        have hm1749 : Mem w0 w1747 (cat [sg g0 T0 fr0 pre0 [v1740, v1744] post0, h1742, h1746, sg g953 35 (0, 0) [] [(.int .i64 0), (.int .i64 0)] [], sg g971 35 (0, 0) [] [(.int .i64 0), (.int .i64 s985)] [], hF]) := Mem.pick [0, 1, 2, 4, 5, 6] rfl hm1748
        refine nx ?_
        obtain rfl := Option.some.inj he
        exact ⟨v1740, h1742, v1744, h1746, _, rfl, q1343, q1344, H1741, H1745, Mem.pick [0, 3, 4, 1, 2, 5] rfl hm1749⟩
      ·
       rintro a w ⟨v1717, h1718, v1722, h1723, f, rfl, q1725, q1726, H1719, H1724, hm1751⟩
       replace he := hk1728
       refine wp_seq ?_
       refine wp_region_lit ?_
       refine s_val (v := (.agg #[(.int .i64 0), (.int .i64 s985)])) (won rfl) rfl rfl (x_loadN (vs := [(.int .i64 0), (.int .i64 s985)]) rfl tyN_35 (ev (t := 5) (v := (.pointer (some ⟨g971, 0, none⟩))) rfl q1726) (seg_cells (o' := 0) (j := 0) hm1751 (k := 2) rfl rfl rfl)) ?_
       refine s_exs (won rfl) rfl (e_store (vs := [(.int .i64 0), (.int .i64 s985)]) (o' := 0) (j := 0) rfl sz_35 (ev (t := 4) (v := (.pointer (some ⟨g953, 0, none⟩))) rfl q1725) (ev (t := 111) rfl rfl) rfl rfl hm1751 (k := 1) rfl rfl rfl) ?_
       intro w1752 hm1753
       replace hm1753 : Mem w0 w1752 (cat [sg g0 T0 fr0 pre0 [v1717, v1722] post0, sg g953 35 (0, 0) [] [(.int .i64 0), (.int .i64 s985)] [], sg g971 35 (0, 0) [] [(.int .i64 0), (.int .i64 s985)] [], h1718, h1723, hF]) := hm1753
       refine wpList_nil ?_
       have hm1754 : Mem w0 w1752 (cat [sg g0 T0 fr0 pre0 [v1717, v1722] post0, sg g953 35 (0, 0) [] [(.int .i64 0), (.int .i64 s985)] [], h1718, h1723, hF]) := Mem.pick [0, 1, 3, 4, 5] rfl hm1753
       refine nx ?_
       refine wp_ret ?_
       obtain rfl := Option.some.inj he
       refine r_ret (v := (.agg #[(.int .i64 0), (.int .i64 s985)])) (rv_one rfl (RVs.cell (cs := [(.int .i64 0), (.int .i64 s985)]) rfl q1725 tyN_35 (seg_cells (o' := 0) (j := 0) hm1754 (k := 1) rfl rfl rfl) RVs.nil)) rfl ?_
       exact ⟨v1717, h1718, v1722, h1723, rfl, H1719, H1724, Mem.pick [0, 2, 3, 4] rfl hm1754⟩
end Go.Proofs.Ytpkdolmbhfmjcaa.FnPool
