/- What functions of the program compute, and their walks: printed. -/
import Derived.Test.YtpkdolmbhfmjcaaFnPoolT
import Derived.Test.YtpkdolmbhfmjcaaFnPoolF0
set_option linter.unusedVariables false
set_option linter.unusedSimpArgs false
set_option linter.unusedSectionVars false
namespace Go.Proofs.Ytpkdolmbhfmjcaa.FnPool
open Go.RowKit Go.Proofs.Gw
attribute [local irreducible] wpList DG wpQuiet wl
def impl_PoolRun_l1 (F : Nat) (a1 : (List impl_PoolAct)) : Nat → (List Int) → (List Int) → (List impl_PoolReply) → Int → Option ((List Int) × (List Int) × (List impl_PoolReply))
  | 0, _, _, _, _ => none
  | k + 1, s1027, s1031, s1036, s1042 => (bif (decide (s1042 < (a1.length : Int))) then gd ((0 : Int) ≤ s1042 ∧ s1042 < (a1.length : Int)) ((impl_Pool_act F (impl_Pool.mk s1027 s1031) (impl_PoolAct.mk (ix a1 s1042).Kind (ix a1 s1042).Owner (ix a1 s1042).To (ix a1 s1042).Buffer)).bind fun r1131 => gd ((0 : Int) ≤ s1042 ∧ s1042 < (s1036.length : Int)) (impl_PoolRun_l1 F a1 k r1131.2.Free r1131.2.Owner (List.set s1036 (Int.toNat s1042) r1131.1) (IntKind.wrap .i64 (s1042 + 1)))) else (some (s1027, s1031, s1036)))
def impl_PoolRun (F : Nat) (a0 : Int) (a1 : (List impl_PoolAct)) : Option (impl_Pool × (List impl_PoolReply) × Int) := (bif (decide ((4096 : Int) < (a1.length : Int))) then (some ((impl_Pool.mk ([] : List Int) ([] : List Int)), ([] : List impl_PoolReply), 2)) else (impl_NewPool F a0).bind fun r596 => (bif (!decide (r596.2 = 0)) then (some ((impl_Pool.mk ([] : List Int) ([] : List Int)), ([] : List impl_PoolReply), r596.2)) else (bif (decide ((300 : Int) < (a1.length : Int))) then (some ((impl_Pool.mk ([] : List Int) ([] : List Int)), ([] : List impl_PoolReply), 6)) else gd ((0 : Int) ≤ (a1.length : Int) ∧ (Int.toNat (a1.length : Int)) * 16 ≤ 140737488355328) ((impl_PoolRun_l1 F a1 F r596.1.Free r596.1.Owner (List.replicate (Int.toNat (a1.length : Int)) (impl_PoolReply.mk 0 0)) 0 : Option ((List Int) × (List Int) × (List impl_PoolReply))).bind fun (s904 : ((List Int) × (List Int) × (List impl_PoolReply))) => (some ((impl_Pool.mk s904.1 s904.2.1), s904.2.2, 0))))))
set_option maxHeartbeats 400000 in
set_option maxRecDepth 100000 in
theorem impl_PoolRun_ok (F : Nat) {w0 w : World} {hR hF : Hp} {v1x0 : Value} (a0 : Int) (a1 : (List impl_PoolAct)) {r : (impl_Pool × (List impl_PoolReply) × Int)} (H1x0 : RdF w0 impl_PoolAct.K v1x0 a1 hR) (hs : Sub hR hF) (hm : Mem w0 w (cat [hF])) (he : impl_PoolRun F a0 a1 = some r) :
    Calls Try.prog 12 #[(.int .i64 a0), v1x0] w (fun e w' => ∃ (v'0 : Value) (h'0 : Hp) (v'1 : Value) (h'1 : Hp) (v'2 : Value) (h'2 : Hp), e = .returned (.tuple #[(.agg #[v'0, v'1]), v'2, (.int .i64 r.2.2)]) ∧ OwF 3 (FK.int .i64) v'0 r.1.Free h'0 ∧ OwF 3 (FK.int .i64) v'1 r.1.Owner h'1 ∧ OwF 35 impl_PoolReply.K v'2 r.2.1 h'2 ∧ Mem w0 w' (cat [h'0, h'1, h'2, hF])) := by
 refine calls_fr (n := 47) Try.func12 rfl rfl rfl ?_
 unfold impl_PoolRun at he
 refine wp_seq ?_
 refine wp_region_lit ?_
 refine s_exv (won rfl) rfl rfl (e_alloc (vs := [(.slice none 0 0), (.slice none 0 0)]) rfl zt_28 rfl hm) ?_
 rintro g579 w580 hm581
 refine s_val (v := (.slice none 0 0)) (won rfl) rfl rfl (x_assign rfl rfl) ?_
 refine s_val (v := (.int .i64 0)) (won rfl) rfl rfl (x_assign rfl rfl) ?_
 refine wpList_nil ?_
 refine nx ?_
 refine wp_seq ?_
 refine wp_seq ?_
 refine wp_region_lit ?_
 refine s_val (v := v1x0) (won rfl) rfl rfl (x_move rfl (ev (t := 1) rfl rfl)) ?_
 refine s_val (v := (.int .i64 (a1.length : Int))) (won rfl) rfl rfl (x_len rfl slt_24 (ev (t := 12) rfl rfl) (H1x0).sl) ?_
 refine s_val (v := (.bool (decide ((4096 : Int) < (a1.length : Int))))) (won rfl) rfl rfl (x_gtr rfl (ev (t := 13) rfl rfl) rfl) ?_
 refine wpList_nil ?_
 refine nx ?_
 rcases Bool.eq_false_or_eq_true ((decide ((4096 : Int) < (a1.length : Int)))) with hb590 | hb590
 ·
  replace he := bifT he hb590
  refine c_true rfl (p := (decide ((4096 : Int) < (a1.length : Int)))) rfl rfl hb590 ?_
  refine wp_seq ?_
  refine wp_region_lit ?_
  refine s_val (v := (.agg #[(.slice none 0 0), (.slice none 0 0)])) (won rfl) rfl rfl (x_build (cells := [(.slice none 0 0), (.slice none 0 0)]) (zc := [.slice none 0 0, .slice none 0 0]) (sizes := [(0, 1), (1, 1)]) (ps := []) rfl zt_28 rfl uf_28 ufz_28 (pmap_lit pmap_nil) fill_nil) ?_
  refine s_exs (won rfl) rfl (e_store (vs := [(.slice none 0 0), (.slice none 0 0)]) (o' := 0) (j := 0) rfl sz_28 (ev (t := 4) rfl rfl) (ev (t := 15) rfl rfl) rfl rfl hm581 (k := 0) rfl rfl rfl) ?_
  intro w593 hm594
  replace hm594 : Mem w0 w593 (cat [sg g579 28 (0, 0) [] [(.slice none 0 0), (.slice none 0 0)] [], hF]) := hm594
  refine s_val (v := (.slice none 0 0)) (won rfl) rfl rfl (x_assign rfl rfl) ?_
  refine s_val (v := (.int .i64 2)) (won rfl) rfl rfl (x_assign rfl rfl) ?_
  refine wpList_nil ?_
  refine nx ?_
  refine wp_ret ?_
  refine xr ?_
  obtain rfl := Option.some.inj he
  refine r_ret (v := (.tuple #[(.agg #[(.slice none 0 0), (.slice none 0 0)]), (.slice none 0 0), (.int .i64 2)])) (rv_list rfl rfl (RVs.cell (cs := [(.slice none 0 0), (.slice none 0 0)]) rfl rfl tyN_28 (seg_cells (o' := 0) (j := 0) hm594 (k := 0) rfl rfl rfl) (RVs.tmp (v := (.slice none 0 0)) rfl rfl (RVs.tmp (v := (.int .i64 2)) rfl rfl RVs.nil)))) rfl ?_
  exact ⟨(.slice none 0 0), [], (.slice none 0 0), [], (.slice none 0 0), [], rfl, (OwF.nil 3 (FK.int .i64)), (OwF.nil 3 (FK.int .i64)), (OwF.nil 35 impl_PoolReply.K), Mem.pick [1000, 1001, 1002, 1] rfl hm594⟩
 ·
  replace he := bifF he hb590
  refine c_false rfl (p := (decide ((4096 : Int) < (a1.length : Int)))) rfl rfl hb590 ?_
  refine wp_skip ?_
  refine nx ?_
  refine wp_seq ?_
  obtain ⟨r596, hr596, he⟩ := bindE he
  refine wp_region_lit ?_
  refine s_val (v := (.int .i64 a0)) (won rfl) rfl rfl (x_move rfl (ev (t := 0) rfl rfl)) ?_
  refine s_call (won rfl) rfl rfl (x_call rfl rfl cl_11 (map_lit (map_cons (ev (t := 17) rfl rfl) map_nil))) (impl_NewPool_ok F (hR := (cat [])) (hF := cat [sg g579 28 (0, 0) [] [(.slice none 0 0), (.slice none 0 0)] [], hF]) a0  (Mem.one hm581) hr596) ?_
  rintro e w605 ⟨v598, h600, v602, h604, rfl, H599, H603, hm606⟩
  refine ⟨_, rfl, ?_⟩
  replace hm606 : Mem w0 w605 (cat [h600, h604, sg g579 28 (0, 0) [] [(.slice none 0 0), (.slice none 0 0)] [], hF]) := Mem.ung [h600, h604] [sg g579 28 (0, 0) [] [(.slice none 0 0), (.slice none 0 0)] [], hF] hm606
  refine s_val (v := (.tuple #[(.agg #[v598, v602]), (.int .i64 r596.2)])) (won rfl) rfl rfl (x_move rfl (ev (t := 18) rfl rfl)) ?_
  refine s_val (v := (.agg #[v598, v602])) (won rfl) rfl rfl (x_extract rfl (ev (t := 16) rfl rfl) rfl) ?_
  refine s_val (v := (.int .i64 r596.2)) (won rfl) rfl rfl (x_extract rfl (ev (t := 16) rfl rfl) rfl) ?_
  refine s_exv (won rfl) rfl rfl (e_alloc (vs := [(.slice none 0 0), (.slice none 0 0)]) rfl zt_28 rfl hm606) ?_
  rintro g609 w610 hm611
  refine s_exs (won rfl) rfl (e_store (vs := [v598, v602]) (o' := 0) (j := 0) rfl sz_28 (ev (t := 7) rfl rfl) (ev (t := 19) rfl rfl) rfl (one_cons (IsSl.one (H599).sl) (one_cons (IsSl.one (H603).sl) one_nil)) hm611 (k := 0) rfl rfl rfl) ?_
  intro w613 hm614
  replace hm614 : Mem w0 w613 (cat [sg g609 28 (0, 0) [] [v598, v602] [], h600, h604, sg g579 28 (0, 0) [] [(.slice none 0 0), (.slice none 0 0)] [], hF]) := hm614
  refine s_val (v := (.int .i64 r596.2)) (won rfl) rfl rfl (x_assign rfl (ev (t := 20) rfl rfl)) ?_
  refine wpList_nil ?_
  refine nx ?_
  refine wp_seq ?_
  refine wp_seq ?_
  refine wp_region_lit ?_
  refine s_val (v := (.int .i64 r596.2)) (won rfl) rfl rfl (x_move rfl (ev (t := 8) rfl rfl)) ?_
  refine s_val (v := (.bool (!decide (r596.2 = 0)))) (won rfl) rfl rfl (x_neq rfl (ev (t := 21) rfl rfl) rfl) ?_
  refine wpList_nil ?_
  refine nx ?_
  rcases Bool.eq_false_or_eq_true ((!decide (r596.2 = 0))) with hb622 | hb622
  ·
   replace he := bifT he hb622
   refine c_true rfl (p := (!decide (r596.2 = 0))) rfl rfl hb622 ?_
   refine wp_seq ?_
   refine wp_region_lit ?_
   refine s_val (v := (.agg #[(.slice none 0 0), (.slice none 0 0)])) (won rfl) rfl rfl (x_build (cells := [(.slice none 0 0), (.slice none 0 0)]) (zc := [.slice none 0 0, .slice none 0 0]) (sizes := [(0, 1), (1, 1)]) (ps := []) rfl zt_28 rfl uf_28 ufz_28 (pmap_lit pmap_nil) fill_nil) ?_
   refine s_val (v := (.int .i64 r596.2)) (won rfl) rfl rfl (x_move rfl (ev (t := 8) rfl rfl)) ?_
   refine s_exs (won rfl) rfl (e_store (vs := [(.slice none 0 0), (.slice none 0 0)]) (o' := 0) (j := 0) rfl sz_28 (ev (t := 4) rfl rfl) (ev (t := 23) rfl rfl) rfl rfl hm614 (k := 3) rfl rfl rfl) ?_
   intro w625 hm626
   replace hm626 : Mem w0 w625 (cat [sg g609 28 (0, 0) [] [v598, v602] [], h600, h604, sg g579 28 (0, 0) [] [(.slice none 0 0), (.slice none 0 0)] [], hF]) := hm626
   refine s_val (v := (.slice none 0 0)) (won rfl) rfl rfl (x_assign rfl rfl) ?_
   refine s_val (v := (.int .i64 r596.2)) (won rfl) rfl rfl (x_assign rfl (ev (t := 24) rfl rfl)) ?_
   refine wpList_nil ?_
   have hm628 : Mem w0 w625 (cat [sg g579 28 (0, 0) [] [(.slice none 0 0), (.slice none 0 0)] [], hF]) := Mem.pick [3, 4] rfl hm626
   refine nx ?_
   refine wp_ret ?_
   refine xr ?_
   obtain rfl := Option.some.inj he
   refine r_ret (v := (.tuple #[(.agg #[(.slice none 0 0), (.slice none 0 0)]), (.slice none 0 0), (.int .i64 r596.2)])) (rv_list rfl rfl (RVs.cell (cs := [(.slice none 0 0), (.slice none 0 0)]) rfl rfl tyN_28 (seg_cells (o' := 0) (j := 0) hm628 (k := 0) rfl rfl rfl) (RVs.tmp (v := (.slice none 0 0)) rfl rfl (RVs.tmp (v := (.int .i64 r596.2)) rfl rfl RVs.nil)))) rfl ?_
   exact ⟨(.slice none 0 0), [], (.slice none 0 0), [], (.slice none 0 0), [], rfl, (OwF.nil 3 (FK.int .i64)), (OwF.nil 3 (FK.int .i64)), (OwF.nil 35 impl_PoolReply.K), Mem.pick [1000, 1001, 1002, 1] rfl hm628⟩
  ·
   replace he := bifF he hb622
   refine c_false rfl (p := (!decide (r596.2 = 0))) rfl rfl hb622 ?_
   refine wp_skip ?_
   refine nx ?_
   refine wp_seq ?_
   refine wp_seq ?_
   refine wp_region_lit ?_
   refine s_val (v := v1x0) (won rfl) rfl rfl (x_move rfl (ev (t := 1) rfl rfl)) ?_
   refine s_val (v := (.int .i64 (a1.length : Int))) (won rfl) rfl rfl (x_len rfl slt_24 (ev (t := 25) rfl rfl) (H1x0).sl) ?_
   refine s_val (v := (.bool (decide ((300 : Int) < (a1.length : Int))))) (won rfl) rfl rfl (x_gtr rfl (ev (t := 26) rfl rfl) rfl) ?_
   refine wpList_nil ?_
   refine nx ?_
   rcases Bool.eq_false_or_eq_true ((decide ((300 : Int) < (a1.length : Int)))) with hb636 | hb636
   ·
    replace he := bifT he hb636
    refine c_true rfl (p := (decide ((300 : Int) < (a1.length : Int)))) rfl rfl hb636 ?_
    refine wp_seq ?_
    refine wp_region_lit ?_
    refine s_val (v := (.agg #[(.slice none 0 0), (.slice none 0 0)])) (won rfl) rfl rfl (x_build (cells := [(.slice none 0 0), (.slice none 0 0)]) (zc := [.slice none 0 0, .slice none 0 0]) (sizes := [(0, 1), (1, 1)]) (ps := []) rfl zt_28 rfl uf_28 ufz_28 (pmap_lit pmap_nil) fill_nil) ?_
    refine s_exs (won rfl) rfl (e_store (vs := [(.slice none 0 0), (.slice none 0 0)]) (o' := 0) (j := 0) rfl sz_28 (ev (t := 4) rfl rfl) (ev (t := 28) rfl rfl) rfl rfl hm614 (k := 3) rfl rfl rfl) ?_
    intro w639 hm640
    replace hm640 : Mem w0 w639 (cat [sg g609 28 (0, 0) [] [v598, v602] [], h600, h604, sg g579 28 (0, 0) [] [(.slice none 0 0), (.slice none 0 0)] [], hF]) := hm640
    refine s_val (v := (.slice none 0 0)) (won rfl) rfl rfl (x_assign rfl rfl) ?_
    refine s_val (v := (.int .i64 6)) (won rfl) rfl rfl (x_assign rfl rfl) ?_
    refine wpList_nil ?_
    have hm642 : Mem w0 w639 (cat [sg g579 28 (0, 0) [] [(.slice none 0 0), (.slice none 0 0)] [], hF]) := Mem.pick [3, 4] rfl hm640
    refine nx ?_
    refine wp_ret ?_
    refine xr ?_
    obtain rfl := Option.some.inj he
    refine r_ret (v := (.tuple #[(.agg #[(.slice none 0 0), (.slice none 0 0)]), (.slice none 0 0), (.int .i64 6)])) (rv_list rfl rfl (RVs.cell (cs := [(.slice none 0 0), (.slice none 0 0)]) rfl rfl tyN_28 (seg_cells (o' := 0) (j := 0) hm642 (k := 0) rfl rfl rfl) (RVs.tmp (v := (.slice none 0 0)) rfl rfl (RVs.tmp (v := (.int .i64 6)) rfl rfl RVs.nil)))) rfl ?_
    exact ⟨(.slice none 0 0), [], (.slice none 0 0), [], (.slice none 0 0), [], rfl, (OwF.nil 3 (FK.int .i64)), (OwF.nil 3 (FK.int .i64)), (OwF.nil 35 impl_PoolReply.K), Mem.pick [1000, 1001, 1002, 1] rfl hm642⟩
   ·
    replace he := bifF he hb636
    refine c_false rfl (p := (decide ((300 : Int) < (a1.length : Int)))) rfl rfl hb636 ?_
    refine wp_skip ?_
    refine nx ?_
    refine wp_seq ?_
    obtain ⟨hg643, he⟩ := gdE he
    refine wp_region_lit ?_
    refine s_val (v := v1x0) (won rfl) rfl rfl (x_move rfl (ev (t := 1) rfl rfl)) ?_
    refine s_val (v := (.int .i64 (a1.length : Int))) (won rfl) rfl rfl (x_len rfl slt_24 (ev (t := 29) rfl rfl) (H1x0).sl) ?_
    refine s_exv (won rfl) rfl rfl (e_make (d := impl_PoolReply.K) (a := (impl_PoolReply.mk 0 0)) rfl slt_31 rfl (ev (t := 30) rfl rfl) (ev (t := 30) rfl rfl) hg643.1 hg643.2 (by have := hg643; omega) hm614) ?_
    rintro p645 w647 ⟨H646, hm648⟩
    replace hm648 : Mem w0 w647 (cat [p645.2, sg g609 28 (0, 0) [] [v598, v602] [], h600, h604, sg g579 28 (0, 0) [] [(.slice none 0 0), (.slice none 0 0)] [], hF]) := hm648
    refine s_val (v := p645.1) (won rfl) rfl rfl (x_assign rfl (ev (t := 31) rfl rfl)) ?_
    refine wpList_nil ?_
    refine nx ?_
    obtain ⟨s904, hT906, hk905⟩ := bindE he
    replace he := hT906
    refine wp_seqJ (fun a w => ∃ (v892 : Value) (h893 : Hp) (v896 : Value) (h897 : Hp) (h901 : Hp) (f : Nat → Value), a = fr 47 f ∧ f 4 = (.pointer (some ⟨g579, 0, none⟩)) ∧ f 7 = (.pointer (some ⟨g609, 0, none⟩)) ∧ f 9 = p645.1 ∧ OwF 3 (FK.int .i64) v892 s904.1 h893 ∧ OwF 3 (FK.int .i64) v896 s904.2.1 h897 ∧ OwF 35 impl_PoolReply.K p645.1 s904.2.2 h901 ∧ Mem w0 w (cat [sg g579 28 (0, 0) [] [(.slice none 0 0), (.slice none 0 0)] [], sg g609 28 (0, 0) [] [v892, v896] [], h893, h897, h901, hF])) ?_ ?_
    ·
     refine wp_seq ?_
     refine wp_region_lit ?_
     refine s_val (v := v1x0) (won rfl) rfl rfl (x_move rfl (ev (t := 1) rfl rfl)) ?_
     refine s_val (v := (.int .i64 (a1.length : Int))) (won rfl) rfl rfl (x_len rfl slt_24 (ev (t := 32) rfl rfl) (H1x0).sl) ?_
     refine s_val (v := (.int .i64 0)) (won rfl) rfl rfl (x_move rfl rfl) ?_
     refine wpList_nil ?_
     refine nx ?_
     refine wp_block ?_
     refine wp_fuel (I := fun k => fun a w => ∃ (s1027 : (List Int)) (s1031 : (List Int)) (s1036 : (List impl_PoolReply)) (s1042 : Int) (v1028 : Value) (h1029 : Hp) (v1032 : Value) (h1033 : Hp) (h1037 : Hp) (f : Nat → Value), impl_PoolRun_l1 F a1 k s1027 s1031 s1036 s1042 = some s904 ∧ a = fr 47 f ∧ f 4 = (.pointer (some ⟨g579, 0, none⟩)) ∧ f 7 = (.pointer (some ⟨g609, 0, none⟩)) ∧ f 9 = p645.1 ∧ f 32 = v1x0 ∧ f 33 = (.int .i64 (a1.length : Int)) ∧ f 34 = (.int .i64 s1042) ∧ OwF 3 (FK.int .i64) v1028 s1027 h1029 ∧ OwF 3 (FK.int .i64) v1032 s1031 h1033 ∧ OwF 35 impl_PoolReply.K p645.1 s1036 h1037 ∧ Mem w0 w (cat [sg g579 28 (0, 0) [] [(.slice none 0 0), (.slice none 0 0)] [], sg g609 28 (0, 0) [] [v1028, v1032] [], h1029, h1033, h1037, hF])) F _ _ ⟨r596.1.Free, r596.1.Owner, (List.replicate (Int.toNat (a1.length : Int)) (impl_PoolReply.mk 0 0)), 0, v598, h600, v602, h604, p645.2, _, he, rfl, rfl, rfl, rfl, rfl, rfl, rfl, H599, H603, H646, Mem.pick [4, 1, 2, 3, 0, 5] rfl hm648⟩ ?_ ?_
     ·
      rintro a w ⟨s1027, s1031, s1036, s1042, v1028, h1029, v1032, h1033, h1037, f, he, rfl, q1026, q1035, q1039, q1040, q1041, q1043, H1030, H1034, H1038, hm1095⟩
      rw [impl_PoolRun_l1] at he; exact none_no he
     ·
      rintro k a w ⟨s1027, s1031, s1036, s1042, v1028, h1029, v1032, h1033, h1037, f, he, rfl, q1026, q1035, q1039, q1040, q1041, q1043, H1030, H1034, H1038, hm1097⟩
      rw [impl_PoolRun_l1] at he
      refine wp_seq ?_
      refine wp_region_lit ?_
      refine s_val (v := (.bool (decide (s1042 < (a1.length : Int))))) (won rfl) rfl rfl (x_lss rfl (ev (t := 34) (v := (.int .i64 s1042)) rfl q1043) (ev (t := 33) (v := (.int .i64 (a1.length : Int))) rfl q1041)) ?_
      refine wpList_nil ?_
      refine nx ?_
      refine wp_seq ?_
      rcases Bool.eq_false_or_eq_true ((decide (s1042 < (a1.length : Int)))) with hb1099 | hb1099
      ·
       replace he := bifT he hb1099
       refine c_true rfl (p := (decide (s1042 < (a1.length : Int)))) rfl rfl hb1099 ?_
       refine wp_skip ?_
       refine nx ?_
       refine wp_seq ?_
       refine wp_block ?_
       refine wp_seq ?_
       obtain ⟨hg1124, he⟩ := gdE he
       refine wp_region_lit ?_
       refine s_val (v := (.int .i64 s1042)) (won rfl) rfl rfl (x_move rfl (ev (t := 34) (v := (.int .i64 s1042)) rfl q1043)) ?_
       refine s_val (v := (.pointer (some ((slA v1x0).add (Int.toNat s1042 * 4))))) (won rfl) rfl rfl (x_index (d := impl_PoolAct.K) rfl slt_24 (ev (t := 32) (v := v1x0) rfl q1040) (ev (t := 34) (v := (.int .i64 s1042)) rfl q1043) H1x0 hg1124.1 hg1124.2) ?_
       refine s_val (v := (.agg #[(.int .i64 (ix a1 s1042).Kind), (.int .i64 (ix a1 s1042).Owner), (.int .i64 (ix a1 s1042).To), (.int .i64 (ix a1 s1042).Buffer)])) (won rfl) rfl rfl (x_loadN (vs := [(.int .i64 (ix a1 s1042).Kind), (.int .i64 (ix a1 s1042).Owner), (.int .i64 (ix a1 s1042).To), (.int .i64 (ix a1 s1042).Buffer)]) rfl tyN_39 (ev (t := 37) rfl rfl) (RdF.cells H1x0 hm1097 (Sub.trans hs (Sub.at_ (k := 5) rfl)) hg1124.1 hg1124.2)) ?_
       refine s_exv (won rfl) rfl rfl (e_alloc (vs := [(.int .i64 0), (.int .i64 0), (.int .i64 0), (.int .i64 0)]) rfl zt_39 rfl hm1097) ?_
       rintro g1125 w1126 hm1127
       refine s_val (v := (.int .i64 s1042)) (won rfl) rfl rfl (x_assign rfl (ev (t := 36) rfl rfl)) ?_
       refine s_exs (won rfl) rfl (e_store (vs := [(.int .i64 (ix a1 s1042).Kind), (.int .i64 (ix a1 s1042).Owner), (.int .i64 (ix a1 s1042).To), (.int .i64 (ix a1 s1042).Buffer)]) (o' := 0) (j := 0) rfl sz_39 (ev (t := 11) rfl rfl) (ev (t := 38) rfl rfl) rfl rfl hm1127 (k := 0) rfl rfl rfl) ?_
       intro w1129 hm1130
       replace hm1130 : Mem w0 w1129 (cat [sg g1125 39 (0, 0) [] [(.int .i64 (ix a1 s1042).Kind), (.int .i64 (ix a1 s1042).Owner), (.int .i64 (ix a1 s1042).To), (.int .i64 (ix a1 s1042).Buffer)] [], sg g579 28 (0, 0) [] [(.slice none 0 0), (.slice none 0 0)] [], sg g609 28 (0, 0) [] [v1028, v1032] [], h1029, h1033, h1037, hF]) := hm1130
       refine wpList_nil ?_
       refine nx ?_
       obtain ⟨r1131, hr1131, he⟩ := bindE he
       obtain ⟨hg1142, he⟩ := gdE he
       refine wp_region_lit ?_
       refine s_val (v := p645.1) (won rfl) rfl rfl (x_move rfl (ev (t := 9) (v := p645.1) rfl q1039)) ?_
       refine s_val (v := (.int .i64 s1042)) (won rfl) rfl rfl (x_move rfl (ev (t := 10) rfl rfl)) ?_
       refine s_val (v := (.agg #[(.int .i64 (ix a1 s1042).Kind), (.int .i64 (ix a1 s1042).Owner), (.int .i64 (ix a1 s1042).To), (.int .i64 (ix a1 s1042).Buffer)])) (won rfl) rfl rfl (x_loadN (vs := [(.int .i64 (ix a1 s1042).Kind), (.int .i64 (ix a1 s1042).Owner), (.int .i64 (ix a1 s1042).To), (.int .i64 (ix a1 s1042).Buffer)]) rfl tyN_39 (ev (t := 11) rfl rfl) (seg_cells (o' := 0) (j := 0) hm1130 (k := 0) rfl rfl rfl)) ?_
       refine s_call (won rfl) rfl rfl (x_call rfl rfl cl_59 (map_lit (map_cons (ev (t := 7) (v := (.pointer (some ⟨g609, 0, none⟩))) rfl q1035) (map_cons (ev (t := 41) rfl rfl) map_nil)))) (impl_Pool_act_ok F (hR := (cat [])) (hF := cat [sg g1125 39 (0, 0) [] [(.int .i64 (ix a1 s1042).Kind), (.int .i64 (ix a1 s1042).Owner), (.int .i64 (ix a1 s1042).To), (.int .i64 (ix a1 s1042).Buffer)] [], sg g579 28 (0, 0) [] [(.slice none 0 0), (.slice none 0 0)] [], h1037, hF]) (impl_Pool.mk s1027 s1031) (impl_PoolAct.mk (ix a1 s1042).Kind (ix a1 s1042).Owner (ix a1 s1042).To (ix a1 s1042).Buffer) H1030 H1034 rfl (Mem.grp [sg g609 28 (0, 0) [] [v1028, v1032] [], h1029, h1033] [sg g1125 39 (0, 0) [] [(.int .i64 (ix a1 s1042).Kind), (.int .i64 (ix a1 s1042).Owner), (.int .i64 (ix a1 s1042).To), (.int .i64 (ix a1 s1042).Buffer)] [], sg g579 28 (0, 0) [] [(.slice none 0 0), (.slice none 0 0)] [], h1037, hF] (Mem.pick [2, 3, 4, 0, 1, 5, 6] rfl hm1130)) hr1131) ?_
       rintro e w1140 ⟨v1133, h1135, v1137, h1139, rfl, H1134, H1138, hm1141⟩
       refine ⟨_, rfl, ?_⟩
       replace hm1141 : Mem w0 w1140 (cat [sg g609 28 (0, 0) [] [v1133, v1137] [], h1135, h1139, sg g1125 39 (0, 0) [] [(.int .i64 (ix a1 s1042).Kind), (.int .i64 (ix a1 s1042).Owner), (.int .i64 (ix a1 s1042).To), (.int .i64 (ix a1 s1042).Buffer)] [], sg g579 28 (0, 0) [] [(.slice none 0 0), (.slice none 0 0)] [], h1037, hF]) := Mem.ung [sg g609 28 (0, 0) [] [v1133, v1137] [], h1135, h1139] [sg g1125 39 (0, 0) [] [(.int .i64 (ix a1 s1042).Kind), (.int .i64 (ix a1 s1042).Owner), (.int .i64 (ix a1 s1042).To), (.int .i64 (ix a1 s1042).Buffer)] [], sg g579 28 (0, 0) [] [(.slice none 0 0), (.slice none 0 0)] [], h1037, hF] hm1141
       refine s_val (v := (.pointer (some ((slA p645.1).add (Int.toNat s1042 * 2))))) (won rfl) rfl rfl (x_index (d := impl_PoolReply.K) rfl slt_31 (ev (t := 39) rfl rfl) (ev (t := 40) rfl rfl) (H1038.rd w0) hg1142.1 hg1142.2) ?_
       refine s_exw (won rfl) rfl (e_storeF (d := impl_PoolReply.K) (s := r1131.1) (vs := [(.int .i64 r1131.1.Code), (.int .i64 r1131.1.Buffer)]) (j := 0) rfl sz_35 (ev (t := 43) rfl rfl) (add_0 _).symm (ev (t := 42) rfl rfl) rfl rfl H1038 hg1142.1 hg1142.2 rfl rfl hm1141 (k := 5) rfl) ?_
       rintro h1143 w1145 ⟨H1144, hm1146⟩
       replace hm1146 : Mem w0 w1145 (cat [sg g609 28 (0, 0) [] [v1133, v1137] [], h1135, h1139, sg g1125 39 (0, 0) [] [(.int .i64 (ix a1 s1042).Kind), (.int .i64 (ix a1 s1042).Owner), (.int .i64 (ix a1 s1042).To), (.int .i64 (ix a1 s1042).Buffer)] [], sg g579 28 (0, 0) [] [(.slice none 0 0), (.slice none 0 0)] [], h1143, hF]) := hm1146
       refine wpList_nil ?_
       have hm1147 : Mem w0 w1145 (cat [sg g609 28 (0, 0) [] [v1133, v1137] [], h1135, h1139, sg g579 28 (0, 0) [] [(.slice none 0 0), (.slice none 0 0)] [], h1143, hF]) := Mem.pick [0, 1, 2, 4, 5, 6] rfl hm1146
       refine nb ?_
       refine nx ?_
       refine wp_region_lit ?_
       refine s_val (v := (.int .i64 (IntKind.wrap .i64 (s1042 + 1)))) (won rfl) rfl rfl (x_add rfl (ev (t := 34) (v := (.int .i64 s1042)) rfl q1043) rfl) ?_
       refine s_val (v := (.int .i64 (IntKind.wrap .i64 (s1042 + 1)))) (won rfl) rfl rfl (x_move rfl (ev (t := 44) rfl rfl)) ?_
       refine wpList_nil ?_
       refine nx ?_
       exact ⟨r1131.2.Free, r1131.2.Owner, (List.set s1036 (Int.toNat s1042) r1131.1), (IntKind.wrap .i64 (s1042 + 1)), v1133, h1135, v1137, h1139, h1143, _, he, rfl, q1026, q1035, q1039, q1040, q1041, rfl, H1134, H1138, H1144, Mem.pick [3, 0, 1, 2, 4, 5] rfl hm1147⟩
      ·
       replace he := bifF he hb1099
       refine c_false rfl (p := (decide (s1042 < (a1.length : Int)))) rfl rfl hb1099 ?_
       refine wp_exit ?_
       refine xs ?_
       refine xs ?_
       refine xb ?_
       refine nx ?_
       obtain rfl := Option.some.inj he
       exact ⟨v1028, h1029, v1032, h1033, h1037, _, rfl, q1026, q1035, q1039, H1030, H1034, H1038, Mem.pick [0, 1, 2, 3, 4, 5] rfl hm1097⟩
    ·
     rintro a w ⟨v892, h893, v896, h897, h901, f, rfl, q890, q899, q903, H894, H898, H902, hm1149⟩
     replace he := hk905
     refine wp_seq ?_
     refine wp_region_lit ?_
     refine s_val (v := (.agg #[v892, v896])) (won rfl) rfl rfl (x_loadN (vs := [v892, v896]) rfl tyN_28 (ev (t := 7) (v := (.pointer (some ⟨g609, 0, none⟩))) rfl q899) (seg_cells (o' := 0) (j := 0) hm1149 (k := 1) rfl rfl rfl)) ?_
     refine s_val (v := p645.1) (won rfl) rfl rfl (x_move rfl (ev (t := 9) (v := p645.1) rfl q903)) ?_
     refine s_exs (won rfl) rfl (e_store (vs := [v892, v896]) (o' := 0) (j := 0) rfl sz_28 (ev (t := 4) (v := (.pointer (some ⟨g579, 0, none⟩))) rfl q890) (ev (t := 45) rfl rfl) rfl (one_cons (IsSl.one (H894).sl) (one_cons (IsSl.one (H898).sl) one_nil)) hm1149 (k := 0) rfl rfl rfl) ?_
     intro w1150 hm1151
     replace hm1151 : Mem w0 w1150 (cat [sg g579 28 (0, 0) [] [v892, v896] [], sg g609 28 (0, 0) [] [v892, v896] [], h893, h897, h901, hF]) := hm1151
     refine s_val (v := p645.1) (won rfl) rfl rfl (x_assign rfl (ev (t := 46) rfl rfl)) ?_
     refine s_val (v := (.int .i64 0)) (won rfl) rfl rfl (x_assign rfl rfl) ?_
     refine wpList_nil ?_
     have hm1152 : Mem w0 w1150 (cat [sg g579 28 (0, 0) [] [v892, v896] [], h893, h897, h901, hF]) := Mem.pick [0, 2, 3, 4, 5] rfl hm1151
     refine nx ?_
     refine wp_ret ?_
     obtain rfl := Option.some.inj he
     refine r_ret (v := (.tuple #[(.agg #[v892, v896]), p645.1, (.int .i64 0)])) (rv_list rfl rfl (RVs.cell (cs := [v892, v896]) rfl q890 tyN_28 (seg_cells (o' := 0) (j := 0) hm1152 (k := 0) rfl rfl rfl) (RVs.tmp (v := p645.1) rfl rfl (RVs.tmp (v := (.int .i64 0)) rfl rfl RVs.nil)))) rfl ?_
     exact ⟨v892, h893, v896, h897, p645.1, h901, rfl, H894, H898, H902, Mem.pick [1, 2, 3, 4] rfl hm1152⟩
def spec_l01In (a0 : Int) (a1 : Int) (a2 : Int) : Option (Bool) := (some ((decide (a1 ≤ a0)) && (decide (a0 ≤ a2))))
set_option maxHeartbeats 400000 in
set_option maxRecDepth 100000 in
theorem spec_l01In_ok {w0 w : World} {hR hF : Hp} (a0 : Int) (a1 : Int) (a2 : Int) {r : (Bool)} (hm : Mem w0 w (cat [hF])) (he : spec_l01In a0 a1 a2 = some r) :
    Calls Try.prog 87 #[(.int .i64 a0), (.int .i64 a1), (.int .i64 a2)] w (fun e w' => e = .returned (.bool r) ∧ Mem w0 w' (cat [hF])) := by
 refine calls_fr (n := 15) Try.func87 rfl rfl rfl ?_
 unfold spec_l01In at he
 refine wp_seq ?_
 refine wp_region_lit ?_
 refine s_val (v := (.bool false)) (won rfl) rfl rfl (x_assign rfl rfl) ?_
 refine wpList_nil ?_
 refine nx ?_
 refine wp_seq ?_
 refine wp_region_lit ?_
 refine s_val (v := (.int .i64 a0)) (won rfl) rfl rfl (x_move rfl (ev (t := 0) rfl rfl)) ?_
 refine s_val (v := (.int .i64 a1)) (won rfl) rfl rfl (x_move rfl (ev (t := 1) rfl rfl)) ?_
 refine s_val (v := (.bool (decide (a1 ≤ a0)))) (won rfl) rfl rfl (x_geq rfl (ev (t := 7) rfl rfl) (ev (t := 8) rfl rfl)) ?_
 refine s_val (v := (.bool (decide (a1 ≤ a0)))) (won rfl) rfl rfl (x_move rfl (ev (t := 9) rfl rfl)) ?_
 refine s_cval (p := (decide (a1 ≤ a0))) (v := (.int .i64 a0)) (won_t (j := 3) (t := 10) (q := (decide (a1 ≤ a0))) rfl rfl rfl rfl rfl) rfl rfl (fun hp => (x_move rfl (ev (t := 0) rfl rfl))) ?_
 refine s_cval (p := (decide (a1 ≤ a0))) (v := (.int .i64 a2)) (won_t (j := 3) (t := 10) (q := (decide (a1 ≤ a0))) rfl rfl rfl rfl rfl) rfl rfl (fun hp => (x_move rfl (ev (t := 2) rfl rfl))) ?_
 refine s_cval (p := (decide (a1 ≤ a0))) (v := (.bool (decide (a0 ≤ a2)))) (won_t (j := 3) (t := 10) (q := (decide (a1 ≤ a0))) rfl rfl rfl rfl rfl) rfl rfl (fun hp => (x_leq rfl (ev (t := 11) rfl (Eq.trans (b := cv (decide (a1 ≤ a0)) (.int .i64 a0)) rfl (on_c hp))) (ev (t := 12) rfl (Eq.trans (b := cv (decide (a1 ≤ a0)) (.int .i64 a2)) rfl (on_c hp))))) ?_
 refine s_val (v := (.bool ((decide (a1 ≤ a0)) && (decide (a0 ≤ a2))))) (won rfl) rfl rfl (x_pick_and rfl (ev (t := 10) rfl rfl) (fun hq => ev rfl (Eq.trans (b := cv (decide (a1 ≤ a0)) (.bool (decide (a0 ≤ a2)))) rfl (on_c hq))) rfl) ?_
 refine s_val (v := (.bool ((decide (a1 ≤ a0)) && (decide (a0 ≤ a2))))) (won rfl) rfl rfl (x_assign rfl (ev (t := 14) rfl rfl)) ?_
 refine wpList_nil ?_
 refine nx ?_
 refine wp_ret ?_
 obtain rfl := Option.some.inj he
 refine r_ret (v := (.bool ((decide (a1 ≤ a0)) && (decide (a0 ≤ a2))))) (rv_one rfl (RVs.tmp (v := (.bool ((decide (a1 ≤ a0)) && (decide (a0 ≤ a2))))) rfl rfl RVs.nil)) rfl ?_
 exact ⟨rfl, Mem.pick [0] rfl hm⟩
def spec_NewPool_l1 (F : Nat) (a0 : Int) : Nat → (List Int) → (List Int) → Int → Option ((List Int) × (List Int))
  | 0, _, _, _ => none
  | k + 1, s1032, s1037, s1042 => (bif (decide (s1042 < a0)) then gd ((s1032.length + ([s1042] : List Int).length) * 8 ≤ 140737488355328) (gd ((s1037.length + ([(-1)] : List Int).length) * 8 ≤ 140737488355328) (spec_NewPool_l1 F a0 k (s1032 ++ ([s1042] : List Int)) (s1037 ++ ([(-1)] : List Int)) (IntKind.wrap .i64 (s1042 + 1)))) else (some (s1032, s1037)))
def spec_NewPool (F : Nat) (a0 : Int) : Option (impl_Pool × Int) := (spec_l01In a0 1 32).bind fun r599 => (bif (!r599) then (some ((impl_Pool.mk ([] : List Int) ([] : List Int)), 4)) else (spec_NewPool_l1 F a0 F [] [] 0 : Option ((List Int) × (List Int))).bind fun (s895 : ((List Int) × (List Int))) => (some ((impl_Pool.mk s895.1 s895.2), 0)))
set_option maxHeartbeats 400000 in
set_option maxRecDepth 100000 in
theorem spec_NewPool_ok (F : Nat) {w0 w : World} {hR hF : Hp} (a0 : Int) {r : (impl_Pool × Int)} (hm : Mem w0 w (cat [hF])) (he : spec_NewPool F a0 = some r) :
    Calls Try.prog 60 #[(.int .i64 a0)] w (fun e w' => ∃ (v'0 : Value) (h'0 : Hp) (v'1 : Value) (h'1 : Hp), e = .returned (.tuple #[(.agg #[v'0, v'1]), (.int .i64 r.2)]) ∧ OwF 3 (FK.int .i64) v'0 r.1.Free h'0 ∧ OwF 3 (FK.int .i64) v'1 r.1.Owner h'1 ∧ Mem w0 w' (cat [h'0, h'1, hF])) := by
 refine calls_fr (n := 28) Try.func60 rfl rfl rfl ?_
 unfold spec_NewPool at he
 refine wp_seq ?_
 refine wp_region_lit ?_
 refine s_exv (won rfl) rfl rfl (e_alloc (vs := [(.slice none 0 0), (.slice none 0 0)]) rfl zt_28 rfl hm) ?_
 rintro g587 w588 hm589
 refine s_val (v := (.int .i64 0)) (won rfl) rfl rfl (x_assign rfl rfl) ?_
 refine wpList_nil ?_
 refine nx ?_
 refine wp_seq ?_
 refine wp_seq ?_
 obtain ⟨r599, hr599, he⟩ := bindE he
 refine wp_region_lit ?_
 refine s_val (v := (.int .i64 a0)) (won rfl) rfl rfl (x_move rfl (ev (t := 0) rfl rfl)) ?_
 refine s_call (won rfl) rfl rfl (x_call rfl rfl cl_87 (map_lit (map_cons (ev (t := 6) rfl rfl) (map_cons rfl (map_cons rfl map_nil))))) (spec_l01In_ok (hR := (cat [])) (hF := cat [sg g587 28 (0, 0) [] [(.slice none 0 0), (.slice none 0 0)] [], hF]) a0 1 32  (Mem.one hm589) hr599) ?_
 rintro e w600 ⟨rfl, hm601⟩
 refine ⟨_, rfl, ?_⟩
 replace hm601 : Mem w0 w600 (cat [sg g587 28 (0, 0) [] [(.slice none 0 0), (.slice none 0 0)] [], hF]) := Mem.un hm601
 refine s_val (v := (.bool (!r599))) (won rfl) rfl rfl (x_not rfl (ev (t := 7) rfl rfl)) ?_
 refine wpList_nil ?_
 refine nx ?_
 rcases Bool.eq_false_or_eq_true ((!r599)) with hb602 | hb602
 ·
  replace he := bifT he hb602
  refine c_true rfl (p := (!r599)) rfl rfl hb602 ?_
  refine wp_seq ?_
  refine wp_region_lit ?_
  refine s_val (v := (.agg #[(.slice none 0 0), (.slice none 0 0)])) (won rfl) rfl rfl (x_build (cells := [(.slice none 0 0), (.slice none 0 0)]) (zc := [.slice none 0 0, .slice none 0 0]) (sizes := [(0, 1), (1, 1)]) (ps := []) rfl zt_28 rfl uf_28 ufz_28 (pmap_lit pmap_nil) fill_nil) ?_
  refine s_exs (won rfl) rfl (e_store (vs := [(.slice none 0 0), (.slice none 0 0)]) (o' := 0) (j := 0) rfl sz_28 (ev (t := 2) rfl rfl) (ev (t := 9) rfl rfl) rfl rfl hm601 (k := 0) rfl rfl rfl) ?_
  intro w605 hm606
  replace hm606 : Mem w0 w605 (cat [sg g587 28 (0, 0) [] [(.slice none 0 0), (.slice none 0 0)] [], hF]) := hm606
  refine s_val (v := (.int .i64 4)) (won rfl) rfl rfl (x_assign rfl rfl) ?_
  refine wpList_nil ?_
  refine nx ?_
  refine wp_ret ?_
  refine xr ?_
  obtain rfl := Option.some.inj he
  refine r_ret (v := (.tuple #[(.agg #[(.slice none 0 0), (.slice none 0 0)]), (.int .i64 4)])) (rv_list rfl rfl (RVs.cell (cs := [(.slice none 0 0), (.slice none 0 0)]) rfl rfl tyN_28 (seg_cells (o' := 0) (j := 0) hm606 (k := 0) rfl rfl rfl) (RVs.tmp (v := (.int .i64 4)) rfl rfl RVs.nil))) rfl ?_
  exact ⟨(.slice none 0 0), [], (.slice none 0 0), [], rfl, (OwF.nil 3 (FK.int .i64)), (OwF.nil 3 (FK.int .i64)), Mem.pick [1000, 1001, 1] rfl hm606⟩
 ·
  replace he := bifF he hb602
  refine c_false rfl (p := (!r599)) rfl rfl hb602 ?_
  refine wp_skip ?_
  refine nx ?_
  refine wp_seq ?_
  refine wp_region_lit ?_
  refine s_val (v := (.agg #[(.slice none 0 0), (.slice none 0 0)])) (won rfl) rfl rfl (x_build (cells := [(.slice none 0 0), (.slice none 0 0)]) (zc := [.slice none 0 0, .slice none 0 0]) (sizes := [(0, 1), (1, 1)]) (ps := []) rfl zt_28 rfl uf_28 ufz_28 (pmap_lit pmap_nil) fill_nil) ?_
  refine s_exv (won rfl) rfl rfl (e_alloc (vs := [(.slice none 0 0), (.slice none 0 0)]) rfl zt_28 rfl hm601) ?_
  rintro g611 w612 hm613
  refine s_exs (won rfl) rfl (e_store (vs := [(.slice none 0 0), (.slice none 0 0)]) (o' := 0) (j := 0) rfl sz_28 (ev (t := 4) rfl rfl) (ev (t := 10) rfl rfl) rfl rfl hm613 (k := 0) rfl rfl rfl) ?_
  intro w615 hm616
  replace hm616 : Mem w0 w615 (cat [sg g611 28 (0, 0) [] [(.slice none 0 0), (.slice none 0 0)] [], sg g587 28 (0, 0) [] [(.slice none 0 0), (.slice none 0 0)] [], hF]) := hm616
  refine wpList_nil ?_
  refine nx ?_
  obtain ⟨s895, hT897, hk896⟩ := bindE he
  replace he := hT897
  refine wp_seqJ (fun a w => ∃ (v886 : Value) (h887 : Hp) (v891 : Value) (h892 : Hp) (f : Nat → Value), a = fr 28 f ∧ f 2 = (.pointer (some ⟨g587, 0, none⟩)) ∧ f 4 = (.pointer (some ⟨g611, 0, none⟩)) ∧ OwF 3 (FK.int .i64) v886 s895.1 h887 ∧ OwF 3 (FK.int .i64) v891 s895.2 h892 ∧ Mem w0 w (cat [sg g587 28 (0, 0) [] [(.slice none 0 0), (.slice none 0 0)] [], sg g611 28 (0, 0) [] [v886, v891] [], h887, h892, hF])) ?_ ?_
  ·
   refine wp_seq ?_
   refine wp_region_lit ?_
   refine s_val (v := (.int .i64 0)) (won rfl) rfl rfl (x_assign rfl rfl) ?_
   refine wpList_nil ?_
   refine nx ?_
   refine wp_block ?_
   refine wp_fuel (I := fun k => fun a w => ∃ (s1032 : (List Int)) (s1037 : (List Int)) (s1042 : Int) (v1033 : Value) (h1034 : Hp) (v1038 : Value) (h1039 : Hp) (f : Nat → Value), spec_NewPool_l1 F a0 k s1032 s1037 s1042 = some s895 ∧ a = fr 28 f ∧ f 0 = (.int .i64 a0) ∧ f 2 = (.pointer (some ⟨g587, 0, none⟩)) ∧ f 4 = (.pointer (some ⟨g611, 0, none⟩)) ∧ f 5 = (.int .i64 s1042) ∧ OwF 3 (FK.int .i64) v1033 s1032 h1034 ∧ OwF 3 (FK.int .i64) v1038 s1037 h1039 ∧ Mem w0 w (cat [sg g587 28 (0, 0) [] [(.slice none 0 0), (.slice none 0 0)] [], sg g611 28 (0, 0) [] [v1033, v1038] [], h1034, h1039, hF])) F _ _ ⟨[], [], 0, (.slice none 0 0), [], (.slice none 0 0), [], _, he, rfl, rfl, rfl, rfl, rfl, (OwF.nil 3 (FK.int .i64)), (OwF.nil 3 (FK.int .i64)), Mem.pick [1, 0, 1000, 1001, 2] rfl hm616⟩ ?_ ?_
   ·
    rintro a w ⟨s1032, s1037, s1042, v1033, h1034, v1038, h1039, f, he, rfl, q1029, q1030, q1041, q1043, H1035, H1040, hm1103⟩
    rw [spec_NewPool_l1] at he; exact none_no he
   ·
    rintro k a w ⟨s1032, s1037, s1042, v1033, h1034, v1038, h1039, f, he, rfl, q1029, q1030, q1041, q1043, H1035, H1040, hm1105⟩
    rw [spec_NewPool_l1] at he
    refine wp_seq ?_
    refine wp_seq ?_
    refine wp_region_lit ?_
    refine s_val (v := (.int .i64 s1042)) (won rfl) rfl rfl (x_move rfl (ev (t := 5) (v := (.int .i64 s1042)) rfl q1043)) ?_
    refine s_val (v := (.int .i64 a0)) (won rfl) rfl rfl (x_move rfl (ev (t := 0) (v := (.int .i64 a0)) rfl q1029)) ?_
    refine s_val (v := (.bool (decide (s1042 < a0)))) (won rfl) rfl rfl (x_lss rfl (ev (t := 11) rfl rfl) (ev (t := 12) rfl rfl)) ?_
    refine wpList_nil ?_
    refine nx ?_
    rcases Bool.eq_false_or_eq_true ((decide (s1042 < a0))) with hb1107 | hb1107
    ·
     replace he := bifT he hb1107
     refine c_true rfl (p := (decide (s1042 < a0))) rfl rfl hb1107 ?_
     refine wp_skip ?_
     refine nx ?_
     refine wp_seq ?_
     refine wp_block ?_
     refine wp_seq ?_
     obtain ⟨hg1141, he⟩ := gdE he
     refine wp_region_lit ?_
     refine s_val (v := (.pointer (some ⟨g611, 0, none⟩))) (won rfl) rfl rfl (x_field rfl fa_28x0 (ev (t := 4) (v := (.pointer (some ⟨g611, 0, none⟩))) rfl q1041)) ?_
     refine s_val (v := v1033) (won rfl) rfl rfl (x_load rfl ty1x26 (ev (t := 16) rfl rfl) (seg_cell (o' := 0) (j := 0) hm1105 (k := 1) rfl rfl rfl)) ?_
     refine s_val (v := (.int .i64 s1042)) (won rfl) rfl rfl (x_move rfl (ev (t := 5) (v := (.int .i64 s1042)) rfl q1043)) ?_
     refine s_exv (won rfl) rfl rfl (e_litp (cells := [(.int .i64 s1042)]) (ps := [(0, (.int .i64 s1042))]) rfl slt_26 (pmap_lit (pmap_cons (ev (t := 18) rfl rfl) pmap_nil)) (fun w1 => run_bslicez (cells := [(.int .i64 s1042)]) (zs := [.int .i64 0]) (zc := [.int .i64 0]) slt_26 rfl rfl (by kernel_rfl) (fill_cons (cs := [(.int .i64 s1042)]) rfl rfl rfl fill_nil) (by decide)) hm1105) ?_
     rintro g1138 w1136 hm1137
     have H1139 : OwF 3 (FK.int .i64) (.slice (some ⟨g1138, 0, none⟩) 1 1) ([s1042] : List Int) (sg g1138 3 (0, 0) [] (encs (FK.int .i64) ([s1042] : List Int)) []) := OwF.lit g1138 ([s1042] : List Int) 1 rfl (by decide)
     replace hm1137 : Mem w0 w1136 (cat [(sg g1138 3 (0, 0) [] (encs (FK.int .i64) ([s1042] : List Int)) []), sg g587 28 (0, 0) [] [(.slice none 0 0), (.slice none 0 0)] [], sg g611 28 (0, 0) [] [v1033, v1038] [], h1034, h1039, hF]) := hm1137
     refine s_exv (won rfl) rfl rfl (e_append (bytes := 8) rfl slt_26 rfl (ev (t := 17) rfl rfl) (ev (t := 19) rfl rfl) H1035 (k := 3) rfl (H1139.rd w0) (Sub.at_ (k := 0) rfl) hm1137 hg1141 (len63 hg1141 rfl)) ?_
     rintro p1143 w1145 ⟨H1144, hm1146⟩
     replace hm1146 : Mem w0 w1145 (cat [(sg g1138 3 (0, 0) [] (encs (FK.int .i64) ([s1042] : List Int)) []), sg g587 28 (0, 0) [] [(.slice none 0 0), (.slice none 0 0)] [], sg g611 28 (0, 0) [] [v1033, v1038] [], p1143.2, h1039, hF]) := hm1146
     refine s_val (v := (.pointer (some ⟨g611, 0, none⟩))) (won rfl) rfl rfl (x_field rfl fa_28x0 (ev (t := 4) (v := (.pointer (some ⟨g611, 0, none⟩))) rfl q1041)) ?_
     refine s_exs (won rfl) rfl (e_store (vs := [p1143.1]) (o' := 0) (j := 0) rfl sz_26 (ev (t := 21) rfl rfl) (ev (t := 20) rfl rfl) (IsSl.cells (H1144).sl) (one_cons (IsSl.one (H1144).sl) one_nil) hm1146 (k := 2) rfl rfl rfl) ?_
     intro w1147 hm1148
     replace hm1148 : Mem w0 w1147 (cat [(sg g1138 3 (0, 0) [] (encs (FK.int .i64) ([s1042] : List Int)) []), sg g587 28 (0, 0) [] [(.slice none 0 0), (.slice none 0 0)] [], sg g611 28 (0, 0) [] [p1143.1, v1038] [], p1143.2, h1039, hF]) := hm1148
     refine wpList_nil ?_
     have hm1149 : Mem w0 w1147 (cat [sg g587 28 (0, 0) [] [(.slice none 0 0), (.slice none 0 0)] [], sg g611 28 (0, 0) [] [p1143.1, v1038] [], p1143.2, h1039, hF]) := Mem.pick [1, 2, 3, 4, 5] rfl hm1148
     refine nx ?_
     obtain ⟨hg1155, he⟩ := gdE he
     refine wp_region_lit ?_
     refine s_val (v := (.pointer (some ⟨g611, 1, none⟩))) (won rfl) rfl rfl (x_field rfl fa_28x1 (ev (t := 4) (v := (.pointer (some ⟨g611, 0, none⟩))) rfl q1041)) ?_
     refine s_val (v := v1038) (won rfl) rfl rfl (x_load rfl ty1x26 (ev (t := 22) rfl rfl) (seg_cell (o' := 0) (j := 1) hm1149 (k := 1) rfl rfl rfl)) ?_
     refine s_exv (won rfl) rfl rfl (e_litp (cells := [(.int .i64 (-1))]) (ps := [(0, (.int .i64 (-1)))]) rfl slt_26 (pmap_lit (pmap_cons rfl pmap_nil)) (fun w1 => run_bslicez (cells := [(.int .i64 (-1))]) (zs := [.int .i64 0]) (zc := [.int .i64 0]) slt_26 rfl rfl (by kernel_rfl) (fill_cons (cs := [(.int .i64 (-1))]) rfl rfl rfl fill_nil) (by decide)) hm1149) ?_
     rintro g1152 w1150 hm1151
     have H1153 : OwF 3 (FK.int .i64) (.slice (some ⟨g1152, 0, none⟩) 1 1) ([(-1)] : List Int) (sg g1152 3 (0, 0) [] (encs (FK.int .i64) ([(-1)] : List Int)) []) := OwF.lit g1152 ([(-1)] : List Int) 1 rfl (by decide)
     replace hm1151 : Mem w0 w1150 (cat [(sg g1152 3 (0, 0) [] (encs (FK.int .i64) ([(-1)] : List Int)) []), sg g587 28 (0, 0) [] [(.slice none 0 0), (.slice none 0 0)] [], sg g611 28 (0, 0) [] [p1143.1, v1038] [], p1143.2, h1039, hF]) := hm1151
     refine s_exv (won rfl) rfl rfl (e_append (bytes := 8) rfl slt_26 rfl (ev (t := 23) rfl rfl) (ev (t := 24) rfl rfl) H1040 (k := 4) rfl (H1153.rd w0) (Sub.at_ (k := 0) rfl) hm1151 hg1155 (len63 hg1155 rfl)) ?_
     rintro p1157 w1159 ⟨H1158, hm1160⟩
     replace hm1160 : Mem w0 w1159 (cat [(sg g1152 3 (0, 0) [] (encs (FK.int .i64) ([(-1)] : List Int)) []), sg g587 28 (0, 0) [] [(.slice none 0 0), (.slice none 0 0)] [], sg g611 28 (0, 0) [] [p1143.1, v1038] [], p1143.2, p1157.2, hF]) := hm1160
     refine s_val (v := (.pointer (some ⟨g611, 1, none⟩))) (won rfl) rfl rfl (x_field rfl fa_28x1 (ev (t := 4) (v := (.pointer (some ⟨g611, 0, none⟩))) rfl q1041)) ?_
     refine s_exs (won rfl) rfl (e_store (vs := [p1157.1]) (o' := 0) (j := 1) rfl sz_26 (ev (t := 26) rfl rfl) (ev (t := 25) rfl rfl) (IsSl.cells (H1158).sl) (one_cons (IsSl.one (H1158).sl) one_nil) hm1160 (k := 2) rfl rfl rfl) ?_
     intro w1161 hm1162
     replace hm1162 : Mem w0 w1161 (cat [(sg g1152 3 (0, 0) [] (encs (FK.int .i64) ([(-1)] : List Int)) []), sg g587 28 (0, 0) [] [(.slice none 0 0), (.slice none 0 0)] [], sg g611 28 (0, 0) [] [p1143.1, p1157.1] [], p1143.2, p1157.2, hF]) := hm1162
     refine wpList_nil ?_
     have hm1163 : Mem w0 w1161 (cat [sg g587 28 (0, 0) [] [(.slice none 0 0), (.slice none 0 0)] [], sg g611 28 (0, 0) [] [p1143.1, p1157.1] [], p1143.2, p1157.2, hF]) := Mem.pick [1, 2, 3, 4, 5] rfl hm1162
     refine nb ?_
     refine nx ?_
     refine wp_region_lit ?_
     refine s_val (v := (.int .i64 s1042)) (won rfl) rfl rfl (x_move rfl (ev (t := 5) (v := (.int .i64 s1042)) rfl q1043)) ?_
     refine s_val (v := (.int .i64 (IntKind.wrap .i64 (s1042 + 1)))) (won rfl) rfl rfl (x_add rfl (ev (t := 14) rfl rfl) rfl) ?_
     refine s_val (v := (.int .i64 (IntKind.wrap .i64 (s1042 + 1)))) (won rfl) rfl rfl (x_assign rfl (ev (t := 15) rfl rfl)) ?_
     refine wpList_nil ?_
     refine nx ?_
     exact ⟨(s1032 ++ ([s1042] : List Int)), (s1037 ++ ([(-1)] : List Int)), (IntKind.wrap .i64 (s1042 + 1)), p1143.1, p1143.2, p1157.1, p1157.2, _, he, rfl, q1029, q1030, q1041, rfl, H1144, H1158, Mem.pick [0, 1, 2, 3, 4] rfl hm1163⟩
    ·
     replace he := bifF he hb1107
     refine c_false rfl (p := (decide (s1042 < a0))) rfl rfl hb1107 ?_
     refine wp_exit ?_
     refine xs ?_
     refine xs ?_
     refine xb ?_
     refine nx ?_
     obtain rfl := Option.some.inj he
     exact ⟨v1033, h1034, v1038, h1039, _, rfl, q1030, q1041, H1035, H1040, Mem.pick [0, 1, 2, 3, 4] rfl hm1105⟩
  ·
   rintro a w ⟨v886, h887, v891, h892, f, rfl, q883, q894, H888, H893, hm1165⟩
   replace he := hk896
   refine wp_seq ?_
   refine wp_region_lit ?_
   refine s_val (v := (.agg #[v886, v891])) (won rfl) rfl rfl (x_loadN (vs := [v886, v891]) rfl tyN_28 (ev (t := 4) (v := (.pointer (some ⟨g611, 0, none⟩))) rfl q894) (seg_cells (o' := 0) (j := 0) hm1165 (k := 1) rfl rfl rfl)) ?_
   refine s_exs (won rfl) rfl (e_store (vs := [v886, v891]) (o' := 0) (j := 0) rfl sz_28 (ev (t := 2) (v := (.pointer (some ⟨g587, 0, none⟩))) rfl q883) (ev (t := 27) rfl rfl) rfl (one_cons (IsSl.one (H888).sl) (one_cons (IsSl.one (H893).sl) one_nil)) hm1165 (k := 0) rfl rfl rfl) ?_
   intro w1166 hm1167
   replace hm1167 : Mem w0 w1166 (cat [sg g587 28 (0, 0) [] [v886, v891] [], sg g611 28 (0, 0) [] [v886, v891] [], h887, h892, hF]) := hm1167
   refine s_val (v := (.int .i64 0)) (won rfl) rfl rfl (x_assign rfl rfl) ?_
   refine wpList_nil ?_
   have hm1168 : Mem w0 w1166 (cat [sg g587 28 (0, 0) [] [v886, v891] [], h887, h892, hF]) := Mem.pick [0, 2, 3, 4] rfl hm1167
   refine nx ?_
   refine wp_ret ?_
   obtain rfl := Option.some.inj he
   refine r_ret (v := (.tuple #[(.agg #[v886, v891]), (.int .i64 0)])) (rv_list rfl rfl (RVs.cell (cs := [v886, v891]) rfl q883 tyN_28 (seg_cells (o' := 0) (j := 0) hm1168 (k := 0) rfl rfl rfl) (RVs.tmp (v := (.int .i64 0)) rfl rfl RVs.nil))) rfl ?_
   exact ⟨v886, h887, v891, h892, rfl, H888, H893, Mem.pick [1, 2, 3] rfl hm1168⟩
def spec_l12Own (a0 : impl_Pool) : Option (impl_Pool) := gd ((([] : List Int).length + a0.Free.length) * 8 ≤ 140737488355328) (gd ((([] : List Int).length + a0.Owner.length) * 8 ≤ 140737488355328) ((some (impl_Pool.mk (([] : List Int) ++ a0.Free) (([] : List Int) ++ a0.Owner)))))
set_option maxHeartbeats 400000 in
set_option maxRecDepth 100000 in
theorem spec_l12Own_ok {w0 w : World} {hR hF : Hp} {v0x0 : Value} {v0x1 : Value} (a0 : impl_Pool) {r : (impl_Pool)} (H0x0 : RdF w0 (FK.int .i64) v0x0 a0.Free hR) (H0x1 : RdF w0 (FK.int .i64) v0x1 a0.Owner hR) (hs : Sub hR hF) (hm : Mem w0 w (cat [hF])) (he : spec_l12Own a0 = some r) :
    Calls Try.prog 62 #[(.agg #[v0x0, v0x1])] w (fun e w' => ∃ (v'0 : Value) (h'0 : Hp) (v'1 : Value) (h'1 : Hp), e = .returned (.agg #[v'0, v'1]) ∧ OwF 3 (FK.int .i64) v'0 r.Free h'0 ∧ OwF 3 (FK.int .i64) v'1 r.Owner h'1 ∧ Mem w0 w' (cat [h'0, h'1, hF])) := by
 refine calls_fr (n := 12) Try.func62 rfl rfl rfl ?_
 unfold spec_l12Own at he
 refine wp_seq ?_
 refine wp_region_lit ?_
 refine s_exv (won rfl) rfl rfl (e_box (vs := [v0x0, v0x1]) rfl (ev (t := 0) rfl rfl) rfl hm) ?_
 rintro g2042 w2043 hm2044
 refine s_exv (won rfl) rfl rfl (e_alloc (vs := [(.slice none 0 0), (.slice none 0 0)]) rfl zt_28 rfl hm2044) ?_
 rintro g2048 w2049 hm2050
 refine wpList_nil ?_
 refine nx ?_
 refine wp_seq ?_
 obtain ⟨hg3301, he⟩ := gdE he
 obtain ⟨hg3701, he⟩ := gdE he
 refine wp_drawF (I := fun f b a w => ∃ (vs : Nat → Value) (g3003 : Nat) (p3303 : Value × Hp) (g3403 : Nat) (p3703 : Value × Hp), a = fr 12 (sel b [(0, 3), (1, 4), (2, 5), (3, 6), (4, 7), (5, 8), (6, 9), (7, 10), (8, 11)] vs f) ∧ (b 0 = true → vs 0 = (.slice (some ⟨g3003, 0, none⟩) 0 0)) ∧ (b 1 = true → vs 1 = (.pointer (some ⟨g2042, 0, none⟩))) ∧ (b 2 = true → vs 2 = v0x0) ∧ (b 3 = true → vs 3 = p3303.1) ∧ (b 4 = true → vs 4 = (.slice (some ⟨g3403, 0, none⟩) 0 0)) ∧ (b 5 = true → vs 5 = (.pointer (some ⟨g2042, 1, none⟩))) ∧ (b 6 = true → vs 6 = v0x1) ∧ (b 7 = true → vs 7 = p3703.1) ∧ (b 8 = true → vs 8 = (.agg #[p3303.1, p3703.1])) ∧ (b 0 = true → OwF 3 (FK.int .i64) (.slice (some ⟨g3003, 0, none⟩) 0 0) ([] : List Int) (sg g3003 3 (0, 0) [] (encs (FK.int .i64) ([] : List Int)) [])) ∧ (b 3 = true → OwF 3 (FK.int .i64) p3303.1 (([] : List Int) ++ a0.Free) p3303.2) ∧ (b 4 = true → OwF 3 (FK.int .i64) (.slice (some ⟨g3403, 0, none⟩) 0 0) ([] : List Int) (sg g3403 3 (0, 0) [] (encs (FK.int .i64) ([] : List Int)) [])) ∧ (b 7 = true → OwF 3 (FK.int .i64) p3703.1 (([] : List Int) ++ a0.Owner) p3703.2) ∧ Mem w0 w (cat [(bif b 9 then sg g2048 28 (0, 0) [] [p3303.1, p3703.1] [] else sg g2048 28 (0, 0) [] [(.slice none 0 0), (.slice none 0 0)] []), sg g2042 28 (0, 0) [] [v0x0, v0x1] [], hF, (bif b 3 then [] else (bif b 0 then (sg g3003 3 (0, 0) [] (encs (FK.int .i64) ([] : List Int)) []) else [])), (bif b 3 then p3303.2 else []), (bif b 7 then [] else (bif b 4 then (sg g3403 3 (0, 0) [] (encs (FK.int .i64) ([] : List Int)) []) else [])), (bif b 7 then p3703.2 else [])])) mixed (by kernel_rfl) ⟨fun _ => undef, 0, (undef, []), 0, (undef, []), (by rw [sel_false]), fun h => fno h, fun h => fno h, fun h => fno h, fun h => fno h, fun h => fno h, fun h => fno h, fun h => fno h, fun h => fno h, fun h => fno h, fun h => fno h, fun h => fno h, fun h => fno h, fun h => fno h, Mem.drew (Mem.pick [0, 1, 2, 1000, 1001, 1002, 1003] rfl hm2050)⟩ (steps_cons (i := 0) ?_ (steps_cons (i := 1) ?_ (steps_cons (i := 2) ?_ (steps_cons (i := 3) ?_ (steps_cons (i := 4) ?_ (steps_cons (i := 5) ?_ (steps_cons (i := 6) ?_ (steps_cons (i := 7) ?_ (steps_cons (i := 8) ?_ (steps_cons (i := 9) ?_ steps_nil)))))))))) ?_
 ·
  intro b a w hI hbi hn hc K hK
  obtain ⟨vs, g3003, p3303, g3403, p3703, ha, y0, y1, y2, y3, y4, y5, y6, y7, y8, H3004, H3304, H3404, H3704, hm⟩ := hI
  subst ha
  have b3 : b 3 = false := later (j := 3) hc rfl (i := 0) (da rfl) hbi
  have b7 : b 7 = false := later (j := 7) hc rfl (i := 3) (da rfl) b3
  have b8 : b 8 = false := later (j := 8) hc rfl (i := 3) (da rfl) b3
  have b9 : b 9 = false := later (j := 9) hc rfl (i := 0) (da rfl) hbi
  have hm4001 : Mem w0 w (cat [sg g2048 28 (0, 0) [] [(.slice none 0 0), (.slice none 0 0)] [], sg g2042 28 (0, 0) [] [v0x0, v0x1] [], hF, (bif b 4 then (sg g3403 3 (0, 0) [] (encs (FK.int .i64) ([] : List Int)) []) else [])]) := Mem.pick [0, 1, 2, 5] rfl (Mem.cg (B := [sg g2048 28 (0, 0) [] [(.slice none 0 0), (.slice none 0 0)] [], sg g2042 28 (0, 0) [] [v0x0, v0x1] [], hF, [], [], (bif b 4 then (sg g3403 3 (0, 0) [] (encs (FK.int .i64) ([] : List Int)) []) else []), []]) (cat_cons (off_ b9 rfl) (cat_cons rfl (cat_cons rfl (cat_cons (off_ b3 (off_ hbi rfl)) (cat_cons (off_ b3 rfl) (cat_cons (off_ b7 rfl) (cat_cons (off_ b7 rfl) rfl))))))) hm)
  refine e_exv (i := 0) hbi rfl rfl (won rfl) rfl rfl (e_litp (cells := []) (ps := []) rfl slt_26 (pmap_lit pmap_nil) (fun w1 => run_bslice0 slt_26) hm4001) ?_
  rintro g3003 w3001 hm3002
  have H3004 : OwF 3 (FK.int .i64) (.slice (some ⟨g3003, 0, none⟩) 0 0) ([] : List Int) (sg g3003 3 (0, 0) [] (encs (FK.int .i64) ([] : List Int)) []) := OwF.lit g3003 ([] : List Int) 0 rfl (by decide)
  replace hm3002 : Mem w0 w3001 (cat [(sg g3003 3 (0, 0) [] (encs (FK.int .i64) ([] : List Int)) []), sg g2048 28 (0, 0) [] [(.slice none 0 0), (.slice none 0 0)] [], sg g2042 28 (0, 0) [] [v0x0, v0x1] [], hF, (bif b 4 then (sg g3403 3 (0, 0) [] (encs (FK.int .i64) ([] : List Int)) []) else [])]) := hm3002
  exact hK _ _ ⟨_, g3003, p3303, g3403, p3703, rfl, fun _ => rfl, y1, y2, y3, y4, y5, y6, y7, y8, fun _ => H3004, H3304, H3404, H3704, Mem.gc (A := [sg g2048 28 (0, 0) [] [(.slice none 0 0), (.slice none 0 0)] [], sg g2042 28 (0, 0) [] [v0x0, v0x1] [], hF, (sg g3003 3 (0, 0) [] (encs (FK.int .i64) ([] : List Int)) []), [], (bif b 4 then (sg g3403 3 (0, 0) [] (encs (FK.int .i64) ([] : List Int)) []) else []), []]) (cat_cons (off_ b9 rfl) (cat_cons rfl (cat_cons rfl (cat_cons (off_ b3 (on_ rfl rfl)) (cat_cons (off_ b3 rfl) (cat_cons (off_ b7 rfl) (cat_cons (off_ b7 rfl) rfl))))))) (Mem.pick [1, 2, 3, 0, 1004, 4, 1006] rfl hm3002)⟩
 ·
  intro b a w hI hbi hn hc K hK
  obtain ⟨vs, g3003, p3303, g3403, p3703, ha, y0, y1, y2, y3, y4, y5, y6, y7, y8, H3004, H3304, H3404, H3704, hm⟩ := hI
  subst ha
  have b2 : b 2 = false := later (j := 2) hc rfl (i := 1) (da rfl) hbi
  have b3 : b 3 = false := later (j := 3) hc rfl (i := 2) (da rfl) b2
  have b7 : b 7 = false := later (j := 7) hc rfl (i := 3) (da rfl) b3
  have b8 : b 8 = false := later (j := 8) hc rfl (i := 3) (da rfl) b3
  have b9 : b 9 = false := later (j := 9) hc rfl (i := 1) (da rfl) hbi
  have hm4004 : Mem w0 w (cat [sg g2048 28 (0, 0) [] [(.slice none 0 0), (.slice none 0 0)] [], sg g2042 28 (0, 0) [] [v0x0, v0x1] [], hF, (bif b 0 then (sg g3003 3 (0, 0) [] (encs (FK.int .i64) ([] : List Int)) []) else []), (bif b 4 then (sg g3403 3 (0, 0) [] (encs (FK.int .i64) ([] : List Int)) []) else [])]) := Mem.pick [0, 1, 2, 3, 5] rfl (Mem.cg (B := [sg g2048 28 (0, 0) [] [(.slice none 0 0), (.slice none 0 0)] [], sg g2042 28 (0, 0) [] [v0x0, v0x1] [], hF, (bif b 0 then (sg g3003 3 (0, 0) [] (encs (FK.int .i64) ([] : List Int)) []) else []), [], (bif b 4 then (sg g3403 3 (0, 0) [] (encs (FK.int .i64) ([] : List Int)) []) else []), []]) (cat_cons (off_ b9 rfl) (cat_cons rfl (cat_cons rfl (cat_cons (off_ b3 rfl) (cat_cons (off_ b3 rfl) (cat_cons (off_ b7 rfl) (cat_cons (off_ b7 rfl) rfl))))))) hm)
  refine e_val (i := 1) hbi rfl rfl (v := (.pointer (some ⟨g2042, 0, none⟩))) (won rfl) rfl rfl (x_field rfl fa_28x0 (ev (t := 1) (v := (.pointer (some ⟨g2042, 0, none⟩))) rfl ((sel_no rfl).trans rfl))) ?_
  exact hK _ _ ⟨_, g3003, p3303, g3403, p3703, rfl, y0, fun _ => rfl, y2, y3, y4, y5, y6, y7, y8, H3004, H3304, H3404, H3704, Mem.gc (A := [sg g2048 28 (0, 0) [] [(.slice none 0 0), (.slice none 0 0)] [], sg g2042 28 (0, 0) [] [v0x0, v0x1] [], hF, (bif b 0 then (sg g3003 3 (0, 0) [] (encs (FK.int .i64) ([] : List Int)) []) else []), [], (bif b 4 then (sg g3403 3 (0, 0) [] (encs (FK.int .i64) ([] : List Int)) []) else []), []]) (cat_cons (off_ b9 rfl) (cat_cons rfl (cat_cons rfl (cat_cons (off_ b3 rfl) (cat_cons (off_ b3 rfl) (cat_cons (off_ b7 rfl) (cat_cons (off_ b7 rfl) rfl))))))) (Mem.pick [0, 1, 2, 3, 1004, 4, 1006] rfl hm4004)⟩
 ·
  intro b a w hI hbi hn hc K hK
  obtain ⟨vs, g3003, p3303, g3403, p3703, ha, y0, y1, y2, y3, y4, y5, y6, y7, y8, H3004, H3304, H3404, H3704, hm⟩ := hI
  subst ha
  have b1 : b 1 = true := hn 1 (da rfl)
  have b3 : b 3 = false := later (j := 3) hc rfl (i := 2) (da rfl) hbi
  have b7 : b 7 = false := later (j := 7) hc rfl (i := 3) (da rfl) b3
  have b8 : b 8 = false := later (j := 8) hc rfl (i := 3) (da rfl) b3
  have b9 : b 9 = false := later (j := 9) hc rfl (i := 2) (da rfl) hbi
  have hm4007 : Mem w0 w (cat [sg g2048 28 (0, 0) [] [(.slice none 0 0), (.slice none 0 0)] [], sg g2042 28 (0, 0) [] [v0x0, v0x1] [], hF, (bif b 0 then (sg g3003 3 (0, 0) [] (encs (FK.int .i64) ([] : List Int)) []) else []), (bif b 4 then (sg g3403 3 (0, 0) [] (encs (FK.int .i64) ([] : List Int)) []) else [])]) := Mem.pick [0, 1, 2, 3, 5] rfl (Mem.cg (B := [sg g2048 28 (0, 0) [] [(.slice none 0 0), (.slice none 0 0)] [], sg g2042 28 (0, 0) [] [v0x0, v0x1] [], hF, (bif b 0 then (sg g3003 3 (0, 0) [] (encs (FK.int .i64) ([] : List Int)) []) else []), [], (bif b 4 then (sg g3403 3 (0, 0) [] (encs (FK.int .i64) ([] : List Int)) []) else []), []]) (cat_cons (off_ b9 rfl) (cat_cons rfl (cat_cons rfl (cat_cons (off_ b3 rfl) (cat_cons (off_ b3 rfl) (cat_cons (off_ b7 rfl) (cat_cons (off_ b7 rfl) rfl))))))) hm)
  refine e_val (i := 2) hbi rfl rfl (v := v0x0) (won rfl) rfl rfl (x_load rfl ty1x26 (ev (t := 4) (v := (.pointer (some ⟨g2042, 0, none⟩))) rfl ((sel_on (p := (1, 4)) rfl b1).trans (y1 b1))) (seg_cell (o' := 0) (j := 0) hm4007 (k := 1) rfl rfl rfl)) ?_
  exact hK _ _ ⟨_, g3003, p3303, g3403, p3703, rfl, y0, y1, fun _ => rfl, y3, y4, y5, y6, y7, y8, H3004, H3304, H3404, H3704, Mem.gc (A := [sg g2048 28 (0, 0) [] [(.slice none 0 0), (.slice none 0 0)] [], sg g2042 28 (0, 0) [] [v0x0, v0x1] [], hF, (bif b 0 then (sg g3003 3 (0, 0) [] (encs (FK.int .i64) ([] : List Int)) []) else []), [], (bif b 4 then (sg g3403 3 (0, 0) [] (encs (FK.int .i64) ([] : List Int)) []) else []), []]) (cat_cons (off_ b9 rfl) (cat_cons rfl (cat_cons rfl (cat_cons (off_ b3 rfl) (cat_cons (off_ b3 rfl) (cat_cons (off_ b7 rfl) (cat_cons (off_ b7 rfl) rfl))))))) (Mem.pick [0, 1, 2, 3, 1004, 4, 1006] rfl hm4007)⟩
 ·
  intro b a w hI hbi hn hc K hK
  obtain ⟨vs, g3003, p3303, g3403, p3703, ha, y0, y1, y2, y3, y4, y5, y6, y7, y8, H3004, H3304, H3404, H3704, hm⟩ := hI
  subst ha
  have b0 : b 0 = true := hn 0 (da rfl)
  have b2 : b 2 = true := hn 2 (da rfl)
  have b1 : b 1 = true := hc 2 _ rfl b2 1 (da rfl)
  have b7 : b 7 = false := later (j := 7) hc rfl (i := 3) (da rfl) hbi
  have b8 : b 8 = false := later (j := 8) hc rfl (i := 3) (da rfl) hbi
  have b9 : b 9 = false := later (j := 9) hc rfl (i := 3) (da rfl) hbi
  have H3004 := H3004 b0
  have hm4010 : Mem w0 w (cat [sg g2048 28 (0, 0) [] [(.slice none 0 0), (.slice none 0 0)] [], sg g2042 28 (0, 0) [] [v0x0, v0x1] [], hF, (sg g3003 3 (0, 0) [] (encs (FK.int .i64) ([] : List Int)) []), (bif b 4 then (sg g3403 3 (0, 0) [] (encs (FK.int .i64) ([] : List Int)) []) else [])]) := Mem.pick [0, 1, 2, 3, 5] rfl (Mem.cg (B := [sg g2048 28 (0, 0) [] [(.slice none 0 0), (.slice none 0 0)] [], sg g2042 28 (0, 0) [] [v0x0, v0x1] [], hF, (sg g3003 3 (0, 0) [] (encs (FK.int .i64) ([] : List Int)) []), [], (bif b 4 then (sg g3403 3 (0, 0) [] (encs (FK.int .i64) ([] : List Int)) []) else []), []]) (cat_cons (off_ b9 rfl) (cat_cons rfl (cat_cons rfl (cat_cons (off_ hbi (on_ b0 rfl)) (cat_cons (off_ hbi rfl) (cat_cons (off_ b7 rfl) (cat_cons (off_ b7 rfl) rfl))))))) hm)
  refine e_exv (i := 3) hbi rfl rfl (won rfl) rfl rfl (e_append (bytes := 8) rfl slt_26 rfl (ev (t := 3) (v := (.slice (some ⟨g3003, 0, none⟩) 0 0)) rfl ((sel_on (p := (0, 3)) rfl b0).trans (y0 b0))) (ev (t := 5) (v := v0x0) rfl ((sel_on (p := (2, 5)) rfl b2).trans (y2 b2))) H3004 (k := 3) rfl H0x0 (Sub.trans hs (Sub.at_ (k := 2) rfl)) hm4010 hg3301 (len63 hg3301 rfl)) ?_
  rintro p3303 w3305 ⟨H3304, hm3306⟩
  replace hm3306 : Mem w0 w3305 (cat [sg g2048 28 (0, 0) [] [(.slice none 0 0), (.slice none 0 0)] [], sg g2042 28 (0, 0) [] [v0x0, v0x1] [], hF, p3303.2, (bif b 4 then (sg g3403 3 (0, 0) [] (encs (FK.int .i64) ([] : List Int)) []) else [])]) := hm3306
  exact hK _ _ ⟨_, g3003, p3303, g3403, p3703, rfl, y0, y1, y2, fun _ => rfl, y4, y5, y6, y7, fun hb => ab b8 hb, fun _ => H3004, fun _ => H3304, H3404, H3704, Mem.gc (A := [sg g2048 28 (0, 0) [] [(.slice none 0 0), (.slice none 0 0)] [], sg g2042 28 (0, 0) [] [v0x0, v0x1] [], hF, [], p3303.2, (bif b 4 then (sg g3403 3 (0, 0) [] (encs (FK.int .i64) ([] : List Int)) []) else []), []]) (cat_cons (off_ b9 rfl) (cat_cons rfl (cat_cons rfl (cat_cons (on_ rfl rfl) (cat_cons (on_ rfl rfl) (cat_cons (off_ b7 rfl) (cat_cons (off_ b7 rfl) rfl))))))) (Mem.pick [0, 1, 2, 1003, 3, 4, 1006] rfl hm3306)⟩
 ·
  intro b a w hI hbi hn hc K hK
  obtain ⟨vs, g3003, p3303, g3403, p3703, ha, y0, y1, y2, y3, y4, y5, y6, y7, y8, H3004, H3304, H3404, H3704, hm⟩ := hI
  subst ha
  have b7 : b 7 = false := later (j := 7) hc rfl (i := 4) (da rfl) hbi
  have b8 : b 8 = false := later (j := 8) hc rfl (i := 7) (da rfl) b7
  have b9 : b 9 = false := later (j := 9) hc rfl (i := 4) (da rfl) hbi
  have hm4013 : Mem w0 w (cat [sg g2048 28 (0, 0) [] [(.slice none 0 0), (.slice none 0 0)] [], sg g2042 28 (0, 0) [] [v0x0, v0x1] [], hF, (bif b 3 then [] else (bif b 0 then (sg g3003 3 (0, 0) [] (encs (FK.int .i64) ([] : List Int)) []) else [])), (bif b 3 then p3303.2 else [])]) := Mem.pick [0, 1, 2, 3, 4] rfl (Mem.cg (B := [sg g2048 28 (0, 0) [] [(.slice none 0 0), (.slice none 0 0)] [], sg g2042 28 (0, 0) [] [v0x0, v0x1] [], hF, (bif b 3 then [] else (bif b 0 then (sg g3003 3 (0, 0) [] (encs (FK.int .i64) ([] : List Int)) []) else [])), (bif b 3 then p3303.2 else []), [], []]) (cat_cons (off_ b9 rfl) (cat_cons rfl (cat_cons rfl (cat_cons rfl (cat_cons rfl (cat_cons (off_ b7 (off_ hbi rfl)) (cat_cons (off_ b7 rfl) rfl))))))) hm)
  refine e_exv (i := 4) hbi rfl rfl (won rfl) rfl rfl (e_litp (cells := []) (ps := []) rfl slt_26 (pmap_lit pmap_nil) (fun w1 => run_bslice0 slt_26) hm4013) ?_
  rintro g3403 w3401 hm3402
  have H3404 : OwF 3 (FK.int .i64) (.slice (some ⟨g3403, 0, none⟩) 0 0) ([] : List Int) (sg g3403 3 (0, 0) [] (encs (FK.int .i64) ([] : List Int)) []) := OwF.lit g3403 ([] : List Int) 0 rfl (by decide)
  replace hm3402 : Mem w0 w3401 (cat [(sg g3403 3 (0, 0) [] (encs (FK.int .i64) ([] : List Int)) []), sg g2048 28 (0, 0) [] [(.slice none 0 0), (.slice none 0 0)] [], sg g2042 28 (0, 0) [] [v0x0, v0x1] [], hF, (bif b 3 then [] else (bif b 0 then (sg g3003 3 (0, 0) [] (encs (FK.int .i64) ([] : List Int)) []) else [])), (bif b 3 then p3303.2 else [])]) := hm3402
  exact hK _ _ ⟨_, g3003, p3303, g3403, p3703, rfl, y0, y1, y2, y3, fun _ => rfl, y5, y6, y7, y8, H3004, H3304, fun _ => H3404, H3704, Mem.gc (A := [sg g2048 28 (0, 0) [] [(.slice none 0 0), (.slice none 0 0)] [], sg g2042 28 (0, 0) [] [v0x0, v0x1] [], hF, (bif b 3 then [] else (bif b 0 then (sg g3003 3 (0, 0) [] (encs (FK.int .i64) ([] : List Int)) []) else [])), (bif b 3 then p3303.2 else []), (sg g3403 3 (0, 0) [] (encs (FK.int .i64) ([] : List Int)) []), []]) (cat_cons (off_ b9 rfl) (cat_cons rfl (cat_cons rfl (cat_cons rfl (cat_cons rfl (cat_cons (off_ b7 (on_ rfl rfl)) (cat_cons (off_ b7 rfl) rfl))))))) (Mem.pick [1, 2, 3, 4, 5, 0, 1006] rfl hm3402)⟩
 ·
  intro b a w hI hbi hn hc K hK
  obtain ⟨vs, g3003, p3303, g3403, p3703, ha, y0, y1, y2, y3, y4, y5, y6, y7, y8, H3004, H3304, H3404, H3704, hm⟩ := hI
  subst ha
  have b6 : b 6 = false := later (j := 6) hc rfl (i := 5) (da rfl) hbi
  have b7 : b 7 = false := later (j := 7) hc rfl (i := 6) (da rfl) b6
  have b8 : b 8 = false := later (j := 8) hc rfl (i := 7) (da rfl) b7
  have b9 : b 9 = false := later (j := 9) hc rfl (i := 5) (da rfl) hbi
  have hm4016 : Mem w0 w (cat [sg g2048 28 (0, 0) [] [(.slice none 0 0), (.slice none 0 0)] [], sg g2042 28 (0, 0) [] [v0x0, v0x1] [], hF, (bif b 3 then [] else (bif b 0 then (sg g3003 3 (0, 0) [] (encs (FK.int .i64) ([] : List Int)) []) else [])), (bif b 3 then p3303.2 else []), (bif b 4 then (sg g3403 3 (0, 0) [] (encs (FK.int .i64) ([] : List Int)) []) else [])]) := Mem.pick [0, 1, 2, 3, 4, 5] rfl (Mem.cg (B := [sg g2048 28 (0, 0) [] [(.slice none 0 0), (.slice none 0 0)] [], sg g2042 28 (0, 0) [] [v0x0, v0x1] [], hF, (bif b 3 then [] else (bif b 0 then (sg g3003 3 (0, 0) [] (encs (FK.int .i64) ([] : List Int)) []) else [])), (bif b 3 then p3303.2 else []), (bif b 4 then (sg g3403 3 (0, 0) [] (encs (FK.int .i64) ([] : List Int)) []) else []), []]) (cat_cons (off_ b9 rfl) (cat_cons rfl (cat_cons rfl (cat_cons rfl (cat_cons rfl (cat_cons (off_ b7 rfl) (cat_cons (off_ b7 rfl) rfl))))))) hm)
  refine e_val (i := 5) hbi rfl rfl (v := (.pointer (some ⟨g2042, 1, none⟩))) (won rfl) rfl rfl (x_field rfl fa_28x1 (ev (t := 1) (v := (.pointer (some ⟨g2042, 0, none⟩))) rfl ((sel_no rfl).trans rfl))) ?_
  exact hK _ _ ⟨_, g3003, p3303, g3403, p3703, rfl, y0, y1, y2, y3, y4, fun _ => rfl, y6, y7, y8, H3004, H3304, H3404, H3704, Mem.gc (A := [sg g2048 28 (0, 0) [] [(.slice none 0 0), (.slice none 0 0)] [], sg g2042 28 (0, 0) [] [v0x0, v0x1] [], hF, (bif b 3 then [] else (bif b 0 then (sg g3003 3 (0, 0) [] (encs (FK.int .i64) ([] : List Int)) []) else [])), (bif b 3 then p3303.2 else []), (bif b 4 then (sg g3403 3 (0, 0) [] (encs (FK.int .i64) ([] : List Int)) []) else []), []]) (cat_cons (off_ b9 rfl) (cat_cons rfl (cat_cons rfl (cat_cons rfl (cat_cons rfl (cat_cons (off_ b7 rfl) (cat_cons (off_ b7 rfl) rfl))))))) (Mem.pick [0, 1, 2, 3, 4, 5, 1006] rfl hm4016)⟩
 ·
  intro b a w hI hbi hn hc K hK
  obtain ⟨vs, g3003, p3303, g3403, p3703, ha, y0, y1, y2, y3, y4, y5, y6, y7, y8, H3004, H3304, H3404, H3704, hm⟩ := hI
  subst ha
  have b5 : b 5 = true := hn 5 (da rfl)
  have b7 : b 7 = false := later (j := 7) hc rfl (i := 6) (da rfl) hbi
  have b8 : b 8 = false := later (j := 8) hc rfl (i := 7) (da rfl) b7
  have b9 : b 9 = false := later (j := 9) hc rfl (i := 6) (da rfl) hbi
  have hm4019 : Mem w0 w (cat [sg g2048 28 (0, 0) [] [(.slice none 0 0), (.slice none 0 0)] [], sg g2042 28 (0, 0) [] [v0x0, v0x1] [], hF, (bif b 3 then [] else (bif b 0 then (sg g3003 3 (0, 0) [] (encs (FK.int .i64) ([] : List Int)) []) else [])), (bif b 3 then p3303.2 else []), (bif b 4 then (sg g3403 3 (0, 0) [] (encs (FK.int .i64) ([] : List Int)) []) else [])]) := Mem.pick [0, 1, 2, 3, 4, 5] rfl (Mem.cg (B := [sg g2048 28 (0, 0) [] [(.slice none 0 0), (.slice none 0 0)] [], sg g2042 28 (0, 0) [] [v0x0, v0x1] [], hF, (bif b 3 then [] else (bif b 0 then (sg g3003 3 (0, 0) [] (encs (FK.int .i64) ([] : List Int)) []) else [])), (bif b 3 then p3303.2 else []), (bif b 4 then (sg g3403 3 (0, 0) [] (encs (FK.int .i64) ([] : List Int)) []) else []), []]) (cat_cons (off_ b9 rfl) (cat_cons rfl (cat_cons rfl (cat_cons rfl (cat_cons rfl (cat_cons (off_ b7 rfl) (cat_cons (off_ b7 rfl) rfl))))))) hm)
  refine e_val (i := 6) hbi rfl rfl (v := v0x1) (won rfl) rfl rfl (x_load rfl ty1x26 (ev (t := 8) (v := (.pointer (some ⟨g2042, 1, none⟩))) rfl ((sel_on (p := (5, 8)) rfl b5).trans (y5 b5))) (seg_cell (o' := 0) (j := 1) hm4019 (k := 1) rfl rfl rfl)) ?_
  exact hK _ _ ⟨_, g3003, p3303, g3403, p3703, rfl, y0, y1, y2, y3, y4, y5, fun _ => rfl, y7, y8, H3004, H3304, H3404, H3704, Mem.gc (A := [sg g2048 28 (0, 0) [] [(.slice none 0 0), (.slice none 0 0)] [], sg g2042 28 (0, 0) [] [v0x0, v0x1] [], hF, (bif b 3 then [] else (bif b 0 then (sg g3003 3 (0, 0) [] (encs (FK.int .i64) ([] : List Int)) []) else [])), (bif b 3 then p3303.2 else []), (bif b 4 then (sg g3403 3 (0, 0) [] (encs (FK.int .i64) ([] : List Int)) []) else []), []]) (cat_cons (off_ b9 rfl) (cat_cons rfl (cat_cons rfl (cat_cons rfl (cat_cons rfl (cat_cons (off_ b7 rfl) (cat_cons (off_ b7 rfl) rfl))))))) (Mem.pick [0, 1, 2, 3, 4, 5, 1006] rfl hm4019)⟩
 ·
  intro b a w hI hbi hn hc K hK
  obtain ⟨vs, g3003, p3303, g3403, p3703, ha, y0, y1, y2, y3, y4, y5, y6, y7, y8, H3004, H3304, H3404, H3704, hm⟩ := hI
  subst ha
  have b3 : b 3 = true := hn 3 (da rfl)
  have b4 : b 4 = true := hn 4 (da rfl)
  have b6 : b 6 = true := hn 6 (da rfl)
  have b0 : b 0 = true := hc 3 _ rfl b3 0 (da rfl)
  have b2 : b 2 = true := hc 3 _ rfl b3 2 (da rfl)
  have b5 : b 5 = true := hc 6 _ rfl b6 5 (da rfl)
  have b1 : b 1 = true := hc 2 _ rfl b2 1 (da rfl)
  have b8 : b 8 = false := later (j := 8) hc rfl (i := 7) (da rfl) hbi
  have b9 : b 9 = false := later (j := 9) hc rfl (i := 7) (da rfl) hbi
  have H3004 := H3004 b0
  have H3304 := H3304 b3
  have H3404 := H3404 b4
  have hm4022 : Mem w0 w (cat [sg g2048 28 (0, 0) [] [(.slice none 0 0), (.slice none 0 0)] [], sg g2042 28 (0, 0) [] [v0x0, v0x1] [], hF, p3303.2, (sg g3403 3 (0, 0) [] (encs (FK.int .i64) ([] : List Int)) [])]) := Mem.pick [0, 1, 2, 4, 5] rfl (Mem.cg (B := [sg g2048 28 (0, 0) [] [(.slice none 0 0), (.slice none 0 0)] [], sg g2042 28 (0, 0) [] [v0x0, v0x1] [], hF, [], p3303.2, (sg g3403 3 (0, 0) [] (encs (FK.int .i64) ([] : List Int)) []), []]) (cat_cons (off_ b9 rfl) (cat_cons rfl (cat_cons rfl (cat_cons (on_ b3 rfl) (cat_cons (on_ b3 rfl) (cat_cons (off_ hbi (on_ b4 rfl)) (cat_cons (off_ hbi rfl) rfl))))))) hm)
  refine e_exv (i := 7) hbi rfl rfl (won rfl) rfl rfl (e_append (bytes := 8) rfl slt_26 rfl (ev (t := 7) (v := (.slice (some ⟨g3403, 0, none⟩) 0 0)) rfl ((sel_on (p := (4, 7)) rfl b4).trans (y4 b4))) (ev (t := 9) (v := v0x1) rfl ((sel_on (p := (6, 9)) rfl b6).trans (y6 b6))) H3404 (k := 4) rfl H0x1 (Sub.trans hs (Sub.at_ (k := 2) rfl)) hm4022 hg3701 (len63 hg3701 rfl)) ?_
  rintro p3703 w3705 ⟨H3704, hm3706⟩
  replace hm3706 : Mem w0 w3705 (cat [sg g2048 28 (0, 0) [] [(.slice none 0 0), (.slice none 0 0)] [], sg g2042 28 (0, 0) [] [v0x0, v0x1] [], hF, p3303.2, p3703.2]) := hm3706
  exact hK _ _ ⟨_, g3003, p3303, g3403, p3703, rfl, y0, y1, y2, y3, y4, y5, y6, fun _ => rfl, fun hb => ab b8 hb, fun _ => H3004, fun _ => H3304, fun _ => H3404, fun _ => H3704, Mem.gc (A := [sg g2048 28 (0, 0) [] [(.slice none 0 0), (.slice none 0 0)] [], sg g2042 28 (0, 0) [] [v0x0, v0x1] [], hF, [], p3303.2, [], p3703.2]) (cat_cons (off_ b9 rfl) (cat_cons rfl (cat_cons rfl (cat_cons (on_ b3 rfl) (cat_cons (on_ b3 rfl) (cat_cons (on_ rfl rfl) (cat_cons (on_ rfl rfl) rfl))))))) (Mem.pick [0, 1, 2, 1003, 3, 1005, 4] rfl hm3706)⟩
 ·
  intro b a w hI hbi hn hc K hK
  obtain ⟨vs, g3003, p3303, g3403, p3703, ha, y0, y1, y2, y3, y4, y5, y6, y7, y8, H3004, H3304, H3404, H3704, hm⟩ := hI
  subst ha
  have b3 : b 3 = true := hn 3 (da rfl)
  have b7 : b 7 = true := hn 7 (da rfl)
  have b0 : b 0 = true := hc 3 _ rfl b3 0 (da rfl)
  have b2 : b 2 = true := hc 3 _ rfl b3 2 (da rfl)
  have b4 : b 4 = true := hc 7 _ rfl b7 4 (da rfl)
  have b6 : b 6 = true := hc 7 _ rfl b7 6 (da rfl)
  have b1 : b 1 = true := hc 2 _ rfl b2 1 (da rfl)
  have b5 : b 5 = true := hc 6 _ rfl b6 5 (da rfl)
  have b9 : b 9 = false := later (j := 9) hc rfl (i := 8) (da rfl) hbi
  have H3004 := H3004 b0
  have H3304 := H3304 b3
  have H3404 := H3404 b4
  have H3704 := H3704 b7
  have hm4025 : Mem w0 w (cat [sg g2048 28 (0, 0) [] [(.slice none 0 0), (.slice none 0 0)] [], sg g2042 28 (0, 0) [] [v0x0, v0x1] [], hF, p3303.2, p3703.2]) := Mem.pick [0, 1, 2, 4, 6] rfl (Mem.cg (B := [sg g2048 28 (0, 0) [] [(.slice none 0 0), (.slice none 0 0)] [], sg g2042 28 (0, 0) [] [v0x0, v0x1] [], hF, [], p3303.2, [], p3703.2]) (cat_cons (off_ b9 rfl) (cat_cons rfl (cat_cons rfl (cat_cons (on_ b3 rfl) (cat_cons (on_ b3 rfl) (cat_cons (on_ b7 rfl) (cat_cons (on_ b7 rfl) rfl))))))) hm)
  refine e_val (i := 8) hbi rfl rfl (v := (.agg #[p3303.1, p3703.1])) (won rfl) rfl rfl (x_build (cells := [p3303.1, p3703.1]) (zc := [.slice none 0 0, .slice none 0 0]) (sizes := [(0, 1), (1, 1)]) (ps := [(0, p3303.1), (1, p3703.1)]) rfl zt_28 rfl uf_28 ufz_28 (pmap_lit (pmap_cons (ev (t := 6) (v := p3303.1) rfl ((sel_on (p := (3, 6)) rfl b3).trans (y3 b3))) (pmap_cons (ev (t := 10) (v := p3703.1) rfl ((sel_on (p := (7, 10)) rfl b7).trans (y7 b7))) pmap_nil))) (fill_cons (cs := [p3303.1]) rfl (IsSl.cells (H3304).sl) rfl (fill_cons (cs := [p3703.1]) rfl (IsSl.cells (H3704).sl) rfl fill_nil))) ?_
  exact hK _ _ ⟨_, g3003, p3303, g3403, p3703, rfl, y0, y1, y2, y3, y4, y5, y6, y7, fun _ => rfl, fun _ => H3004, fun _ => H3304, fun _ => H3404, fun _ => H3704, Mem.gc (A := [sg g2048 28 (0, 0) [] [(.slice none 0 0), (.slice none 0 0)] [], sg g2042 28 (0, 0) [] [v0x0, v0x1] [], hF, [], p3303.2, [], p3703.2]) (cat_cons (off_ b9 rfl) (cat_cons rfl (cat_cons rfl (cat_cons (on_ b3 rfl) (cat_cons (on_ b3 rfl) (cat_cons (on_ b7 rfl) (cat_cons (on_ b7 rfl) rfl))))))) (Mem.pick [0, 1, 2, 1003, 3, 1005, 4] rfl hm4025)⟩
 ·
  intro b a w hI hbi hn hc K hK
  obtain ⟨vs, g3003, p3303, g3403, p3703, ha, y0, y1, y2, y3, y4, y5, y6, y7, y8, H3004, H3304, H3404, H3704, hm⟩ := hI
  subst ha
  have b0 : b 0 = true := hn 0 (da rfl)
  have b1 : b 1 = true := hn 1 (da rfl)
  have b2 : b 2 = true := hn 2 (da rfl)
  have b3 : b 3 = true := hn 3 (da rfl)
  have b4 : b 4 = true := hn 4 (da rfl)
  have b5 : b 5 = true := hn 5 (da rfl)
  have b6 : b 6 = true := hn 6 (da rfl)
  have b7 : b 7 = true := hn 7 (da rfl)
  have b8 : b 8 = true := hn 8 (da rfl)
  have H3004 := H3004 b0
  have H3304 := H3304 b3
  have H3404 := H3404 b4
  have H3704 := H3704 b7
  have hm4028 : Mem w0 w (cat [sg g2048 28 (0, 0) [] [(.slice none 0 0), (.slice none 0 0)] [], sg g2042 28 (0, 0) [] [v0x0, v0x1] [], hF, p3303.2, p3703.2]) := Mem.pick [0, 1, 2, 4, 6] rfl (Mem.cg (B := [sg g2048 28 (0, 0) [] [(.slice none 0 0), (.slice none 0 0)] [], sg g2042 28 (0, 0) [] [v0x0, v0x1] [], hF, [], p3303.2, [], p3703.2]) (cat_cons (off_ hbi rfl) (cat_cons rfl (cat_cons rfl (cat_cons (on_ b3 rfl) (cat_cons (on_ b3 rfl) (cat_cons (on_ b7 rfl) (cat_cons (on_ b7 rfl) rfl))))))) hm)
  refine e_exs (i := 9) hbi rfl (won rfl) rfl (e_store (vs := [p3303.1, p3703.1]) (o' := 0) (j := 0) rfl sz_28 (ev (t := 2) (v := (.pointer (some ⟨g2048, 0, none⟩))) rfl ((sel_no rfl).trans rfl)) (ev (t := 11) (v := (.agg #[p3303.1, p3703.1])) rfl ((sel_on (p := (8, 11)) rfl b8).trans (y8 b8))) rfl (one_cons (IsSl.one (H3304).sl) (one_cons (IsSl.one (H3704).sl) one_nil)) hm4028 (k := 0) rfl rfl rfl) ?_
  intro w3901 hm3902
  replace hm3902 : Mem w0 w3901 (cat [sg g2048 28 (0, 0) [] [p3303.1, p3703.1] [], sg g2042 28 (0, 0) [] [v0x0, v0x1] [], hF, p3303.2, p3703.2]) := hm3902
  exact hK _ _ ⟨_, g3003, p3303, g3403, p3703, rfl, y0, y1, y2, y3, y4, y5, y6, y7, y8, fun _ => H3004, fun _ => H3304, fun _ => H3404, fun _ => H3704, Mem.gc (A := [sg g2048 28 (0, 0) [] [p3303.1, p3703.1] [], sg g2042 28 (0, 0) [] [v0x0, v0x1] [], hF, [], p3303.2, [], p3703.2]) (cat_cons (on_ rfl rfl) (cat_cons rfl (cat_cons rfl (cat_cons (on_ b3 rfl) (cat_cons (on_ b3 rfl) (cat_cons (on_ b7 rfl) (cat_cons (on_ b7 rfl) rfl))))))) (Mem.pick [0, 1, 2, 1003, 3, 1005, 4] rfl hm3902)⟩
 intro b a w hall hI
 obtain ⟨vs, g3003, p3303, g3403, p3703, ha, y0, y1, y2, y3, y4, y5, y6, y7, y8, H3004, H3304, H3404, H3704, hm⟩ := hI
 have b0 : b 0 = true := hall 0 rfl
 have b1 : b 1 = true := hall 1 rfl
 have b2 : b 2 = true := hall 2 rfl
 have b3 : b 3 = true := hall 3 rfl
 have b4 : b 4 = true := hall 4 rfl
 have b5 : b 5 = true := hall 5 rfl
 have b6 : b 6 = true := hall 6 rfl
 have b7 : b 7 = true := hall 7 rfl
 have b8 : b 8 = true := hall 8 rfl
 have b9 : b 9 = true := hall 9 rfl
 replace H3004 := H3004 b0
 replace H3304 := H3304 b3
 replace H3404 := H3404 b4
 replace H3704 := H3704 b7
 have hm4031 : Mem w0 w (cat [sg g2048 28 (0, 0) [] [p3303.1, p3703.1] [], sg g2042 28 (0, 0) [] [v0x0, v0x1] [], hF, p3303.2, p3703.2]) := Mem.pick [0, 1, 2, 4, 6] rfl (Mem.cg (B := [sg g2048 28 (0, 0) [] [p3303.1, p3703.1] [], sg g2042 28 (0, 0) [] [v0x0, v0x1] [], hF, [], p3303.2, [], p3703.2]) (cat_cons (on_ b9 rfl) (cat_cons rfl (cat_cons rfl (cat_cons (on_ b3 rfl) (cat_cons (on_ b3 rfl) (cat_cons (on_ b7 rfl) (cat_cons (on_ b7 rfl) rfl))))))) hm)
 obtain ⟨f3000, ha', z3000x2⟩ : ∃ f' : Nat → Value, a = fr 12 f' ∧ f' 2 = (.pointer (some ⟨g2048, 0, none⟩)) := ⟨_, ha, (sel_no rfl).trans rfl⟩
 subst ha'
 have hm4041 : Mem w0 w (cat [sg g2048 28 (0, 0) [] [p3303.1, p3703.1] [], hF, p3303.2, p3703.2]) := Mem.pick [0, 2, 3, 4] rfl hm4031
 refine nx ?_
 refine wp_ret ?_
 obtain rfl := Option.some.inj he
 refine r_ret (v := (.agg #[p3303.1, p3703.1])) (rv_one rfl (RVs.cell (cs := [p3303.1, p3703.1]) rfl z3000x2 tyN_28 (seg_cells (o' := 0) (j := 0) hm4041 (k := 0) rfl rfl rfl) RVs.nil)) rfl ?_
 exact ⟨p3303.1, p3303.2, p3703.1, p3703.2, rfl, H3304, H3704, Mem.pick [2, 3, 1] rfl hm4041⟩
def spec_l12Mine (a0 : impl_Pool) (a1 : Int) (a2 : Int) : Option (Bool) := (spec_l01In a2 0 (IntKind.wrap .i64 ((a0.Owner.length : Int) - 1))).bind fun r14 => gd (r14 = true → (0 : Int) ≤ a2 ∧ a2 < (a0.Owner.length : Int)) ((some (r14 && (decide ((ix a0.Owner a2) = a1)))))
set_option maxHeartbeats 400000 in
set_option maxRecDepth 100000 in
theorem spec_l12Mine_ok {w0 w : World} {hR hF : Hp} {v0x0 : Value} {v0x1 : Value} (a0 : impl_Pool) (a1 : Int) (a2 : Int) {r : (Bool)} (H0x0 : RdF w0 (FK.int .i64) v0x0 a0.Free hR) (H0x1 : RdF w0 (FK.int .i64) v0x1 a0.Owner hR) (hs : Sub hR hF) (hm : Mem w0 w (cat [hF])) (he : spec_l12Mine a0 a1 a2 = some r) :
    Calls Try.prog 88 #[(.agg #[v0x0, v0x1]), (.int .i64 a1), (.int .i64 a2)] w (fun e w' => e = .returned (.bool r) ∧ Mem w0 w' (cat [hF])) := by
 refine calls_fr (n := 22) Try.func88 rfl rfl rfl ?_
 unfold spec_l12Mine at he
 refine wp_seq ?_
 refine wp_region_lit ?_
 refine s_exv (won rfl) rfl rfl (e_box (vs := [v0x0, v0x1]) rfl (ev (t := 0) rfl rfl) rfl hm) ?_
 rintro g10 w11 hm12
 refine s_val (v := (.bool false)) (won rfl) rfl rfl (x_assign rfl rfl) ?_
 refine wpList_nil ?_
 refine nx ?_
 refine wp_seq ?_
 obtain ⟨r14, hr14, he⟩ := bindE he
 obtain ⟨hg17, he⟩ := gdE he
 refine wp_region_lit ?_
 refine s_val (v := (.int .i64 a2)) (won rfl) rfl rfl (x_move rfl (ev (t := 2) rfl rfl)) ?_
 refine s_val (v := (.pointer (some ⟨g10, 1, none⟩))) (won rfl) rfl rfl (x_field rfl fa_28x1 (ev (t := 3) rfl rfl)) ?_
 refine s_val (v := v0x1) (won rfl) rfl rfl (x_load rfl ty1x26 (ev (t := 8) rfl rfl) (seg_cell (o' := 0) (j := 1) hm12 (k := 0) rfl rfl rfl)) ?_
 refine s_val (v := (.int .i64 (a0.Owner.length : Int))) (won rfl) rfl rfl (x_len rfl slt_26 (ev (t := 9) rfl rfl) (H0x1).sl) ?_
 refine s_val (v := (.int .i64 (IntKind.wrap .i64 ((a0.Owner.length : Int) - 1)))) (won rfl) rfl rfl (x_sub rfl (ev (t := 10) rfl rfl) rfl) ?_
 refine s_call (won rfl) rfl rfl (x_call rfl rfl cl_87 (map_lit (map_cons (ev (t := 7) rfl rfl) (map_cons rfl (map_cons (ev (t := 11) rfl rfl) map_nil))))) (spec_l01In_ok (hR := (cat [])) (hF := cat [sg g10 28 (0, 0) [] [v0x0, v0x1] [], hF]) a2 0 (IntKind.wrap .i64 ((a0.Owner.length : Int) - 1))  (Mem.one hm12) hr14) ?_
 rintro e w15 ⟨rfl, hm16⟩
 refine ⟨_, rfl, ?_⟩
 replace hm16 : Mem w0 w15 (cat [sg g10 28 (0, 0) [] [v0x0, v0x1] [], hF]) := Mem.un hm16
 refine s_val (v := (.bool r14)) (won rfl) rfl rfl (x_move rfl (ev (t := 12) rfl rfl)) ?_
 refine s_cval (p := r14) (v := (.pointer (some ⟨g10, 1, none⟩))) (won_t (j := 6) (t := 13) (q := r14) rfl rfl rfl rfl rfl) rfl rfl (fun hp => (x_field rfl fa_28x1 (ev (t := 3) rfl rfl))) ?_
 refine s_cval (p := r14) (v := v0x1) (won_t (j := 6) (t := 13) (q := r14) rfl rfl rfl rfl rfl) rfl rfl (fun hp => (x_load rfl ty1x26 (ev (t := 14) rfl (Eq.trans (b := cv r14 (.pointer (some ⟨g10, 1, none⟩))) rfl (on_c hp))) (seg_cell (o' := 0) (j := 1) hm16 (k := 0) rfl rfl rfl))) ?_
 refine s_cval (p := r14) (v := (.int .i64 a2)) (won_t (j := 6) (t := 13) (q := r14) rfl rfl rfl rfl rfl) rfl rfl (fun hp => (x_move rfl (ev (t := 2) rfl rfl))) ?_
 refine s_cval (p := r14) (v := (.pointer (some ((slA v0x1).add (Int.toNat a2 * 1))))) (won_t (j := 6) (t := 13) (q := r14) rfl rfl rfl rfl rfl) rfl rfl (fun hp => (x_index (d := (FK.int .i64)) rfl slt_26 (ev (t := 15) rfl (Eq.trans (b := cv r14 v0x1) rfl (on_c hp))) (ev (t := 16) rfl (Eq.trans (b := cv r14 (.int .i64 a2)) rfl (on_c hp))) H0x1 (hg17 hp).1 (hg17 hp).2)) ?_
 refine s_cval (p := r14) (v := (.int .i64 (ix a0.Owner a2))) (won_t (j := 6) (t := 13) (q := r14) rfl rfl rfl rfl rfl) rfl rfl (fun hp => (x_load rfl ty1x3 (ev (t := 17) rfl (Eq.trans (b := cv r14 (.pointer (some ((slA v0x1).add (Int.toNat a2 * 1))))) rfl (on_c hp))) (RdF.cell0 H0x1 hm16 (Sub.trans hs (Sub.at_ (k := 1) rfl)) (hg17 hp).1 (hg17 hp).2 rfl))) ?_
 refine s_cval (p := r14) (v := (.int .i64 a1)) (won_t (j := 6) (t := 13) (q := r14) rfl rfl rfl rfl rfl) rfl rfl (fun hp => (x_move rfl (ev (t := 1) rfl rfl))) ?_
 refine s_cval (p := r14) (v := (.bool (decide ((ix a0.Owner a2) = a1)))) (won_t (j := 6) (t := 13) (q := r14) rfl rfl rfl rfl rfl) rfl rfl (fun hp => (x_eql rfl (ev (t := 18) rfl (Eq.trans (b := cv r14 (.int .i64 (ix a0.Owner a2))) rfl (on_c hp))) (ev (t := 19) rfl (Eq.trans (b := cv r14 (.int .i64 a1)) rfl (on_c hp))))) ?_
 refine s_val (v := (.bool (r14 && (decide ((ix a0.Owner a2) = a1))))) (won rfl) rfl rfl (x_pick_and rfl (ev (t := 13) rfl rfl) (fun hq => ev rfl (Eq.trans (b := cv r14 (.bool (decide ((ix a0.Owner a2) = a1)))) rfl (on_c hq))) rfl) ?_
 refine s_val (v := (.bool (r14 && (decide ((ix a0.Owner a2) = a1))))) (won rfl) rfl rfl (x_assign rfl (ev (t := 21) rfl rfl)) ?_
 refine wpList_nil ?_
 have hm18 : Mem w0 w15 (cat [hF]) := Mem.pick [1] rfl hm16
 refine nx ?_
 refine wp_ret ?_
 obtain rfl := Option.some.inj he
 refine r_ret (v := (.bool (r14 && (decide ((ix a0.Owner a2) = a1))))) (rv_one rfl (RVs.tmp (v := (.bool (r14 && (decide ((ix a0.Owner a2) = a1))))) rfl rfl RVs.nil)) rfl ?_
 exact ⟨rfl, Mem.pick [0] rfl hm18⟩
def spec_l12Step_l1 (F : Nat) (a1 : impl_PoolAct) : Nat → Int → (List Int) → (List Int) → Int → Option (Int × (List Int) × (List Int))
  | 0, _, _, _, _ => none
  | k + 1, s3096, s3098, s3102, s3106 => (bif (decide (s3106 < (s3102.length : Int))) then (gd ((0 : Int) ≤ s3106 ∧ s3106 < (s3102.length : Int)) ((bif (decide ((ix s3102 s3106) = a1.Owner)) then gd ((0 : Int) ≤ s3106 ∧ s3106 < (s3102.length : Int)) (gd ((s3098.length + ([s3106] : List Int).length) * 8 ≤ 140737488355328) ((some ((IntKind.wrap .i64 (s3096 + 1)), (s3098 ++ ([s3106] : List Int)), (List.set s3102 (Int.toNat s3106) (-1)))))) else (some (s3096, s3098, s3102)))) : Option (Int × (List Int) × (List Int))).bind fun (s3226 : (Int × (List Int) × (List Int))) => spec_l12Step_l1 F a1 k s3226.1 s3226.2.1 s3226.2.2 (IntKind.wrap .i64 (s3106 + 1)) else (some (s3096, s3098, s3102)))
def spec_l12Step (F : Nat) (a0 : impl_Pool) (a1 : impl_PoolAct) : Option (impl_Pool × impl_PoolReply) := (spec_l01In a1.Kind 1 4).bind fun r1718 => (bif (!r1718) then (some (a0, (impl_PoolReply.mk 3 0))) else (spec_l01In a1.Owner 0 5).bind fun r1760 => (bif ((!(!r1760)) && (decide (a1.Kind = 2))) then spec_l01In a1.To 0 5 else some false).bind fun r1763 => (bif ((!r1760) || ((decide (a1.Kind = 2)) && (!r1763))) then ((bif ((decide (a1.Kind = 1)) || (decide (a1.Kind = 4))) then (some 0) else (some a1.Buffer)) : Option (Int)).bind fun (s1778 : (Int)) => (some (a0, (impl_PoolReply.mk 4 s1778))) else (spec_l12Own a0).bind fun r1793 => ((bif (decide (a1.Kind = 1)) then (bif (decide ((a0.Free.length : Int) = 0)) then (some (Fl.out (a0, (impl_PoolReply.mk 7 0)))) else gd ((0 : Int) ≤ 0 ∧ 0 < (a0.Free.length : Int)) (gd ((0 : Int) ≤ 1 ∧ 1 ≤ (a0.Free.length : Int)) (gd ((([] : List Int).length + (slc a0.Free (Int.toNat 1) a0.Free.length).length) * 8 ≤ 140737488355328) (gd ((0 : Int) ≤ (ix a0.Free 0) ∧ (ix a0.Free 0) < (r1793.Owner.length : Int)) ((some (Fl.out ((impl_Pool.mk (([] : List Int) ++ (slc a0.Free (Int.toNat 1) a0.Free.length)) (List.set r1793.Owner (Int.toNat (ix a0.Free 0)) a1.Owner)), (impl_PoolReply.mk 0 (ix a0.Free 0)))))))))) else (bif (decide (a1.Kind = 4)) then (spec_l12Step_l1 F a1 F 0 r1793.Free r1793.Owner 0 : Option (Int × (List Int) × (List Int))).bind fun (s2928 : (Int × (List Int) × (List Int))) => (some (Fl.out ((impl_Pool.mk s2928.2.1 s2928.2.2), (impl_PoolReply.mk 0 s2928.1)))) else (some (Fl.go ())))) : Option (Fl (impl_Pool × impl_PoolReply) (Unit))).bind fun l2540 => l2540.on fun (s2539 : (Unit)) => (spec_l12Mine a0 a1.Owner a1.Buffer).bind fun r3279 => (bif (!r3279) then (some (a0, (impl_PoolReply.mk 5 a1.Buffer))) else ((bif (decide (a1.Kind = 2)) then gd ((0 : Int) ≤ a1.Buffer ∧ a1.Buffer < (r1793.Owner.length : Int)) ((some (r1793.Free, (List.set r1793.Owner (Int.toNat a1.Buffer) a1.To)))) else gd ((0 : Int) ≤ a1.Buffer ∧ a1.Buffer < (r1793.Owner.length : Int)) (gd ((r1793.Free.length + ([a1.Buffer] : List Int).length) * 8 ≤ 140737488355328) ((some ((r1793.Free ++ ([a1.Buffer] : List Int)), (List.set r1793.Owner (Int.toNat a1.Buffer) (-1))))))) : Option ((List Int) × (List Int))).bind fun (s3331 : ((List Int) × (List Int))) => (some ((impl_Pool.mk s3331.1 s3331.2), (impl_PoolReply.mk 0 a1.Buffer))))))
set_option maxHeartbeats 400000 in
set_option maxRecDepth 100000 in
theorem spec_l12Step_ok (F : Nat) {w0 w : World} {hR hF : Hp} {v0x0 : Value} {v0x1 : Value} (a0 : impl_Pool) (a1 : impl_PoolAct) {r : (impl_Pool × impl_PoolReply)} (H0x0 : RdF w0 (FK.int .i64) v0x0 a0.Free hR) (H0x1 : RdF w0 (FK.int .i64) v0x1 a0.Owner hR) (hs : Sub hR hF) (hm : Mem w0 w (cat [hF])) (he : spec_l12Step F a0 a1 = some r) :
    Calls Try.prog 61 #[(.agg #[v0x0, v0x1]), (.agg #[(.int .i64 a1.Kind), (.int .i64 a1.Owner), (.int .i64 a1.To), (.int .i64 a1.Buffer)])] w (fun e w' => ∃ (v'0 : Value)  (v'1 : Value)  (hN : Hp), e = .returned (.tuple #[(.agg #[v'0, v'1]), (.agg #[(.int .i64 r.2.Code), (.int .i64 r.2.Buffer)])]) ∧ RdF w0 (FK.int .i64) v'0 r.1.Free (cat [hR, hN]) ∧ RdF w0 (FK.int .i64) v'1 r.1.Owner (cat [hR, hN]) ∧ Mem w0 w' (cat [hN, hF])) := by
 refine calls_fr (n := 145) Try.func61 rfl rfl rfl ?_
 unfold spec_l12Step at he
 refine wp_seq ?_
 refine wp_region_lit ?_
 refine s_exv (won rfl) rfl rfl (e_box (vs := [v0x0, v0x1]) rfl (ev (t := 0) rfl rfl) rfl hm) ?_
 rintro g1685 w1686 hm1687
 refine s_exv (won rfl) rfl rfl (e_box (vs := [(.int .i64 a1.Kind), (.int .i64 a1.Owner), (.int .i64 a1.To), (.int .i64 a1.Buffer)]) rfl (ev (t := 1) rfl rfl) rfl hm1687) ?_
 rintro g1689 w1690 hm1691
 refine s_exv (won rfl) rfl rfl (e_alloc (vs := [(.slice none 0 0), (.slice none 0 0)]) rfl zt_28 rfl hm1691) ?_
 rintro g1695 w1696 hm1697
 refine s_exv (won rfl) rfl rfl (e_alloc (vs := [(.int .i64 0), (.int .i64 0)]) rfl zt_35 rfl hm1697) ?_
 rintro g1699 w1700 hm1701
 refine wpList_nil ?_
 refine nx ?_
 refine wp_seq ?_
 refine wp_region_lit ?_
 refine s_val (v := (.pointer (some ⟨g1689, 3, none⟩))) (won rfl) rfl rfl (x_field rfl fa_39x3 (ev (t := 3) rfl rfl)) ?_
 refine s_val (v := (.int .i64 a1.Buffer)) (won rfl) rfl rfl (x_load rfl ty1x3 (ev (t := 9) rfl rfl) (seg_cell (o' := 0) (j := 3) hm1701 (k := 2) rfl rfl rfl)) ?_
 refine s_val (v := (.agg #[(.int .i64 0), (.int .i64 a1.Buffer)])) (won rfl) rfl rfl (x_build (cells := [(.int .i64 0), (.int .i64 a1.Buffer)]) (zc := [.int .i64 0, .int .i64 0]) (sizes := [(0, 1), (1, 1)]) (ps := [(1, (.int .i64 a1.Buffer))]) rfl zt_35 rfl uf_35 ufz_35 (pmap_lit (pmap_cons (ev (t := 10) rfl rfl) pmap_nil)) (fill_cons (cs := [(.int .i64 a1.Buffer)]) rfl rfl rfl fill_nil)) ?_
 refine s_exv (won rfl) rfl rfl (e_alloc (vs := [(.int .i64 0), (.int .i64 0)]) rfl zt_35 rfl hm1701) ?_
 rintro g1703 w1704 hm1705
 refine s_exs (won rfl) rfl (e_store (vs := [(.int .i64 0), (.int .i64 a1.Buffer)]) (o' := 0) (j := 0) rfl sz_35 (ev (t := 6) rfl rfl) (ev (t := 11) rfl rfl) rfl rfl hm1705 (k := 0) rfl rfl rfl) ?_
 intro w1707 hm1708
 replace hm1708 : Mem w0 w1707 (cat [sg g1703 35 (0, 0) [] [(.int .i64 0), (.int .i64 a1.Buffer)] [], sg g1699 35 (0, 0) [] [(.int .i64 0), (.int .i64 0)] [], sg g1695 28 (0, 0) [] [(.slice none 0 0), (.slice none 0 0)] [], sg g1689 39 (0, 0) [] [(.int .i64 a1.Kind), (.int .i64 a1.Owner), (.int .i64 a1.To), (.int .i64 a1.Buffer)] [], sg g1685 28 (0, 0) [] [v0x0, v0x1] [], hF]) := hm1708
 refine wpList_nil ?_
 refine nx ?_
 refine wp_seq ?_
 refine wp_seq ?_
 obtain ⟨r1718, hr1718, he⟩ := bindE he
 refine wp_region_lit ?_
 refine s_val (v := (.pointer (some ⟨g1689, 0, none⟩))) (won rfl) rfl rfl (x_field rfl fa_39x0 (ev (t := 3) rfl rfl)) ?_
 refine s_val (v := (.int .i64 a1.Kind)) (won rfl) rfl rfl (x_load rfl ty1x3 (ev (t := 12) rfl rfl) (seg_cell (o' := 0) (j := 0) hm1708 (k := 3) rfl rfl rfl)) ?_
 refine s_call (won rfl) rfl rfl (x_call rfl rfl cl_87 (map_lit (map_cons (ev (t := 13) rfl rfl) (map_cons rfl (map_cons rfl map_nil))))) (spec_l01In_ok (hR := (cat [])) (hF := cat [sg g1703 35 (0, 0) [] [(.int .i64 0), (.int .i64 a1.Buffer)] [], sg g1699 35 (0, 0) [] [(.int .i64 0), (.int .i64 0)] [], sg g1695 28 (0, 0) [] [(.slice none 0 0), (.slice none 0 0)] [], sg g1689 39 (0, 0) [] [(.int .i64 a1.Kind), (.int .i64 a1.Owner), (.int .i64 a1.To), (.int .i64 a1.Buffer)] [], sg g1685 28 (0, 0) [] [v0x0, v0x1] [], hF]) a1.Kind 1 4  (Mem.one hm1708) hr1718) ?_
 rintro e w1719 ⟨rfl, hm1720⟩
 refine ⟨_, rfl, ?_⟩
 replace hm1720 : Mem w0 w1719 (cat [sg g1703 35 (0, 0) [] [(.int .i64 0), (.int .i64 a1.Buffer)] [], sg g1699 35 (0, 0) [] [(.int .i64 0), (.int .i64 0)] [], sg g1695 28 (0, 0) [] [(.slice none 0 0), (.slice none 0 0)] [], sg g1689 39 (0, 0) [] [(.int .i64 a1.Kind), (.int .i64 a1.Owner), (.int .i64 a1.To), (.int .i64 a1.Buffer)] [], sg g1685 28 (0, 0) [] [v0x0, v0x1] [], hF]) := Mem.un hm1720
 refine s_val (v := (.bool (!r1718))) (won rfl) rfl rfl (x_not rfl (ev (t := 14) rfl rfl)) ?_
 refine wpList_nil ?_
 refine nx ?_
 rcases Bool.eq_false_or_eq_true ((!r1718)) with hb1721 | hb1721
 ·
  replace he := bifT he hb1721
  refine c_true rfl (p := (!r1718)) rfl rfl hb1721 ?_
  refine wp_seq ?_
  refine wp_region_lit ?_
  refine s_val (v := (.agg #[v0x0, v0x1])) (won rfl) rfl rfl (x_loadN (vs := [v0x0, v0x1]) rfl tyN_28 (ev (t := 2) rfl rfl) (seg_cells (o' := 0) (j := 0) hm1720 (k := 4) rfl rfl rfl)) ?_
  refine s_val (v := (.agg #[(.int .i64 3), (.int .i64 0)])) (won rfl) rfl rfl (x_build (cells := [(.int .i64 3), (.int .i64 0)]) (zc := [.int .i64 0, .int .i64 0]) (sizes := [(0, 1), (1, 1)]) (ps := [(0, (.int .i64 3))]) rfl zt_35 rfl uf_35 ufz_35 (pmap_lit (pmap_cons rfl pmap_nil)) (fill_cons (cs := [(.int .i64 3)]) rfl rfl rfl fill_nil)) ?_
  refine s_exs (won rfl) rfl (e_store (vs := [v0x0, v0x1]) (o' := 0) (j := 0) rfl sz_28 (ev (t := 4) rfl rfl) (ev (t := 16) rfl rfl) rfl (one_cons (IsSl.one (H0x0).sl) (one_cons (IsSl.one (H0x1).sl) one_nil)) hm1720 (k := 2) rfl rfl rfl) ?_
  intro w1722 hm1723
  replace hm1723 : Mem w0 w1722 (cat [sg g1703 35 (0, 0) [] [(.int .i64 0), (.int .i64 a1.Buffer)] [], sg g1699 35 (0, 0) [] [(.int .i64 0), (.int .i64 0)] [], sg g1695 28 (0, 0) [] [v0x0, v0x1] [], sg g1689 39 (0, 0) [] [(.int .i64 a1.Kind), (.int .i64 a1.Owner), (.int .i64 a1.To), (.int .i64 a1.Buffer)] [], sg g1685 28 (0, 0) [] [v0x0, v0x1] [], hF]) := hm1723
  refine s_exs (won rfl) rfl (e_store (vs := [(.int .i64 3), (.int .i64 0)]) (o' := 0) (j := 0) rfl sz_35 (ev (t := 5) rfl rfl) (ev (t := 17) rfl rfl) rfl rfl hm1723 (k := 1) rfl rfl rfl) ?_
  intro w1724 hm1725
  replace hm1725 : Mem w0 w1724 (cat [sg g1703 35 (0, 0) [] [(.int .i64 0), (.int .i64 a1.Buffer)] [], sg g1699 35 (0, 0) [] [(.int .i64 3), (.int .i64 0)] [], sg g1695 28 (0, 0) [] [v0x0, v0x1] [], sg g1689 39 (0, 0) [] [(.int .i64 a1.Kind), (.int .i64 a1.Owner), (.int .i64 a1.To), (.int .i64 a1.Buffer)] [], sg g1685 28 (0, 0) [] [v0x0, v0x1] [], hF]) := hm1725
  refine wpList_nil ?_
  have hm1726 : Mem w0 w1724 (cat [sg g1699 35 (0, 0) [] [(.int .i64 3), (.int .i64 0)] [], sg g1695 28 (0, 0) [] [v0x0, v0x1] [], hF]) := Mem.pick [1, 2, 5] rfl hm1725
  refine nx ?_
  refine wp_ret ?_
  refine xr ?_
  obtain rfl := Option.some.inj he
  refine r_ret (v := (.tuple #[(.agg #[v0x0, v0x1]), (.agg #[(.int .i64 3), (.int .i64 0)])])) (rv_list rfl rfl (RVs.cell (cs := [v0x0, v0x1]) rfl rfl tyN_28 (seg_cells (o' := 0) (j := 0) hm1726 (k := 1) rfl rfl rfl) (RVs.cell (cs := [(.int .i64 3), (.int .i64 0)]) rfl rfl tyN_35 (seg_cells (o' := 0) (j := 0) hm1726 (k := 0) rfl rfl rfl) RVs.nil))) rfl ?_
  exact ⟨v0x0, v0x1, (cat []), rfl, (H0x0.mono (Sub.at_ (k := 0) rfl)), (H0x1.mono (Sub.at_ (k := 0) rfl)), Mem.zgrp [] [] _ (Mem.pick [2] rfl hm1726)⟩
 ·
  replace he := bifF he hb1721
  refine c_false rfl (p := (!r1718)) rfl rfl hb1721 ?_
  refine wp_skip ?_
  refine nx ?_
  refine wp_seq ?_
  refine wp_seq ?_
  obtain ⟨r1760, hr1760, he⟩ := bindE he
  obtain ⟨r1763, hr1763, he⟩ := bindE he
  refine wp_region_lit ?_
  refine s_val (v := (.pointer (some ⟨g1689, 1, none⟩))) (won rfl) rfl rfl (x_field rfl fa_39x1 (ev (t := 3) rfl rfl)) ?_
  refine s_val (v := (.int .i64 a1.Owner)) (won rfl) rfl rfl (x_load rfl ty1x3 (ev (t := 18) rfl rfl) (seg_cell (o' := 0) (j := 1) hm1720 (k := 3) rfl rfl rfl)) ?_
  refine s_call (won rfl) rfl rfl (x_call rfl rfl cl_87 (map_lit (map_cons (ev (t := 19) rfl rfl) (map_cons rfl (map_cons rfl map_nil))))) (spec_l01In_ok (hR := (cat [])) (hF := cat [sg g1703 35 (0, 0) [] [(.int .i64 0), (.int .i64 a1.Buffer)] [], sg g1699 35 (0, 0) [] [(.int .i64 0), (.int .i64 0)] [], sg g1695 28 (0, 0) [] [(.slice none 0 0), (.slice none 0 0)] [], sg g1689 39 (0, 0) [] [(.int .i64 a1.Kind), (.int .i64 a1.Owner), (.int .i64 a1.To), (.int .i64 a1.Buffer)] [], sg g1685 28 (0, 0) [] [v0x0, v0x1] [], hF]) a1.Owner 0 5  (Mem.one hm1720) hr1760) ?_
  rintro e w1761 ⟨rfl, hm1762⟩
  refine ⟨_, rfl, ?_⟩
  replace hm1762 : Mem w0 w1761 (cat [sg g1703 35 (0, 0) [] [(.int .i64 0), (.int .i64 a1.Buffer)] [], sg g1699 35 (0, 0) [] [(.int .i64 0), (.int .i64 0)] [], sg g1695 28 (0, 0) [] [(.slice none 0 0), (.slice none 0 0)] [], sg g1689 39 (0, 0) [] [(.int .i64 a1.Kind), (.int .i64 a1.Owner), (.int .i64 a1.To), (.int .i64 a1.Buffer)] [], sg g1685 28 (0, 0) [] [v0x0, v0x1] [], hF]) := Mem.un hm1762
  refine s_val (v := (.bool (!r1760))) (won rfl) rfl rfl (x_not rfl (ev (t := 20) rfl rfl)) ?_
  refine s_val (v := (.bool (!r1760))) (won rfl) rfl rfl (x_move rfl (ev (t := 21) rfl rfl)) ?_
  refine s_cval (p := (!(!r1760))) (v := (.pointer (some ⟨g1689, 0, none⟩))) (won_f (j := 4) (t := 22) (q := (!r1760)) rfl rfl rfl rfl rfl) rfl rfl (fun hp => (x_field rfl fa_39x0 (ev (t := 3) rfl rfl))) ?_
  refine s_cval (p := (!(!r1760))) (v := (.int .i64 a1.Kind)) (won_f (j := 4) (t := 22) (q := (!r1760)) rfl rfl rfl rfl rfl) rfl rfl (fun hp => (x_load rfl ty1x3 (ev (t := 23) rfl (Eq.trans (b := cv (!(!r1760)) (.pointer (some ⟨g1689, 0, none⟩))) rfl (on_c hp))) (seg_cell (o' := 0) (j := 0) hm1762 (k := 3) rfl rfl rfl))) ?_
  refine s_cval (p := (!(!r1760))) (v := (.bool (decide (a1.Kind = 2)))) (won_f (j := 4) (t := 22) (q := (!r1760)) rfl rfl rfl rfl rfl) rfl rfl (fun hp => (x_eql rfl (ev (t := 24) rfl (Eq.trans (b := cv (!(!r1760)) (.int .i64 a1.Kind)) rfl (on_c hp))) rfl)) ?_
  refine s_cval (p := (!(!r1760))) (v := (.bool (decide (a1.Kind = 2)))) (won_f (j := 4) (t := 22) (q := (!r1760)) rfl rfl rfl rfl rfl) rfl rfl (fun hp => (x_move rfl (ev (t := 25) rfl (Eq.trans (b := cv (!(!r1760)) (.bool (decide (a1.Kind = 2)))) rfl (on_c hp))))) ?_
  refine s_cval (p := ((!(!r1760)) && (decide (a1.Kind = 2)))) (v := (.pointer (some ⟨g1689, 2, none⟩))) (won_ct (j := 8) (t := 26) (p := (!(!r1760))) (q := (decide (a1.Kind = 2))) rfl rfl rfl rfl rfl) rfl rfl (fun hp => (x_field rfl fa_39x2 (ev (t := 3) rfl rfl))) ?_
  refine s_cval (p := ((!(!r1760)) && (decide (a1.Kind = 2)))) (v := (.int .i64 a1.To)) (won_ct (j := 8) (t := 26) (p := (!(!r1760))) (q := (decide (a1.Kind = 2))) rfl rfl rfl rfl rfl) rfl rfl (fun hp => (x_load rfl ty1x3 (ev (t := 27) rfl (Eq.trans (b := cv ((!(!r1760)) && (decide (a1.Kind = 2))) (.pointer (some ⟨g1689, 2, none⟩))) rfl (on_c hp))) (seg_cell (o' := 0) (j := 2) hm1762 (k := 3) rfl rfl rfl))) ?_
  refine s_ccall (p := ((!(!r1760)) && (decide (a1.Kind = 2)))) (v := (.bool r1763)) (J := fun w' => Mem w0 w' (cat [sg g1703 35 (0, 0) [] [(.int .i64 0), (.int .i64 a1.Buffer)] [], sg g1699 35 (0, 0) [] [(.int .i64 0), (.int .i64 0)] [], sg g1695 28 (0, 0) [] [(.slice none 0 0), (.slice none 0 0)] [], sg g1689 39 (0, 0) [] [(.int .i64 a1.Kind), (.int .i64 a1.Owner), (.int .i64 a1.To), (.int .i64 a1.Buffer)] [], sg g1685 28 (0, 0) [] [v0x0, v0x1] [], hF])) (won_ct (j := 8) (t := 26) (p := (!(!r1760))) (q := (decide (a1.Kind = 2))) rfl rfl rfl rfl rfl) rfl rfl (fun hp => (x_call rfl rfl cl_87 (map_lit (map_cons (ev (t := 28) rfl (Eq.trans (b := cv ((!(!r1760)) && (decide (a1.Kind = 2))) (.int .i64 a1.To)) rfl (on_c hp))) (map_cons rfl (map_cons rfl map_nil)))))) (fun hp => ((spec_l01In_ok (hR := (cat [])) (hF := cat [sg g1703 35 (0, 0) [] [(.int .i64 0), (.int .i64 a1.Buffer)] [], sg g1699 35 (0, 0) [] [(.int .i64 0), (.int .i64 0)] [], sg g1695 28 (0, 0) [] [(.slice none 0 0), (.slice none 0 0)] [], sg g1689 39 (0, 0) [] [(.int .i64 a1.Kind), (.int .i64 a1.Owner), (.int .i64 a1.To), (.int .i64 a1.Buffer)] [], sg g1685 28 (0, 0) [] [v0x0, v0x1] [], hF]) a1.To 0 5  (Mem.one hm1762) (bifT hr1763 hp))).mono fun e w2 h => ⟨h.1, Mem.un h.2⟩) hm1762 ?_
  intro w1764 hm1765
  refine s_cval (p := ((!(!r1760)) && (decide (a1.Kind = 2)))) (v := (.bool (!r1763))) (won_ct (j := 8) (t := 26) (p := (!(!r1760))) (q := (decide (a1.Kind = 2))) rfl rfl rfl rfl rfl) rfl rfl (fun hp => (x_not rfl (ev (t := 29) rfl (Eq.trans (b := cv ((!(!r1760)) && (decide (a1.Kind = 2))) (.bool r1763)) rfl (on_c hp))))) ?_
  refine s_cval (p := (!(!r1760))) (v := (.bool ((decide (a1.Kind = 2)) && (!r1763)))) (won_f (j := 4) (t := 22) (q := (!r1760)) rfl rfl rfl rfl rfl) rfl rfl (fun hp => (x_pick_and rfl (ev (t := 26) rfl (Eq.trans (b := cv (!(!r1760)) (.bool (decide (a1.Kind = 2)))) rfl (on_c hp))) (fun hq => ev rfl (Eq.trans (b := cv ((!(!r1760)) && (decide (a1.Kind = 2))) (.bool (!r1763))) rfl (on_c (and_i hp hq)))) rfl)) ?_
  refine s_val (v := (.bool ((!r1760) || ((decide (a1.Kind = 2)) && (!r1763))))) (won rfl) rfl rfl (x_pick_or rfl (ev (t := 22) rfl rfl) rfl (fun hq => ev rfl (Eq.trans (b := cv (!(!r1760)) (.bool ((decide (a1.Kind = 2)) && (!r1763)))) rfl (on_c (not_i hq))))) ?_
  refine wpList_nil ?_
  refine nx ?_
  rcases Bool.eq_false_or_eq_true (((!r1760) || ((decide (a1.Kind = 2)) && (!r1763)))) with hb1766 | hb1766
  ·
   replace he := bifT he hb1766
   refine c_true rfl (p := ((!r1760) || ((decide (a1.Kind = 2)) && (!r1763)))) rfl rfl hb1766 ?_
   refine wp_seq ?_
   refine wp_region_lit ?_
   refine s_val (v := (.pointer (some ⟨g1703, 0, none⟩))) (won rfl) rfl rfl (x_field rfl fa_35x0 (ev (t := 6) rfl rfl)) ?_
   refine s_exs (won rfl) rfl (e_store (vs := [(.int .i64 4)]) (o' := 0) (j := 0) rfl sz_3 (ev (t := 33) rfl rfl) rfl rfl rfl hm1765 (k := 0) rfl rfl rfl) ?_
   intro w1767 hm1768
   replace hm1768 : Mem w0 w1767 (cat [sg g1703 35 (0, 0) [] [(.int .i64 4), (.int .i64 a1.Buffer)] [], sg g1699 35 (0, 0) [] [(.int .i64 0), (.int .i64 0)] [], sg g1695 28 (0, 0) [] [(.slice none 0 0), (.slice none 0 0)] [], sg g1689 39 (0, 0) [] [(.int .i64 a1.Kind), (.int .i64 a1.Owner), (.int .i64 a1.To), (.int .i64 a1.Buffer)] [], sg g1685 28 (0, 0) [] [v0x0, v0x1] [], hF]) := hm1768
   refine wpList_nil ?_
   refine nx ?_
   obtain ⟨s1778, hT1780, hk1779⟩ := bindE he
   replace he := hT1780
   refine wp_seqJ (fun a w => ∃ (f : Nat → Value), a = fr 145 f ∧ f 2 = (.pointer (some ⟨g1685, 0, none⟩)) ∧ f 4 = (.pointer (some ⟨g1695, 0, none⟩)) ∧ f 5 = (.pointer (some ⟨g1699, 0, none⟩)) ∧ f 6 = (.pointer (some ⟨g1703, 0, none⟩)) ∧ Mem w0 w (cat [sg g1685 28 (0, 0) [] [v0x0, v0x1] [], sg g1695 28 (0, 0) [] [(.slice none 0 0), (.slice none 0 0)] [], sg g1699 35 (0, 0) [] [(.int .i64 0), (.int .i64 0)] [], sg g1703 35 (0, 0) [] [(.int .i64 4), (.int .i64 s1778)] [], hF])) ?_ ?_
   ·
    refine wp_seq ?_
    refine wp_region_lit ?_
    refine s_val (v := (.pointer (some ⟨g1689, 0, none⟩))) (won rfl) rfl rfl (x_field rfl fa_39x0 (ev (t := 3) rfl rfl)) ?_
    refine s_val (v := (.int .i64 a1.Kind)) (won rfl) rfl rfl (x_load rfl ty1x3 (ev (t := 34) rfl rfl) (seg_cell (o' := 0) (j := 0) hm1768 (k := 3) rfl rfl rfl)) ?_
    refine s_val (v := (.bool (decide (a1.Kind = 1)))) (won rfl) rfl rfl (x_eql rfl (ev (t := 35) rfl rfl) rfl) ?_
    refine s_val (v := (.bool (decide (a1.Kind = 1)))) (won rfl) rfl rfl (x_move rfl (ev (t := 36) rfl rfl)) ?_
    refine s_cval (p := (!(decide (a1.Kind = 1)))) (v := (.pointer (some ⟨g1689, 0, none⟩))) (won_f (j := 3) (t := 37) (q := (decide (a1.Kind = 1))) rfl rfl rfl rfl rfl) rfl rfl (fun hp => (x_field rfl fa_39x0 (ev (t := 3) rfl rfl))) ?_
    refine s_cval (p := (!(decide (a1.Kind = 1)))) (v := (.int .i64 a1.Kind)) (won_f (j := 3) (t := 37) (q := (decide (a1.Kind = 1))) rfl rfl rfl rfl rfl) rfl rfl (fun hp => (x_load rfl ty1x3 (ev (t := 38) rfl (Eq.trans (b := cv (!(decide (a1.Kind = 1))) (.pointer (some ⟨g1689, 0, none⟩))) rfl (on_c hp))) (seg_cell (o' := 0) (j := 0) hm1768 (k := 3) rfl rfl rfl))) ?_
    refine s_cval (p := (!(decide (a1.Kind = 1)))) (v := (.bool (decide (a1.Kind = 4)))) (won_f (j := 3) (t := 37) (q := (decide (a1.Kind = 1))) rfl rfl rfl rfl rfl) rfl rfl (fun hp => (x_eql rfl (ev (t := 39) rfl (Eq.trans (b := cv (!(decide (a1.Kind = 1))) (.int .i64 a1.Kind)) rfl (on_c hp))) rfl)) ?_
    refine s_val (v := (.bool ((decide (a1.Kind = 1)) || (decide (a1.Kind = 4))))) (won rfl) rfl rfl (x_pick_or rfl (ev (t := 37) rfl rfl) rfl (fun hq => ev rfl (Eq.trans (b := cv (!(decide (a1.Kind = 1))) (.bool (decide (a1.Kind = 4)))) rfl (on_c (not_i hq))))) ?_
    refine wpList_nil ?_
    have hm1781 : Mem w0 w1767 (cat [sg g1703 35 (0, 0) [] [(.int .i64 4), (.int .i64 a1.Buffer)] [], sg g1699 35 (0, 0) [] [(.int .i64 0), (.int .i64 0)] [], sg g1695 28 (0, 0) [] [(.slice none 0 0), (.slice none 0 0)] [], sg g1685 28 (0, 0) [] [v0x0, v0x1] [], hF]) := Mem.pick [0, 1, 2, 4, 5] rfl hm1768
    refine nx ?_
    rcases Bool.eq_false_or_eq_true (((decide (a1.Kind = 1)) || (decide (a1.Kind = 4)))) with hb1782 | hb1782
    ·
     replace he := bifT he hb1782
     refine c_true rfl (p := ((decide (a1.Kind = 1)) || (decide (a1.Kind = 4)))) rfl rfl hb1782 ?_
     refine wp_region_lit ?_
     refine s_val (v := (.pointer (some ⟨g1703, 1, none⟩))) (won rfl) rfl rfl (x_field rfl fa_35x1 (ev (t := 6) rfl rfl)) ?_
     refine s_exs (won rfl) rfl (e_store (vs := [(.int .i64 0)]) (o' := 0) (j := 1) rfl sz_3 (ev (t := 42) rfl rfl) rfl rfl rfl hm1781 (k := 0) rfl rfl rfl) ?_
     intro w1783 hm1784
     replace hm1784 : Mem w0 w1783 (cat [sg g1703 35 (0, 0) [] [(.int .i64 4), (.int .i64 0)] [], sg g1699 35 (0, 0) [] [(.int .i64 0), (.int .i64 0)] [], sg g1695 28 (0, 0) [] [(.slice none 0 0), (.slice none 0 0)] [], sg g1685 28 (0, 0) [] [v0x0, v0x1] [], hF]) := hm1784
     refine wpList_nil ?_
     refine nx ?_
     obtain rfl := Option.some.inj he
     exact ⟨_, rfl, rfl, rfl, rfl, rfl, Mem.pick [3, 2, 1, 0, 4] rfl hm1784⟩
    ·
     replace he := bifF he hb1782
     refine c_false rfl (p := ((decide (a1.Kind = 1)) || (decide (a1.Kind = 4)))) rfl rfl hb1782 ?_
     refine wp_skip ?_
     refine nx ?_
     obtain rfl := Option.some.inj he
     exact ⟨_, rfl, rfl, rfl, rfl, rfl, Mem.pick [3, 2, 1, 0, 4] rfl hm1781⟩
   ·
    rintro a w ⟨f, rfl, q1773, q1774, q1775, q1777, hm1786⟩
    replace he := hk1779
    refine wp_seq ?_
    refine wp_fit [(0, 1), (1, 0), (2, 2), (3, 2)] (fun w' => Mem w0 w' (cat [sg g1685 28 (0, 0) [] [v0x0, v0x1] [], sg g1703 35 (0, 0) [] [(.int .i64 4), (.int .i64 s1778)] [], hF])) mixed (by kernel_rfl) (Mem.drew (Mem.pick [0, 3, 4] rfl hm1786)) ?_
    have hm1787 := Mem.drew hm1786
    refine z_r (v := (.agg #[v0x0, v0x1])) rfl (won rfl) rfl rfl ((x_loadN (vs := [v0x0, v0x1]) rfl tyN_28 (ev (t := 2) (v := (.pointer (some ⟨g1685, 0, none⟩))) rfl q1773) (seg_cells (o' := 0) (j := 0) hm1787 (k := 0) rfl rfl rfl))) ?_
    refine z_q (v := (.agg #[(.int .i64 4), (.int .i64 s1778)])) rfl (won rfl) rfl rfl (fun wq hq => (x_loadN (vs := [(.int .i64 4), (.int .i64 s1778)]) rfl tyN_35 (ev (t := 6) (v := (.pointer (some ⟨g1703, 0, none⟩))) rfl q1777) (seg_cells (o' := 0) (j := 0) hq (k := 1) rfl rfl rfl))) ?_
    refine z_exs rfl (won rfl) rfl (e_store (vs := [v0x0, v0x1]) (o' := 0) (j := 0) rfl sz_28 (ev (t := 4) (v := (.pointer (some ⟨g1695, 0, none⟩))) rfl q1774) (ev (t := 43) rfl rfl) rfl (one_cons (IsSl.one (H0x0).sl) (one_cons (IsSl.one (H0x1).sl) one_nil)) hm1787 (k := 1) rfl rfl rfl) ?_
    intro w1788 hm1789
    replace hm1789 : Mem w0 w1788 (cat [sg g1685 28 (0, 0) [] [v0x0, v0x1] [], sg g1695 28 (0, 0) [] [v0x0, v0x1] [], sg g1699 35 (0, 0) [] [(.int .i64 0), (.int .i64 0)] [], sg g1703 35 (0, 0) [] [(.int .i64 4), (.int .i64 s1778)] [], hF]) := hm1789
    refine ⟨Mem.pick [0, 3, 4] rfl hm1789, ?_⟩
    refine z_exs rfl (won rfl) rfl (e_store (vs := [(.int .i64 4), (.int .i64 s1778)]) (o' := 0) (j := 0) rfl sz_35 (ev (t := 5) (v := (.pointer (some ⟨g1699, 0, none⟩))) rfl q1775) (ev (t := 44) rfl rfl) rfl rfl hm1789 (k := 2) rfl rfl rfl) ?_
    intro w1790 hm1791
    replace hm1791 : Mem w0 w1790 (cat [sg g1685 28 (0, 0) [] [v0x0, v0x1] [], sg g1695 28 (0, 0) [] [v0x0, v0x1] [], sg g1699 35 (0, 0) [] [(.int .i64 4), (.int .i64 s1778)] [], sg g1703 35 (0, 0) [] [(.int .i64 4), (.int .i64 s1778)] [], hF]) := hm1791
    refine ⟨Mem.pick [0, 3, 4] rfl hm1791, ?_⟩
    refine z_nil ?_
    have hm1792 : Mem w0 w1790 (cat [sg g1695 28 (0, 0) [] [v0x0, v0x1] [], sg g1699 35 (0, 0) [] [(.int .i64 4), (.int .i64 s1778)] [], hF]) := Mem.pick [1, 2, 4] rfl hm1791
    refine nx ?_
    refine wp_ret ?_
    refine xr ?_
    obtain rfl := Option.some.inj he
    refine r_ret (v := (.tuple #[(.agg #[v0x0, v0x1]), (.agg #[(.int .i64 4), (.int .i64 s1778)])])) (rv_list rfl rfl (RVs.cell (cs := [v0x0, v0x1]) rfl q1774 tyN_28 (seg_cells (o' := 0) (j := 0) hm1792 (k := 0) rfl rfl rfl) (RVs.cell (cs := [(.int .i64 4), (.int .i64 s1778)]) rfl q1775 tyN_35 (seg_cells (o' := 0) (j := 0) hm1792 (k := 1) rfl rfl rfl) RVs.nil))) rfl ?_
    exact ⟨v0x0, v0x1, (cat []), rfl, (H0x0.mono (Sub.at_ (k := 0) rfl)), (H0x1.mono (Sub.at_ (k := 0) rfl)), Mem.zgrp [] [] _ (Mem.pick [2] rfl hm1792)⟩
  ·
   replace he := bifF he hb1766
   refine c_false rfl (p := ((!r1760) || ((decide (a1.Kind = 2)) && (!r1763)))) rfl rfl hb1766 ?_
   refine wp_skip ?_
   refine nx ?_
   refine wp_seq ?_
   obtain ⟨r1793, hr1793, he⟩ := bindE he
   refine wp_region_lit ?_
   refine s_val (v := (.agg #[v0x0, v0x1])) (won rfl) rfl rfl (x_loadN (vs := [v0x0, v0x1]) rfl tyN_28 (ev (t := 2) rfl rfl) (seg_cells (o' := 0) (j := 0) hm1765 (k := 4) rfl rfl rfl)) ?_
   refine s_call (won rfl) rfl rfl (x_call rfl rfl cl_62 (map_lit (map_cons (ev (t := 45) rfl rfl) map_nil))) (spec_l12Own_ok (hR := (cat [hR])) (hF := cat [sg g1703 35 (0, 0) [] [(.int .i64 0), (.int .i64 a1.Buffer)] [], sg g1699 35 (0, 0) [] [(.int .i64 0), (.int .i64 0)] [], sg g1695 28 (0, 0) [] [(.slice none 0 0), (.slice none 0 0)] [], sg g1689 39 (0, 0) [] [(.int .i64 a1.Kind), (.int .i64 a1.Owner), (.int .i64 a1.To), (.int .i64 a1.Buffer)] [], sg g1685 28 (0, 0) [] [v0x0, v0x1] [], hF]) a0 (H0x0.mono (Sub.at_ (k := 0) rfl)) (H0x1.mono (Sub.at_ (k := 0) rfl)) (subc (Sub.trans hs (Sub.at_ (k := 5) rfl)) subn) (Mem.one hm1765) hr1793) ?_
   rintro e w1802 ⟨v1795, h1797, v1799, h1801, rfl, H1796, H1800, hm1803⟩
   refine ⟨_, rfl, ?_⟩
   replace hm1803 : Mem w0 w1802 (cat [h1797, h1801, sg g1703 35 (0, 0) [] [(.int .i64 0), (.int .i64 a1.Buffer)] [], sg g1699 35 (0, 0) [] [(.int .i64 0), (.int .i64 0)] [], sg g1695 28 (0, 0) [] [(.slice none 0 0), (.slice none 0 0)] [], sg g1689 39 (0, 0) [] [(.int .i64 a1.Kind), (.int .i64 a1.Owner), (.int .i64 a1.To), (.int .i64 a1.Buffer)] [], sg g1685 28 (0, 0) [] [v0x0, v0x1] [], hF]) := Mem.ung [h1797, h1801] [sg g1703 35 (0, 0) [] [(.int .i64 0), (.int .i64 a1.Buffer)] [], sg g1699 35 (0, 0) [] [(.int .i64 0), (.int .i64 0)] [], sg g1695 28 (0, 0) [] [(.slice none 0 0), (.slice none 0 0)] [], sg g1689 39 (0, 0) [] [(.int .i64 a1.Kind), (.int .i64 a1.Owner), (.int .i64 a1.To), (.int .i64 a1.Buffer)] [], sg g1685 28 (0, 0) [] [v0x0, v0x1] [], hF] hm1803
   refine s_exv (won rfl) rfl rfl (e_alloc (vs := [(.slice none 0 0), (.slice none 0 0)]) rfl zt_28 rfl hm1803) ?_
   rintro g1806 w1807 hm1808
   refine s_exs (won rfl) rfl (e_store (vs := [v1795, v1799]) (o' := 0) (j := 0) rfl sz_28 (ev (t := 7) rfl rfl) (ev (t := 46) rfl rfl) rfl (one_cons (IsSl.one (H1796).sl) (one_cons (IsSl.one (H1800).sl) one_nil)) hm1808 (k := 0) rfl rfl rfl) ?_
   intro w1810 hm1811
   replace hm1811 : Mem w0 w1810 (cat [sg g1806 28 (0, 0) [] [v1795, v1799] [], h1797, h1801, sg g1703 35 (0, 0) [] [(.int .i64 0), (.int .i64 a1.Buffer)] [], sg g1699 35 (0, 0) [] [(.int .i64 0), (.int .i64 0)] [], sg g1695 28 (0, 0) [] [(.slice none 0 0), (.slice none 0 0)] [], sg g1689 39 (0, 0) [] [(.int .i64 a1.Kind), (.int .i64 a1.Owner), (.int .i64 a1.To), (.int .i64 a1.Buffer)] [], sg g1685 28 (0, 0) [] [v0x0, v0x1] [], hF]) := hm1811
   refine wpList_nil ?_
   refine nx ?_
   obtain ⟨l2540, hT2542, hk2541⟩ := bindE he
   replace he := hT2542
   refine wp_seqJ (fun a w => ∃ (s2539 : (Unit)) (f : Nat → Value), l2540 = Fl.go s2539 ∧ a = fr 145 f ∧ f 2 = (.pointer (some ⟨g1685, 0, none⟩)) ∧ f 3 = (.pointer (some ⟨g1689, 0, none⟩)) ∧ f 4 = (.pointer (some ⟨g1695, 0, none⟩)) ∧ f 5 = (.pointer (some ⟨g1699, 0, none⟩)) ∧ f 6 = (.pointer (some ⟨g1703, 0, none⟩)) ∧ f 7 = (.pointer (some ⟨g1806, 0, none⟩)) ∧ Mem w0 w (cat [sg g1685 28 (0, 0) [] [v0x0, v0x1] [], sg g1689 39 (0, 0) [] [(.int .i64 a1.Kind), (.int .i64 a1.Owner), (.int .i64 a1.To), (.int .i64 a1.Buffer)] [], sg g1695 28 (0, 0) [] [(.slice none 0 0), (.slice none 0 0)] [], sg g1699 35 (0, 0) [] [(.int .i64 0), (.int .i64 0)] [], sg g1703 35 (0, 0) [] [(.int .i64 0), (.int .i64 a1.Buffer)] [], sg g1806 28 (0, 0) [] [v1795, v1799] [], h1797, h1801, hF])) ?_ ?_
   ·
    refine wp_seq ?_
    refine wp_region_lit ?_
    refine s_val (v := (.pointer (some ⟨g1689, 0, none⟩))) (won rfl) rfl rfl (x_field rfl fa_39x0 (ev (t := 3) rfl rfl)) ?_
    refine s_val (v := (.int .i64 a1.Kind)) (won rfl) rfl rfl (x_load rfl ty1x3 (ev (t := 47) rfl rfl) (seg_cell (o' := 0) (j := 0) hm1811 (k := 6) rfl rfl rfl)) ?_
    refine wpList_nil ?_
    refine nx ?_
    refine wp_block ?_
    refine wp_seq ?_
    refine wp_region_lit ?_
    refine s_val (v := (.bool (decide (a1.Kind = 1)))) (won rfl) rfl rfl (x_eql rfl (ev (t := 48) rfl rfl) rfl) ?_
    refine s_val (v := (.bool (decide (a1.Kind = 1)))) (won rfl) rfl rfl (x_assign rfl (ev (t := 50) rfl rfl)) ?_
    refine wpList_nil ?_
    refine nx ?_
    rcases Bool.eq_false_or_eq_true ((decide (a1.Kind = 1))) with hb2543 | hb2543
    ·
     replace he := bifT he hb2543
     refine c_true rfl (p := (decide (a1.Kind = 1))) rfl rfl hb2543 ?_
     refine wp_seq ?_
     refine wp_seq ?_
     refine wp_region_lit ?_
     refine s_val (v := (.pointer (some ⟨g1685, 0, none⟩))) (won rfl) rfl rfl (x_field rfl fa_28x0 (ev (t := 2) rfl rfl)) ?_
     refine s_val (v := v0x0) (won rfl) rfl rfl (x_load rfl ty1x26 (ev (t := 51) rfl rfl) (seg_cell (o' := 0) (j := 0) hm1811 (k := 7) rfl rfl rfl)) ?_
     refine s_val (v := (.int .i64 (a0.Free.length : Int))) (won rfl) rfl rfl (x_len rfl slt_26 (ev (t := 52) rfl rfl) (H0x0).sl) ?_
     refine s_val (v := (.bool (decide ((a0.Free.length : Int) = 0)))) (won rfl) rfl rfl (x_eql rfl (ev (t := 53) rfl rfl) rfl) ?_
     refine wpList_nil ?_
     refine nx ?_
     rcases Bool.eq_false_or_eq_true ((decide ((a0.Free.length : Int) = 0))) with hb2550 | hb2550
     ·
      replace he := bifT he hb2550
      refine c_true rfl (p := (decide ((a0.Free.length : Int) = 0))) rfl rfl hb2550 ?_
      refine wp_seq ?_
      refine wp_region_lit ?_
      refine s_val (v := (.agg #[v0x0, v0x1])) (won rfl) rfl rfl (x_loadN (vs := [v0x0, v0x1]) rfl tyN_28 (ev (t := 2) rfl rfl) (seg_cells (o' := 0) (j := 0) hm1811 (k := 7) rfl rfl rfl)) ?_
      refine s_val (v := (.agg #[(.int .i64 7), (.int .i64 0)])) (won rfl) rfl rfl (x_build (cells := [(.int .i64 7), (.int .i64 0)]) (zc := [.int .i64 0, .int .i64 0]) (sizes := [(0, 1), (1, 1)]) (ps := [(0, (.int .i64 7))]) rfl zt_35 rfl uf_35 ufz_35 (pmap_lit (pmap_cons rfl pmap_nil)) (fill_cons (cs := [(.int .i64 7)]) rfl rfl rfl fill_nil)) ?_
      refine s_exs (won rfl) rfl (e_store (vs := [v0x0, v0x1]) (o' := 0) (j := 0) rfl sz_28 (ev (t := 4) rfl rfl) (ev (t := 55) rfl rfl) rfl (one_cons (IsSl.one (H0x0).sl) (one_cons (IsSl.one (H0x1).sl) one_nil)) hm1811 (k := 5) rfl rfl rfl) ?_
      intro w2551 hm2552
      replace hm2552 : Mem w0 w2551 (cat [sg g1806 28 (0, 0) [] [v1795, v1799] [], h1797, h1801, sg g1703 35 (0, 0) [] [(.int .i64 0), (.int .i64 a1.Buffer)] [], sg g1699 35 (0, 0) [] [(.int .i64 0), (.int .i64 0)] [], sg g1695 28 (0, 0) [] [v0x0, v0x1] [], sg g1689 39 (0, 0) [] [(.int .i64 a1.Kind), (.int .i64 a1.Owner), (.int .i64 a1.To), (.int .i64 a1.Buffer)] [], sg g1685 28 (0, 0) [] [v0x0, v0x1] [], hF]) := hm2552
      refine s_exs (won rfl) rfl (e_store (vs := [(.int .i64 7), (.int .i64 0)]) (o' := 0) (j := 0) rfl sz_35 (ev (t := 5) rfl rfl) (ev (t := 56) rfl rfl) rfl rfl hm2552 (k := 4) rfl rfl rfl) ?_
      intro w2553 hm2554
      replace hm2554 : Mem w0 w2553 (cat [sg g1806 28 (0, 0) [] [v1795, v1799] [], h1797, h1801, sg g1703 35 (0, 0) [] [(.int .i64 0), (.int .i64 a1.Buffer)] [], sg g1699 35 (0, 0) [] [(.int .i64 7), (.int .i64 0)] [], sg g1695 28 (0, 0) [] [v0x0, v0x1] [], sg g1689 39 (0, 0) [] [(.int .i64 a1.Kind), (.int .i64 a1.Owner), (.int .i64 a1.To), (.int .i64 a1.Buffer)] [], sg g1685 28 (0, 0) [] [v0x0, v0x1] [], hF]) := hm2554
      refine wpList_nil ?_
      have hm2555 : Mem w0 w2553 (cat [sg g1699 35 (0, 0) [] [(.int .i64 7), (.int .i64 0)] [], sg g1695 28 (0, 0) [] [v0x0, v0x1] [], hF]) := Mem.pick [4, 5, 8] rfl hm2554
      refine nx ?_
      refine wp_ret ?_
      refine xr ?_
      refine rb ?_
      refine xr ?_
      obtain rfl := Option.some.inj he
      replace he := outE hk2541
      obtain rfl := Option.some.inj he
      refine r_ret (v := (.tuple #[(.agg #[v0x0, v0x1]), (.agg #[(.int .i64 7), (.int .i64 0)])])) (rv_list rfl rfl (RVs.cell (cs := [v0x0, v0x1]) rfl rfl tyN_28 (seg_cells (o' := 0) (j := 0) hm2555 (k := 1) rfl rfl rfl) (RVs.cell (cs := [(.int .i64 7), (.int .i64 0)]) rfl rfl tyN_35 (seg_cells (o' := 0) (j := 0) hm2555 (k := 0) rfl rfl rfl) RVs.nil))) rfl ?_
      exact ⟨v0x0, v0x1, (cat []), rfl, (H0x0.mono (Sub.at_ (k := 0) rfl)), (H0x1.mono (Sub.at_ (k := 0) rfl)), Mem.zgrp [] [] _ (Mem.pick [2] rfl hm2555)⟩
     ·
      replace he := bifF he hb2550
      refine c_false rfl (p := (decide ((a0.Free.length : Int) = 0))) rfl rfl hb2550 ?_
      refine wp_skip ?_
      refine nx ?_
      refine wp_seq ?_
      obtain ⟨hg2556, he⟩ := gdE he
      refine wp_region_lit ?_
      refine s_val (v := (.pointer (some ⟨g1685, 0, none⟩))) (won rfl) rfl rfl (x_field rfl fa_28x0 (ev (t := 2) rfl rfl)) ?_
      refine s_val (v := v0x0) (won rfl) rfl rfl (x_load rfl ty1x26 (ev (t := 57) rfl rfl) (seg_cell (o' := 0) (j := 0) hm1811 (k := 7) rfl rfl rfl)) ?_
      refine s_val (v := (.pointer (some ((slA v0x0).add (Int.toNat 0 * 1))))) (won rfl) rfl rfl (x_index (d := (FK.int .i64)) rfl slt_26 (ev (t := 58) rfl rfl) rfl H0x0 hg2556.1 hg2556.2) ?_
      refine s_val (v := (.int .i64 (ix a0.Free 0))) (won rfl) rfl rfl (x_load rfl ty1x3 (ev (t := 59) rfl rfl) (RdF.cell0 H0x0 hm1811 (Sub.trans hs (Sub.at_ (k := 8) rfl)) hg2556.1 hg2556.2 rfl)) ?_
      refine s_val (v := (.pointer (some ⟨g1703, 1, none⟩))) (won rfl) rfl rfl (x_field rfl fa_35x1 (ev (t := 6) rfl rfl)) ?_
      refine s_exs (won rfl) rfl (e_store (vs := [(.int .i64 (ix a0.Free 0))]) (o' := 0) (j := 1) rfl sz_3 (ev (t := 61) rfl rfl) (ev (t := 60) rfl rfl) rfl rfl hm1811 (k := 3) rfl rfl rfl) ?_
      intro w2557 hm2558
      replace hm2558 : Mem w0 w2557 (cat [sg g1806 28 (0, 0) [] [v1795, v1799] [], h1797, h1801, sg g1703 35 (0, 0) [] [(.int .i64 0), (.int .i64 (ix a0.Free 0))] [], sg g1699 35 (0, 0) [] [(.int .i64 0), (.int .i64 0)] [], sg g1695 28 (0, 0) [] [(.slice none 0 0), (.slice none 0 0)] [], sg g1689 39 (0, 0) [] [(.int .i64 a1.Kind), (.int .i64 a1.Owner), (.int .i64 a1.To), (.int .i64 a1.Buffer)] [], sg g1685 28 (0, 0) [] [v0x0, v0x1] [], hF]) := hm2558
      refine wpList_nil ?_
      refine nx ?_
      refine wp_seq ?_
      obtain ⟨hg2564, he⟩ := gdE he
      obtain ⟨hg2566, he⟩ := gdE he
      refine wp_region_lit ?_
      refine s_exv (won rfl) rfl rfl (e_litp (cells := []) (ps := []) rfl slt_26 (pmap_lit pmap_nil) (fun w1 => run_bslice0 slt_26) hm2558) ?_
      rintro g2561 w2559 hm2560
      have H2562 : OwF 3 (FK.int .i64) (.slice (some ⟨g2561, 0, none⟩) 0 0) ([] : List Int) (sg g2561 3 (0, 0) [] (encs (FK.int .i64) ([] : List Int)) []) := OwF.lit g2561 ([] : List Int) 0 rfl (by decide)
      replace hm2560 : Mem w0 w2559 (cat [(sg g2561 3 (0, 0) [] (encs (FK.int .i64) ([] : List Int)) []), sg g1806 28 (0, 0) [] [v1795, v1799] [], h1797, h1801, sg g1703 35 (0, 0) [] [(.int .i64 0), (.int .i64 (ix a0.Free 0))] [], sg g1699 35 (0, 0) [] [(.int .i64 0), (.int .i64 0)] [], sg g1695 28 (0, 0) [] [(.slice none 0 0), (.slice none 0 0)] [], sg g1689 39 (0, 0) [] [(.int .i64 a1.Kind), (.int .i64 a1.Owner), (.int .i64 a1.To), (.int .i64 a1.Buffer)] [], sg g1685 28 (0, 0) [] [v0x0, v0x1] [], hF]) := hm2560
      refine s_val (v := (.pointer (some ⟨g1685, 0, none⟩))) (won rfl) rfl rfl (x_field rfl fa_28x0 (ev (t := 2) rfl rfl)) ?_
      refine s_val (v := v0x0) (won rfl) rfl rfl (x_load rfl ty1x26 (ev (t := 63) rfl rfl) (seg_cell (o' := 0) (j := 0) hm2560 (k := 8) rfl rfl rfl)) ?_
      refine s_val (v := (cutV v0x0 (Int.toNat 1) a0.Free.length 1)) (won rfl) rfl rfl (y_slice_l rfl slt_26 (ev (t := 64) rfl rfl) rfl (H0x0).sl hg2564.1 hg2564.2) ?_
      refine s_exv (won rfl) rfl rfl (e_append (bytes := 8) rfl slt_26 rfl (ev (t := 62) rfl rfl) (ev (t := 65) rfl rfl) H2562 (k := 0) rfl (cutV_rd (a := (Int.toNat 1)) (b := a0.Free.length) H0x0 (by have := hg2564; omega) (Nat.le_refl _)) (Sub.trans hs (Sub.at_ (k := 9) rfl)) hm2560 hg2566 (len63 hg2566 rfl)) ?_
      rintro p2568 w2570 ⟨H2569, hm2571⟩
      replace hm2571 : Mem w0 w2570 (cat [p2568.2, sg g1806 28 (0, 0) [] [v1795, v1799] [], h1797, h1801, sg g1703 35 (0, 0) [] [(.int .i64 0), (.int .i64 (ix a0.Free 0))] [], sg g1699 35 (0, 0) [] [(.int .i64 0), (.int .i64 0)] [], sg g1695 28 (0, 0) [] [(.slice none 0 0), (.slice none 0 0)] [], sg g1689 39 (0, 0) [] [(.int .i64 a1.Kind), (.int .i64 a1.Owner), (.int .i64 a1.To), (.int .i64 a1.Buffer)] [], sg g1685 28 (0, 0) [] [v0x0, v0x1] [], hF]) := hm2571
      refine s_val (v := (.pointer (some ⟨g1806, 0, none⟩))) (won rfl) rfl rfl (x_field rfl fa_28x0 (ev (t := 7) rfl rfl)) ?_
      refine s_exs (won rfl) rfl (e_store (vs := [p2568.1]) (o' := 0) (j := 0) rfl sz_26 (ev (t := 67) rfl rfl) (ev (t := 66) rfl rfl) (IsSl.cells (H2569).sl) (one_cons (IsSl.one (H2569).sl) one_nil) hm2571 (k := 1) rfl rfl rfl) ?_
      intro w2572 hm2573
      replace hm2573 : Mem w0 w2572 (cat [p2568.2, sg g1806 28 (0, 0) [] [p2568.1, v1799] [], h1797, h1801, sg g1703 35 (0, 0) [] [(.int .i64 0), (.int .i64 (ix a0.Free 0))] [], sg g1699 35 (0, 0) [] [(.int .i64 0), (.int .i64 0)] [], sg g1695 28 (0, 0) [] [(.slice none 0 0), (.slice none 0 0)] [], sg g1689 39 (0, 0) [] [(.int .i64 a1.Kind), (.int .i64 a1.Owner), (.int .i64 a1.To), (.int .i64 a1.Buffer)] [], sg g1685 28 (0, 0) [] [v0x0, v0x1] [], hF]) := hm2573
      refine wpList_nil ?_
      have hm2574 : Mem w0 w2572 (cat [p2568.2, sg g1806 28 (0, 0) [] [p2568.1, v1799] [], h1801, sg g1703 35 (0, 0) [] [(.int .i64 0), (.int .i64 (ix a0.Free 0))] [], sg g1699 35 (0, 0) [] [(.int .i64 0), (.int .i64 0)] [], sg g1695 28 (0, 0) [] [(.slice none 0 0), (.slice none 0 0)] [], sg g1689 39 (0, 0) [] [(.int .i64 a1.Kind), (.int .i64 a1.Owner), (.int .i64 a1.To), (.int .i64 a1.Buffer)] [], hF]) := Mem.pick [0, 1, 3, 4, 5, 6, 7, 9] rfl hm2573
      refine nx ?_
      refine wp_seq ?_
      obtain ⟨hg2575, he⟩ := gdE he
      refine wp_region_lit ?_
      refine s_val (v := (.pointer (some ⟨g1806, 1, none⟩))) (won rfl) rfl rfl (x_field rfl fa_28x1 (ev (t := 7) rfl rfl)) ?_
      refine s_val (v := v1799) (won rfl) rfl rfl (x_load rfl ty1x26 (ev (t := 68) rfl rfl) (seg_cell (o' := 0) (j := 1) hm2574 (k := 1) rfl rfl rfl)) ?_
      refine s_val (v := (.pointer (some ⟨g1703, 1, none⟩))) (won rfl) rfl rfl (x_field rfl fa_35x1 (ev (t := 6) rfl rfl)) ?_
      refine s_val (v := (.int .i64 (ix a0.Free 0))) (won rfl) rfl rfl (x_load rfl ty1x3 (ev (t := 70) rfl rfl) (seg_cell (o' := 0) (j := 1) hm2574 (k := 3) rfl rfl rfl)) ?_
      refine s_val (v := (.pointer (some ⟨g1689, 1, none⟩))) (won rfl) rfl rfl (x_field rfl fa_39x1 (ev (t := 3) rfl rfl)) ?_
      refine s_val (v := (.int .i64 a1.Owner)) (won rfl) rfl rfl (x_load rfl ty1x3 (ev (t := 72) rfl rfl) (seg_cell (o' := 0) (j := 1) hm2574 (k := 6) rfl rfl rfl)) ?_
      refine s_val (v := (.pointer (some ((slA v1799).add (Int.toNat (ix a0.Free 0) * 1))))) (won rfl) rfl rfl (x_index (d := (FK.int .i64)) rfl slt_26 (ev (t := 69) rfl rfl) (ev (t := 71) rfl rfl) (H1800.rd w0) hg2575.1 hg2575.2) ?_
      refine s_exw (won rfl) rfl (e_storeF (d := (FK.int .i64)) (s := a1.Owner) (vs := [(.int .i64 a1.Owner)]) (j := 0) rfl sz_3 (ev (t := 74) rfl rfl) (add_0 _).symm (ev (t := 73) rfl rfl) rfl rfl H1800 hg2575.1 hg2575.2 rfl rfl hm2574 (k := 2) rfl) ?_
      rintro h2576 w2578 ⟨H2577, hm2579⟩
      replace hm2579 : Mem w0 w2578 (cat [p2568.2, sg g1806 28 (0, 0) [] [p2568.1, v1799] [], h2576, sg g1703 35 (0, 0) [] [(.int .i64 0), (.int .i64 (ix a0.Free 0))] [], sg g1699 35 (0, 0) [] [(.int .i64 0), (.int .i64 0)] [], sg g1695 28 (0, 0) [] [(.slice none 0 0), (.slice none 0 0)] [], sg g1689 39 (0, 0) [] [(.int .i64 a1.Kind), (.int .i64 a1.Owner), (.int .i64 a1.To), (.int .i64 a1.Buffer)] [], hF]) := hm2579
      refine wpList_nil ?_
      have hm2580 : Mem w0 w2578 (cat [p2568.2, sg g1806 28 (0, 0) [] [p2568.1, v1799] [], h2576, sg g1703 35 (0, 0) [] [(.int .i64 0), (.int .i64 (ix a0.Free 0))] [], sg g1699 35 (0, 0) [] [(.int .i64 0), (.int .i64 0)] [], sg g1695 28 (0, 0) [] [(.slice none 0 0), (.slice none 0 0)] [], hF]) := Mem.pick [0, 1, 2, 3, 4, 5, 7] rfl hm2579
      refine nx ?_
      refine wp_seq ?_
      refine wp_fit [(0, 1), (1, 0), (2, 2), (3, 2)] (fun w' => Mem w0 w' (cat [p2568.2, sg g1806 28 (0, 0) [] [p2568.1, v1799] [], h2576, sg g1703 35 (0, 0) [] [(.int .i64 0), (.int .i64 (ix a0.Free 0))] [], hF])) mixed (by kernel_rfl) (Mem.drew (Mem.pick [0, 1, 2, 3, 6] rfl hm2580)) ?_
      have hm2581 := Mem.drew hm2580
      refine z_r (v := (.agg #[p2568.1, v1799])) rfl (won rfl) rfl rfl ((x_loadN (vs := [p2568.1, v1799]) rfl tyN_28 (ev (t := 7) rfl rfl) (seg_cells (o' := 0) (j := 0) hm2581 (k := 1) rfl rfl rfl))) ?_
      refine z_q (v := (.agg #[(.int .i64 0), (.int .i64 (ix a0.Free 0))])) rfl (won rfl) rfl rfl (fun wq hq => (x_loadN (vs := [(.int .i64 0), (.int .i64 (ix a0.Free 0))]) rfl tyN_35 (ev (t := 6) rfl rfl) (seg_cells (o' := 0) (j := 0) hq (k := 3) rfl rfl rfl))) ?_
      refine z_exs rfl (won rfl) rfl (e_store (vs := [p2568.1, v1799]) (o' := 0) (j := 0) rfl sz_28 (ev (t := 4) rfl rfl) (ev (t := 75) rfl rfl) rfl (one_cons (IsSl.one (H2569).sl) (one_cons (IsSl.one (H2577).sl) one_nil)) hm2581 (k := 5) rfl rfl rfl) ?_
      intro w2582 hm2583
      replace hm2583 : Mem w0 w2582 (cat [p2568.2, sg g1806 28 (0, 0) [] [p2568.1, v1799] [], h2576, sg g1703 35 (0, 0) [] [(.int .i64 0), (.int .i64 (ix a0.Free 0))] [], sg g1699 35 (0, 0) [] [(.int .i64 0), (.int .i64 0)] [], sg g1695 28 (0, 0) [] [p2568.1, v1799] [], hF]) := hm2583
      refine ⟨Mem.pick [0, 1, 2, 3, 6] rfl hm2583, ?_⟩
      refine z_exs rfl (won rfl) rfl (e_store (vs := [(.int .i64 0), (.int .i64 (ix a0.Free 0))]) (o' := 0) (j := 0) rfl sz_35 (ev (t := 5) rfl rfl) (ev (t := 76) rfl rfl) rfl rfl hm2583 (k := 4) rfl rfl rfl) ?_
      intro w2584 hm2585
      replace hm2585 : Mem w0 w2584 (cat [p2568.2, sg g1806 28 (0, 0) [] [p2568.1, v1799] [], h2576, sg g1703 35 (0, 0) [] [(.int .i64 0), (.int .i64 (ix a0.Free 0))] [], sg g1699 35 (0, 0) [] [(.int .i64 0), (.int .i64 (ix a0.Free 0))] [], sg g1695 28 (0, 0) [] [p2568.1, v1799] [], hF]) := hm2585
      refine ⟨Mem.pick [0, 1, 2, 3, 6] rfl hm2585, ?_⟩
      refine z_nil ?_
      have hm2586 : Mem w0 w2584 (cat [p2568.2, h2576, sg g1699 35 (0, 0) [] [(.int .i64 0), (.int .i64 (ix a0.Free 0))] [], sg g1695 28 (0, 0) [] [p2568.1, v1799] [], hF]) := Mem.pick [0, 2, 4, 5, 6] rfl hm2585
      refine nx ?_
      refine wp_ret ?_
      refine rb ?_
      refine xr ?_
      obtain rfl := Option.some.inj he
      replace he := outE hk2541
      obtain rfl := Option.some.inj he
      refine r_ret (v := (.tuple #[(.agg #[p2568.1, v1799]), (.agg #[(.int .i64 0), (.int .i64 (ix a0.Free 0))])])) (rv_list rfl rfl (RVs.cell (cs := [p2568.1, v1799]) rfl rfl tyN_28 (seg_cells (o' := 0) (j := 0) hm2586 (k := 3) rfl rfl rfl) (RVs.cell (cs := [(.int .i64 0), (.int .i64 (ix a0.Free 0))]) rfl rfl tyN_35 (seg_cells (o' := 0) (j := 0) hm2586 (k := 2) rfl rfl rfl) RVs.nil))) rfl ?_
      exact ⟨p2568.1, v1799, (cat [p2568.2, h2576]), rfl, ((H2569.rd w0).mono (Sub.trans (Sub.at_ (L := [p2568.2, h2576]) (k := 0) rfl) (Sub.at_ (k := 1) rfl))), ((H2577.rd w0).mono (Sub.trans (Sub.at_ (L := [p2568.2, h2576]) (k := 1) rfl) (Sub.at_ (k := 1) rfl))), Mem.zgrp [] [p2568.2, h2576] _ (Mem.pick [0, 1, 4] rfl hm2586)⟩
    ·
     replace he := bifF he hb2543
     refine c_false rfl (p := (decide (a1.Kind = 1))) rfl rfl hb2543 ?_
     refine wp_seq ?_
     refine wp_region_lit ?_
     refine s_val (v := (.bool (decide (a1.Kind = 4)))) (won rfl) rfl rfl (x_eql rfl (ev (t := 48) rfl rfl) rfl) ?_
     refine s_val (v := (.bool (decide (a1.Kind = 4)))) (won rfl) rfl rfl (x_assign rfl (ev (t := 78) rfl rfl)) ?_
     refine wpList_nil ?_
     refine nx ?_
     rcases Bool.eq_false_or_eq_true ((decide (a1.Kind = 4))) with hb2587 | hb2587
     ·
      replace he := bifT he hb2587
      refine c_true rfl (p := (decide (a1.Kind = 4))) rfl rfl hb2587 ?_
      refine wp_seq ?_
      refine wp_region_lit ?_
      refine s_val (v := (.pointer (some ⟨g1703, 1, none⟩))) (won rfl) rfl rfl (x_field rfl fa_35x1 (ev (t := 6) rfl rfl)) ?_
      refine s_exs (won rfl) rfl (e_store (vs := [(.int .i64 0)]) (o' := 0) (j := 1) rfl sz_3 (ev (t := 79) rfl rfl) rfl rfl rfl hm1811 (k := 3) rfl rfl rfl) ?_
      intro w2588 hm2589
      replace hm2589 : Mem w0 w2588 (cat [sg g1806 28 (0, 0) [] [v1795, v1799] [], h1797, h1801, sg g1703 35 (0, 0) [] [(.int .i64 0), (.int .i64 0)] [], sg g1699 35 (0, 0) [] [(.int .i64 0), (.int .i64 0)] [], sg g1695 28 (0, 0) [] [(.slice none 0 0), (.slice none 0 0)] [], sg g1689 39 (0, 0) [] [(.int .i64 a1.Kind), (.int .i64 a1.Owner), (.int .i64 a1.To), (.int .i64 a1.Buffer)] [], sg g1685 28 (0, 0) [] [v0x0, v0x1] [], hF]) := hm2589
      refine wpList_nil ?_
      have hm2590 : Mem w0 w2588 (cat [sg g1806 28 (0, 0) [] [v1795, v1799] [], h1797, h1801, sg g1703 35 (0, 0) [] [(.int .i64 0), (.int .i64 0)] [], sg g1699 35 (0, 0) [] [(.int .i64 0), (.int .i64 0)] [], sg g1695 28 (0, 0) [] [(.slice none 0 0), (.slice none 0 0)] [], sg g1689 39 (0, 0) [] [(.int .i64 a1.Kind), (.int .i64 a1.Owner), (.int .i64 a1.To), (.int .i64 a1.Buffer)] [], hF]) := Mem.pick [0, 1, 2, 3, 4, 5, 6, 8] rfl hm2589
      refine nx ?_
      obtain ⟨s2928, hT2930, hk2929⟩ := bindE he
      replace he := hT2930
      refine wp_seqJ (fun a w => ∃ (v2921 : Value) (h2922 : Hp) (h2925 : Hp) (f : Nat → Value), a = fr 145 f ∧ f 4 = (.pointer (some ⟨g1695, 0, none⟩)) ∧ f 5 = (.pointer (some ⟨g1699, 0, none⟩)) ∧ f 6 = (.pointer (some ⟨g1703, 0, none⟩)) ∧ f 7 = (.pointer (some ⟨g1806, 0, none⟩)) ∧ OwF 3 (FK.int .i64) v2921 s2928.2.1 h2922 ∧ OwF 3 (FK.int .i64) v1799 s2928.2.2 h2925 ∧ Mem w0 w (cat [sg g1695 28 (0, 0) [] [(.slice none 0 0), (.slice none 0 0)] [], sg g1699 35 (0, 0) [] [(.int .i64 0), (.int .i64 0)] [], sg g1703 35 (0, 0) [] [(.int .i64 0), (.int .i64 s2928.1)] [], sg g1806 28 (0, 0) [] [v2921, v1799] [], h2922, h2925, hF])) ?_ ?_
      ·
       refine wp_seq ?_
       refine wp_region_lit ?_
       refine s_val (v := (.int .i64 0)) (won rfl) rfl rfl (x_assign rfl rfl) ?_
       refine wpList_nil ?_
       refine nx ?_
       refine wp_block ?_
       refine wp_fuel (I := fun k => fun a w => ∃ (s3096 : Int) (s3098 : (List Int)) (s3102 : (List Int)) (s3106 : Int) (v3099 : Value) (h3100 : Hp) (h3103 : Hp) (f : Nat → Value), spec_l12Step_l1 F a1 k s3096 s3098 s3102 s3106 = some s2928 ∧ a = fr 145 f ∧ f 3 = (.pointer (some ⟨g1689, 0, none⟩)) ∧ f 4 = (.pointer (some ⟨g1695, 0, none⟩)) ∧ f 5 = (.pointer (some ⟨g1699, 0, none⟩)) ∧ f 6 = (.pointer (some ⟨g1703, 0, none⟩)) ∧ f 7 = (.pointer (some ⟨g1806, 0, none⟩)) ∧ f 8 = (.int .i64 s3106) ∧ OwF 3 (FK.int .i64) v3099 s3098 h3100 ∧ OwF 3 (FK.int .i64) v1799 s3102 h3103 ∧ Mem w0 w (cat [sg g1689 39 (0, 0) [] [(.int .i64 a1.Kind), (.int .i64 a1.Owner), (.int .i64 a1.To), (.int .i64 a1.Buffer)] [], sg g1695 28 (0, 0) [] [(.slice none 0 0), (.slice none 0 0)] [], sg g1699 35 (0, 0) [] [(.int .i64 0), (.int .i64 0)] [], sg g1703 35 (0, 0) [] [(.int .i64 0), (.int .i64 s3096)] [], sg g1806 28 (0, 0) [] [v3099, v1799] [], h3100, h3103, hF])) F _ _ ⟨0, r1793.Free, r1793.Owner, 0, v1795, h1797, h1801, _, he, rfl, rfl, rfl, rfl, rfl, rfl, rfl, H1796, H1800, Mem.pick [6, 5, 4, 3, 0, 1, 2, 7] rfl hm2590⟩ ?_ ?_
       ·
        rintro a w ⟨s3096, s3098, s3102, s3106, v3099, h3100, h3103, f, he, rfl, q3093, q3094, q3095, q3097, q3105, q3107, H3101, H3104, hm3181⟩
        rw [spec_l12Step_l1] at he; exact none_no he
       ·
        rintro k a w ⟨s3096, s3098, s3102, s3106, v3099, h3100, h3103, f, he, rfl, q3093, q3094, q3095, q3097, q3105, q3107, H3101, H3104, hm3183⟩
        rw [spec_l12Step_l1] at he
        refine wp_seq ?_
        refine wp_seq ?_
        refine wp_region_lit ?_
        refine s_val (v := (.int .i64 s3106)) (won rfl) rfl rfl (x_move rfl (ev (t := 8) (v := (.int .i64 s3106)) rfl q3107)) ?_
        refine s_val (v := (.pointer (some ⟨g1806, 1, none⟩))) (won rfl) rfl rfl (x_field rfl fa_28x1 (ev (t := 7) (v := (.pointer (some ⟨g1806, 0, none⟩))) rfl q3105)) ?_
        refine s_val (v := v1799) (won rfl) rfl rfl (x_load rfl ty1x26 (ev (t := 81) rfl rfl) (seg_cell (o' := 0) (j := 1) hm3183 (k := 4) rfl rfl rfl)) ?_
        refine s_val (v := (.int .i64 (s3102.length : Int))) (won rfl) rfl rfl (x_len rfl slt_26 (ev (t := 82) rfl rfl) (H3104).sl) ?_
        refine s_val (v := (.bool (decide (s3106 < (s3102.length : Int))))) (won rfl) rfl rfl (x_lss rfl (ev (t := 80) rfl rfl) (ev (t := 83) rfl rfl)) ?_
        refine wpList_nil ?_
        refine nx ?_
        rcases Bool.eq_false_or_eq_true ((decide (s3106 < (s3102.length : Int)))) with hb3185 | hb3185
        ·
         replace he := bifT he hb3185
         refine c_true rfl (p := (decide (s3106 < (s3102.length : Int)))) rfl rfl hb3185 ?_
         refine wp_skip ?_
         refine nx ?_
         obtain ⟨s3226, hT3228, hk3227⟩ := bindE he
         replace he := hT3228
         refine wp_seqJ (fun a w => ∃ (v3218 : Value) (h3219 : Hp) (h3222 : Hp) (f : Nat → Value), a = fr 145 f ∧ f 3 = (.pointer (some ⟨g1689, 0, none⟩)) ∧ f 4 = (.pointer (some ⟨g1695, 0, none⟩)) ∧ f 5 = (.pointer (some ⟨g1699, 0, none⟩)) ∧ f 6 = (.pointer (some ⟨g1703, 0, none⟩)) ∧ f 7 = (.pointer (some ⟨g1806, 0, none⟩)) ∧ f 8 = (.int .i64 s3106) ∧ OwF 3 (FK.int .i64) v3218 s3226.2.1 h3219 ∧ OwF 3 (FK.int .i64) v1799 s3226.2.2 h3222 ∧ Mem w0 w (cat [sg g1689 39 (0, 0) [] [(.int .i64 a1.Kind), (.int .i64 a1.Owner), (.int .i64 a1.To), (.int .i64 a1.Buffer)] [], sg g1695 28 (0, 0) [] [(.slice none 0 0), (.slice none 0 0)] [], sg g1699 35 (0, 0) [] [(.int .i64 0), (.int .i64 0)] [], sg g1703 35 (0, 0) [] [(.int .i64 0), (.int .i64 s3226.1)] [], sg g1806 28 (0, 0) [] [v3218, v1799] [], h3219, h3222, hF])) ?_ ?_
         ·
          refine wp_block ?_
          refine wp_seq ?_
          obtain ⟨hg3229, he⟩ := gdE he
          refine wp_qregion (cat [sg g1689 39 (0, 0) [] [(.int .i64 a1.Kind), (.int .i64 a1.Owner), (.int .i64 a1.To), (.int .i64 a1.Buffer)] [], sg g1695 28 (0, 0) [] [(.slice none 0 0), (.slice none 0 0)] [], sg g1699 35 (0, 0) [] [(.int .i64 0), (.int .i64 0)] [], sg g1703 35 (0, 0) [] [(.int .i64 0), (.int .i64 s3096)] [], sg g1806 28 (0, 0) [] [v3099, v1799] [], h3100, h3103, hF]) mixed (by kernel_rfl) hm3183 ?_
          refine q_val (v := (.pointer (some ⟨g1806, 1, none⟩))) (won rfl) rfl rfl (fun wq hq => (x_field rfl fa_28x1 (ev (t := 7) (v := (.pointer (some ⟨g1806, 0, none⟩))) rfl q3105))) ?_
          refine q_val (v := v1799) (won rfl) rfl rfl (fun wq hq => (x_load rfl ty1x26 (ev (t := 87) rfl rfl) (seg_cell (o' := 0) (j := 1) hq (k := 4) rfl rfl rfl))) ?_
          refine q_val (v := (.int .i64 s3106)) (won rfl) rfl rfl (fun wq hq => (x_move rfl (ev (t := 8) (v := (.int .i64 s3106)) rfl q3107))) ?_
          refine q_val (v := (.pointer (some ((slA v1799).add (Int.toNat s3106 * 1))))) (won rfl) rfl rfl (fun wq hq => (x_index (d := (FK.int .i64)) rfl slt_26 (ev (t := 88) rfl rfl) (ev (t := 89) rfl rfl) (H3104.rd w0) hg3229.1 hg3229.2)) ?_
          refine q_val (v := (.int .i64 (ix s3102 s3106))) (won rfl) rfl rfl (fun wq hq => (x_load rfl ty1x3 (ev (t := 90) rfl rfl) (RdF.cell0 (H3104.rd w0) hq (Sub.at_ (k := 6) rfl) hg3229.1 hg3229.2 rfl))) ?_
          refine q_val (v := (.pointer (some ⟨g1689, 1, none⟩))) (won rfl) rfl rfl (fun wq hq => (x_field rfl fa_39x1 (ev (t := 3) (v := (.pointer (some ⟨g1689, 0, none⟩))) rfl q3093))) ?_
          refine q_val (v := (.int .i64 a1.Owner)) (won rfl) rfl rfl (fun wq hq => (x_load rfl ty1x3 (ev (t := 92) rfl rfl) (seg_cell (o' := 0) (j := 1) hq (k := 0) rfl rfl rfl))) ?_
          refine q_val (v := (.bool (decide ((ix s3102 s3106) = a1.Owner)))) (won rfl) rfl rfl (fun wq hq => (x_eql rfl (ev (t := 91) rfl rfl) (ev (t := 93) rfl rfl))) ?_
          refine wpQuiet_nil ?_
          intro w3230 hm3231
          refine nx ?_
          rcases Bool.eq_false_or_eq_true ((decide ((ix s3102 s3106) = a1.Owner))) with hb3232 | hb3232
          ·
           replace he := bifT he hb3232
           refine c_true rfl (p := (decide ((ix s3102 s3106) = a1.Owner))) rfl rfl hb3232 ?_
           refine wp_seq ?_
           obtain ⟨hg3233, he⟩ := gdE he
           refine wp_region_lit ?_
           refine s_val (v := (.pointer (some ⟨g1806, 1, none⟩))) (won rfl) rfl rfl (x_field rfl fa_28x1 (ev (t := 7) (v := (.pointer (some ⟨g1806, 0, none⟩))) rfl q3105)) ?_
           refine s_val (v := v1799) (won rfl) rfl rfl (x_load rfl ty1x26 (ev (t := 95) rfl rfl) (seg_cell (o' := 0) (j := 1) hm3231 (k := 4) rfl rfl rfl)) ?_
           refine s_val (v := (.int .i64 s3106)) (won rfl) rfl rfl (x_move rfl (ev (t := 8) (v := (.int .i64 s3106)) rfl q3107)) ?_
           refine s_val (v := (.pointer (some ((slA v1799).add (Int.toNat s3106 * 1))))) (won rfl) rfl rfl (x_index (d := (FK.int .i64)) rfl slt_26 (ev (t := 96) rfl rfl) (ev (t := 97) rfl rfl) (H3104.rd w0) hg3233.1 hg3233.2) ?_
           refine s_exw (won rfl) rfl (e_storeF (d := (FK.int .i64)) (s := (-1)) (vs := [(.int .i64 (-1))]) (j := 0) rfl sz_3 (ev (t := 98) rfl rfl) (add_0 _).symm rfl rfl rfl H3104 hg3233.1 hg3233.2 rfl rfl hm3231 (k := 6) rfl) ?_
           rintro h3234 w3236 ⟨H3235, hm3237⟩
           replace hm3237 : Mem w0 w3236 (cat [sg g1689 39 (0, 0) [] [(.int .i64 a1.Kind), (.int .i64 a1.Owner), (.int .i64 a1.To), (.int .i64 a1.Buffer)] [], sg g1695 28 (0, 0) [] [(.slice none 0 0), (.slice none 0 0)] [], sg g1699 35 (0, 0) [] [(.int .i64 0), (.int .i64 0)] [], sg g1703 35 (0, 0) [] [(.int .i64 0), (.int .i64 s3096)] [], sg g1806 28 (0, 0) [] [v3099, v1799] [], h3100, h3234, hF]) := hm3237
           refine wpList_nil ?_
           refine nx ?_
           refine wp_seq ?_
           obtain ⟨hg3243, he⟩ := gdE he
           refine wp_region_lit ?_
           refine s_val (v := (.pointer (some ⟨g1806, 0, none⟩))) (won rfl) rfl rfl (x_field rfl fa_28x0 (ev (t := 7) (v := (.pointer (some ⟨g1806, 0, none⟩))) rfl q3105)) ?_
           refine s_val (v := v3099) (won rfl) rfl rfl (x_load rfl ty1x26 (ev (t := 99) rfl rfl) (seg_cell (o' := 0) (j := 0) hm3237 (k := 4) rfl rfl rfl)) ?_
           refine s_val (v := (.int .i64 s3106)) (won rfl) rfl rfl (x_move rfl (ev (t := 8) (v := (.int .i64 s3106)) rfl q3107)) ?_
           refine s_exv (won rfl) rfl rfl (e_litp (cells := [(.int .i64 s3106)]) (ps := [(0, (.int .i64 s3106))]) rfl slt_26 (pmap_lit (pmap_cons (ev (t := 101) rfl rfl) pmap_nil)) (fun w1 => run_bslicez (cells := [(.int .i64 s3106)]) (zs := [.int .i64 0]) (zc := [.int .i64 0]) slt_26 rfl rfl (by kernel_rfl) (fill_cons (cs := [(.int .i64 s3106)]) rfl rfl rfl fill_nil) (by decide)) hm3237) ?_
           rintro g3240 w3238 hm3239
           have H3241 : OwF 3 (FK.int .i64) (.slice (some ⟨g3240, 0, none⟩) 1 1) ([s3106] : List Int) (sg g3240 3 (0, 0) [] (encs (FK.int .i64) ([s3106] : List Int)) []) := OwF.lit g3240 ([s3106] : List Int) 1 rfl (by decide)
           replace hm3239 : Mem w0 w3238 (cat [(sg g3240 3 (0, 0) [] (encs (FK.int .i64) ([s3106] : List Int)) []), sg g1689 39 (0, 0) [] [(.int .i64 a1.Kind), (.int .i64 a1.Owner), (.int .i64 a1.To), (.int .i64 a1.Buffer)] [], sg g1695 28 (0, 0) [] [(.slice none 0 0), (.slice none 0 0)] [], sg g1699 35 (0, 0) [] [(.int .i64 0), (.int .i64 0)] [], sg g1703 35 (0, 0) [] [(.int .i64 0), (.int .i64 s3096)] [], sg g1806 28 (0, 0) [] [v3099, v1799] [], h3100, h3234, hF]) := hm3239
           refine s_exv (won rfl) rfl rfl (e_append (bytes := 8) rfl slt_26 rfl (ev (t := 100) rfl rfl) (ev (t := 102) rfl rfl) H3101 (k := 6) rfl (H3241.rd w0) (Sub.at_ (k := 0) rfl) hm3239 hg3243 (len63 hg3243 rfl)) ?_
           rintro p3245 w3247 ⟨H3246, hm3248⟩
           replace hm3248 : Mem w0 w3247 (cat [(sg g3240 3 (0, 0) [] (encs (FK.int .i64) ([s3106] : List Int)) []), sg g1689 39 (0, 0) [] [(.int .i64 a1.Kind), (.int .i64 a1.Owner), (.int .i64 a1.To), (.int .i64 a1.Buffer)] [], sg g1695 28 (0, 0) [] [(.slice none 0 0), (.slice none 0 0)] [], sg g1699 35 (0, 0) [] [(.int .i64 0), (.int .i64 0)] [], sg g1703 35 (0, 0) [] [(.int .i64 0), (.int .i64 s3096)] [], sg g1806 28 (0, 0) [] [v3099, v1799] [], p3245.2, h3234, hF]) := hm3248
           refine s_val (v := (.pointer (some ⟨g1806, 0, none⟩))) (won rfl) rfl rfl (x_field rfl fa_28x0 (ev (t := 7) (v := (.pointer (some ⟨g1806, 0, none⟩))) rfl q3105)) ?_
           refine s_exs (won rfl) rfl (e_store (vs := [p3245.1]) (o' := 0) (j := 0) rfl sz_26 (ev (t := 104) rfl rfl) (ev (t := 103) rfl rfl) (IsSl.cells (H3246).sl) (one_cons (IsSl.one (H3246).sl) one_nil) hm3248 (k := 5) rfl rfl rfl) ?_
           intro w3249 hm3250
           replace hm3250 : Mem w0 w3249 (cat [(sg g3240 3 (0, 0) [] (encs (FK.int .i64) ([s3106] : List Int)) []), sg g1689 39 (0, 0) [] [(.int .i64 a1.Kind), (.int .i64 a1.Owner), (.int .i64 a1.To), (.int .i64 a1.Buffer)] [], sg g1695 28 (0, 0) [] [(.slice none 0 0), (.slice none 0 0)] [], sg g1699 35 (0, 0) [] [(.int .i64 0), (.int .i64 0)] [], sg g1703 35 (0, 0) [] [(.int .i64 0), (.int .i64 s3096)] [], sg g1806 28 (0, 0) [] [p3245.1, v1799] [], p3245.2, h3234, hF]) := hm3250
           refine wpList_nil ?_
           have hm3251 : Mem w0 w3249 (cat [sg g1689 39 (0, 0) [] [(.int .i64 a1.Kind), (.int .i64 a1.Owner), (.int .i64 a1.To), (.int .i64 a1.Buffer)] [], sg g1695 28 (0, 0) [] [(.slice none 0 0), (.slice none 0 0)] [], sg g1699 35 (0, 0) [] [(.int .i64 0), (.int .i64 0)] [], sg g1703 35 (0, 0) [] [(.int .i64 0), (.int .i64 s3096)] [], sg g1806 28 (0, 0) [] [p3245.1, v1799] [], p3245.2, h3234, hF]) := Mem.pick [1, 2, 3, 4, 5, 6, 7, 8] rfl hm3250
           refine nx ?_
           refine wp_region_lit ?_
           refine s_val (v := (.pointer (some ⟨g1703, 1, none⟩))) (won rfl) rfl rfl (x_field rfl fa_35x1 (ev (t := 6) (v := (.pointer (some ⟨g1703, 0, none⟩))) rfl q3097)) ?_
           refine s_val (v := (.int .i64 s3096)) (won rfl) rfl rfl (x_load rfl ty1x3 (ev (t := 105) rfl rfl) (seg_cell (o' := 0) (j := 1) hm3251 (k := 3) rfl rfl rfl)) ?_
           refine s_val (v := (.int .i64 (IntKind.wrap .i64 (s3096 + 1)))) (won rfl) rfl rfl (x_add rfl (ev (t := 106) rfl rfl) rfl) ?_
           refine s_val (v := (.pointer (some ⟨g1703, 1, none⟩))) (won rfl) rfl rfl (x_field rfl fa_35x1 (ev (t := 6) (v := (.pointer (some ⟨g1703, 0, none⟩))) rfl q3097)) ?_
           refine s_exs (won rfl) rfl (e_store (vs := [(.int .i64 (IntKind.wrap .i64 (s3096 + 1)))]) (o' := 0) (j := 1) rfl sz_3 (ev (t := 108) rfl rfl) (ev (t := 107) rfl rfl) rfl rfl hm3251 (k := 3) rfl rfl rfl) ?_
           intro w3252 hm3253
           replace hm3253 : Mem w0 w3252 (cat [sg g1689 39 (0, 0) [] [(.int .i64 a1.Kind), (.int .i64 a1.Owner), (.int .i64 a1.To), (.int .i64 a1.Buffer)] [], sg g1695 28 (0, 0) [] [(.slice none 0 0), (.slice none 0 0)] [], sg g1699 35 (0, 0) [] [(.int .i64 0), (.int .i64 0)] [], sg g1703 35 (0, 0) [] [(.int .i64 0), (.int .i64 (IntKind.wrap .i64 (s3096 + 1)))] [], sg g1806 28 (0, 0) [] [p3245.1, v1799] [], p3245.2, h3234, hF]) := hm3253
           refine wpList_nil ?_
           refine nb ?_
           refine nx ?_
           obtain rfl := Option.some.inj he
           exact ⟨p3245.1, p3245.2, h3234, _, rfl, q3093, q3094, q3095, q3097, q3105, q3107, H3246, H3235, Mem.pick [0, 1, 2, 3, 4, 5, 6, 7] rfl hm3253⟩
          ·
           replace he := bifF he hb3232
           refine c_false rfl (p := (decide ((ix s3102 s3106) = a1.Owner))) rfl rfl hb3232 ?_
           refine wp_skip ?_
           refine nb ?_
           refine nx ?_
           obtain rfl := Option.some.inj he
           exact ⟨v3099, h3100, h3103, _, rfl, q3093, q3094, q3095, q3097, q3105, q3107, H3101, H3104, Mem.pick [0, 1, 2, 3, 4, 5, 6, 7] rfl hm3231⟩
         ·
          rintro a w ⟨v3218, h3219, h3222, f, rfl, q3211, q3212, q3213, q3215, q3224, q3225, H3220, H3223, hm3255⟩
          replace he := hk3227
          refine wp_region_lit ?_
          refine s_val (v := (.int .i64 s3106)) (won rfl) rfl rfl (x_move rfl (ev (t := 8) (v := (.int .i64 s3106)) rfl q3225)) ?_
          refine s_val (v := (.int .i64 (IntKind.wrap .i64 (s3106 + 1)))) (won rfl) rfl rfl (x_add rfl (ev (t := 85) rfl rfl) rfl) ?_
          refine s_val (v := (.int .i64 (IntKind.wrap .i64 (s3106 + 1)))) (won rfl) rfl rfl (x_assign rfl (ev (t := 86) rfl rfl)) ?_
          refine wpList_nil ?_
          refine nx ?_
          exact ⟨s3226.1, s3226.2.1, s3226.2.2, (IntKind.wrap .i64 (s3106 + 1)), v3218, h3219, h3222, _, he, rfl, q3211, q3212, q3213, q3215, q3224, rfl, H3220, H3223, Mem.pick [0, 1, 2, 3, 4, 5, 6, 7] rfl hm3255⟩
        ·
         replace he := bifF he hb3185
         refine c_false rfl (p := (decide (s3106 < (s3102.length : Int)))) rfl rfl hb3185 ?_
         refine wp_exit ?_
         refine xs ?_
         refine xs ?_
         refine xb ?_
         refine nx ?_
         obtain rfl := Option.some.inj he
         exact ⟨v3099, h3100, h3103, _, rfl, q3094, q3095, q3097, q3105, H3101, H3104, Mem.pick [1, 2, 3, 4, 5, 6, 7] rfl hm3183⟩
      ·
       rintro a w ⟨v2921, h2922, h2925, f, rfl, q2916, q2917, q2919, q2927, H2923, H2926, hm3257⟩
       replace he := hk2929
       refine wp_seq ?_
       refine wp_fit [(0, 1), (1, 0), (2, 2), (3, 2)] (fun w' => Mem w0 w' (cat [sg g1703 35 (0, 0) [] [(.int .i64 0), (.int .i64 s2928.1)] [], sg g1806 28 (0, 0) [] [v2921, v1799] [], h2922, h2925, hF])) mixed (by kernel_rfl) (Mem.drew (Mem.pick [2, 3, 4, 5, 6] rfl hm3257)) ?_
       have hm3258 := Mem.drew hm3257
       refine z_r (v := (.agg #[v2921, v1799])) rfl (won rfl) rfl rfl ((x_loadN (vs := [v2921, v1799]) rfl tyN_28 (ev (t := 7) (v := (.pointer (some ⟨g1806, 0, none⟩))) rfl q2927) (seg_cells (o' := 0) (j := 0) hm3258 (k := 3) rfl rfl rfl))) ?_
       refine z_q (v := (.agg #[(.int .i64 0), (.int .i64 s2928.1)])) rfl (won rfl) rfl rfl (fun wq hq => (x_loadN (vs := [(.int .i64 0), (.int .i64 s2928.1)]) rfl tyN_35 (ev (t := 6) (v := (.pointer (some ⟨g1703, 0, none⟩))) rfl q2919) (seg_cells (o' := 0) (j := 0) hq (k := 0) rfl rfl rfl))) ?_
       refine z_exs rfl (won rfl) rfl (e_store (vs := [v2921, v1799]) (o' := 0) (j := 0) rfl sz_28 (ev (t := 4) (v := (.pointer (some ⟨g1695, 0, none⟩))) rfl q2916) (ev (t := 109) rfl rfl) rfl (one_cons (IsSl.one (H2923).sl) (one_cons (IsSl.one (H2926).sl) one_nil)) hm3258 (k := 0) rfl rfl rfl) ?_
       intro w3259 hm3260
       replace hm3260 : Mem w0 w3259 (cat [sg g1695 28 (0, 0) [] [v2921, v1799] [], sg g1699 35 (0, 0) [] [(.int .i64 0), (.int .i64 0)] [], sg g1703 35 (0, 0) [] [(.int .i64 0), (.int .i64 s2928.1)] [], sg g1806 28 (0, 0) [] [v2921, v1799] [], h2922, h2925, hF]) := hm3260
       refine ⟨Mem.pick [2, 3, 4, 5, 6] rfl hm3260, ?_⟩
       refine z_exs rfl (won rfl) rfl (e_store (vs := [(.int .i64 0), (.int .i64 s2928.1)]) (o' := 0) (j := 0) rfl sz_35 (ev (t := 5) (v := (.pointer (some ⟨g1699, 0, none⟩))) rfl q2917) (ev (t := 110) rfl rfl) rfl rfl hm3260 (k := 1) rfl rfl rfl) ?_
       intro w3261 hm3262
       replace hm3262 : Mem w0 w3261 (cat [sg g1695 28 (0, 0) [] [v2921, v1799] [], sg g1699 35 (0, 0) [] [(.int .i64 0), (.int .i64 s2928.1)] [], sg g1703 35 (0, 0) [] [(.int .i64 0), (.int .i64 s2928.1)] [], sg g1806 28 (0, 0) [] [v2921, v1799] [], h2922, h2925, hF]) := hm3262
       refine ⟨Mem.pick [2, 3, 4, 5, 6] rfl hm3262, ?_⟩
       refine z_nil ?_
       have hm3263 : Mem w0 w3261 (cat [sg g1695 28 (0, 0) [] [v2921, v1799] [], sg g1699 35 (0, 0) [] [(.int .i64 0), (.int .i64 s2928.1)] [], h2922, h2925, hF]) := Mem.pick [0, 1, 4, 5, 6] rfl hm3262
       refine nx ?_
       refine wp_ret ?_
       refine rb ?_
       refine xr ?_
       obtain rfl := Option.some.inj he
       replace he := outE hk2541
       obtain rfl := Option.some.inj he
       refine r_ret (v := (.tuple #[(.agg #[v2921, v1799]), (.agg #[(.int .i64 0), (.int .i64 s2928.1)])])) (rv_list rfl rfl (RVs.cell (cs := [v2921, v1799]) rfl q2916 tyN_28 (seg_cells (o' := 0) (j := 0) hm3263 (k := 0) rfl rfl rfl) (RVs.cell (cs := [(.int .i64 0), (.int .i64 s2928.1)]) rfl q2917 tyN_35 (seg_cells (o' := 0) (j := 0) hm3263 (k := 1) rfl rfl rfl) RVs.nil))) rfl ?_
       exact ⟨v2921, v1799, (cat [h2922, h2925]), rfl, ((H2923.rd w0).mono (Sub.trans (Sub.at_ (L := [h2922, h2925]) (k := 0) rfl) (Sub.at_ (k := 1) rfl))), ((H2926.rd w0).mono (Sub.trans (Sub.at_ (L := [h2922, h2925]) (k := 1) rfl) (Sub.at_ (k := 1) rfl))), Mem.zgrp [] [h2922, h2925] _ (Mem.pick [2, 3, 4] rfl hm3263)⟩
     ·
      replace he := bifF he hb2587
      refine c_false rfl (p := (decide (a1.Kind = 4))) rfl rfl hb2587 ?_
      refine wp_skip ?_
      refine nb ?_
      refine nx ?_
      obtain rfl := Option.some.inj he
      exact ⟨(), _, rfl, rfl, rfl, rfl, rfl, rfl, rfl, rfl, Mem.pick [7, 6, 5, 4, 3, 0, 1, 2, 8] rfl hm1811⟩
   ·
    rintro a w ⟨s2539, f, rfl, rfl, q2533, q2534, q2535, q2536, q2537, q2538, hm3265⟩
    replace he := goE hk2541
    refine wp_seq ?_
    refine wp_seq ?_
    obtain ⟨r3279, hr3279, he⟩ := bindE he
    refine wp_region_lit ?_
    refine s_val (v := (.agg #[v0x0, v0x1])) (won rfl) rfl rfl (x_loadN (vs := [v0x0, v0x1]) rfl tyN_28 (ev (t := 2) (v := (.pointer (some ⟨g1685, 0, none⟩))) rfl q2533) (seg_cells (o' := 0) (j := 0) hm3265 (k := 0) rfl rfl rfl)) ?_
    refine s_val (v := (.pointer (some ⟨g1689, 1, none⟩))) (won rfl) rfl rfl (x_field rfl fa_39x1 (ev (t := 3) (v := (.pointer (some ⟨g1689, 0, none⟩))) rfl q2534)) ?_
    refine s_val (v := (.int .i64 a1.Owner)) (won rfl) rfl rfl (x_load rfl ty1x3 (ev (t := 112) rfl rfl) (seg_cell (o' := 0) (j := 1) hm3265 (k := 1) rfl rfl rfl)) ?_
    refine s_val (v := (.pointer (some ⟨g1689, 3, none⟩))) (won rfl) rfl rfl (x_field rfl fa_39x3 (ev (t := 3) (v := (.pointer (some ⟨g1689, 0, none⟩))) rfl q2534)) ?_
    refine s_val (v := (.int .i64 a1.Buffer)) (won rfl) rfl rfl (x_load rfl ty1x3 (ev (t := 114) rfl rfl) (seg_cell (o' := 0) (j := 3) hm3265 (k := 1) rfl rfl rfl)) ?_
    refine s_call (won rfl) rfl rfl (x_call rfl rfl cl_88 (map_lit (map_cons (ev (t := 111) rfl rfl) (map_cons (ev (t := 113) rfl rfl) (map_cons (ev (t := 115) rfl rfl) map_nil))))) (spec_l12Mine_ok (hR := (cat [hR])) (hF := cat [sg g1685 28 (0, 0) [] [v0x0, v0x1] [], sg g1689 39 (0, 0) [] [(.int .i64 a1.Kind), (.int .i64 a1.Owner), (.int .i64 a1.To), (.int .i64 a1.Buffer)] [], sg g1695 28 (0, 0) [] [(.slice none 0 0), (.slice none 0 0)] [], sg g1699 35 (0, 0) [] [(.int .i64 0), (.int .i64 0)] [], sg g1703 35 (0, 0) [] [(.int .i64 0), (.int .i64 a1.Buffer)] [], sg g1806 28 (0, 0) [] [v1795, v1799] [], h1797, h1801, hF]) a0 a1.Owner a1.Buffer (H0x0.mono (Sub.at_ (k := 0) rfl)) (H0x1.mono (Sub.at_ (k := 0) rfl)) (subc (Sub.trans hs (Sub.at_ (k := 8) rfl)) subn) (Mem.one hm3265) hr3279) ?_
    rintro e w3280 ⟨rfl, hm3281⟩
    refine ⟨_, rfl, ?_⟩
    replace hm3281 : Mem w0 w3280 (cat [sg g1685 28 (0, 0) [] [v0x0, v0x1] [], sg g1689 39 (0, 0) [] [(.int .i64 a1.Kind), (.int .i64 a1.Owner), (.int .i64 a1.To), (.int .i64 a1.Buffer)] [], sg g1695 28 (0, 0) [] [(.slice none 0 0), (.slice none 0 0)] [], sg g1699 35 (0, 0) [] [(.int .i64 0), (.int .i64 0)] [], sg g1703 35 (0, 0) [] [(.int .i64 0), (.int .i64 a1.Buffer)] [], sg g1806 28 (0, 0) [] [v1795, v1799] [], h1797, h1801, hF]) := Mem.un hm3281
    refine s_val (v := (.bool (!r3279))) (won rfl) rfl rfl (x_not rfl (ev (t := 116) rfl rfl)) ?_
    refine wpList_nil ?_
    refine nx ?_
    rcases Bool.eq_false_or_eq_true ((!r3279)) with hb3282 | hb3282
    ·
     replace he := bifT he hb3282
     refine c_true rfl (p := (!r3279)) rfl rfl hb3282 ?_
     refine wp_seq ?_
     refine wp_region_lit ?_
     refine s_val (v := (.pointer (some ⟨g1703, 0, none⟩))) (won rfl) rfl rfl (x_field rfl fa_35x0 (ev (t := 6) (v := (.pointer (some ⟨g1703, 0, none⟩))) rfl q2537)) ?_
     refine s_exs (won rfl) rfl (e_store (vs := [(.int .i64 5)]) (o' := 0) (j := 0) rfl sz_3 (ev (t := 118) rfl rfl) rfl rfl rfl hm3281 (k := 4) rfl rfl rfl) ?_
     intro w3283 hm3284
     replace hm3284 : Mem w0 w3283 (cat [sg g1685 28 (0, 0) [] [v0x0, v0x1] [], sg g1689 39 (0, 0) [] [(.int .i64 a1.Kind), (.int .i64 a1.Owner), (.int .i64 a1.To), (.int .i64 a1.Buffer)] [], sg g1695 28 (0, 0) [] [(.slice none 0 0), (.slice none 0 0)] [], sg g1699 35 (0, 0) [] [(.int .i64 0), (.int .i64 0)] [], sg g1703 35 (0, 0) [] [(.int .i64 5), (.int .i64 a1.Buffer)] [], sg g1806 28 (0, 0) [] [v1795, v1799] [], h1797, h1801, hF]) := hm3284
     refine wpList_nil ?_
     have hm3285 : Mem w0 w3283 (cat [sg g1685 28 (0, 0) [] [v0x0, v0x1] [], sg g1695 28 (0, 0) [] [(.slice none 0 0), (.slice none 0 0)] [], sg g1699 35 (0, 0) [] [(.int .i64 0), (.int .i64 0)] [], sg g1703 35 (0, 0) [] [(.int .i64 5), (.int .i64 a1.Buffer)] [], hF]) := Mem.pick [0, 2, 3, 4, 8] rfl hm3284
     refine nx ?_
     refine wp_seq ?_
     refine wp_fit [(0, 1), (1, 0), (2, 2), (3, 2)] (fun w' => Mem w0 w' (cat [sg g1685 28 (0, 0) [] [v0x0, v0x1] [], sg g1703 35 (0, 0) [] [(.int .i64 5), (.int .i64 a1.Buffer)] [], hF])) mixed (by kernel_rfl) (Mem.drew (Mem.pick [0, 3, 4] rfl hm3285)) ?_
     have hm3286 := Mem.drew hm3285
     refine z_r (v := (.agg #[v0x0, v0x1])) rfl (won rfl) rfl rfl ((x_loadN (vs := [v0x0, v0x1]) rfl tyN_28 (ev (t := 2) (v := (.pointer (some ⟨g1685, 0, none⟩))) rfl q2533) (seg_cells (o' := 0) (j := 0) hm3286 (k := 0) rfl rfl rfl))) ?_
     refine z_q (v := (.agg #[(.int .i64 5), (.int .i64 a1.Buffer)])) rfl (won rfl) rfl rfl (fun wq hq => (x_loadN (vs := [(.int .i64 5), (.int .i64 a1.Buffer)]) rfl tyN_35 (ev (t := 6) (v := (.pointer (some ⟨g1703, 0, none⟩))) rfl q2537) (seg_cells (o' := 0) (j := 0) hq (k := 1) rfl rfl rfl))) ?_
     refine z_exs rfl (won rfl) rfl (e_store (vs := [v0x0, v0x1]) (o' := 0) (j := 0) rfl sz_28 (ev (t := 4) (v := (.pointer (some ⟨g1695, 0, none⟩))) rfl q2535) (ev (t := 119) rfl rfl) rfl (one_cons (IsSl.one (H0x0).sl) (one_cons (IsSl.one (H0x1).sl) one_nil)) hm3286 (k := 1) rfl rfl rfl) ?_
     intro w3287 hm3288
     replace hm3288 : Mem w0 w3287 (cat [sg g1685 28 (0, 0) [] [v0x0, v0x1] [], sg g1695 28 (0, 0) [] [v0x0, v0x1] [], sg g1699 35 (0, 0) [] [(.int .i64 0), (.int .i64 0)] [], sg g1703 35 (0, 0) [] [(.int .i64 5), (.int .i64 a1.Buffer)] [], hF]) := hm3288
     refine ⟨Mem.pick [0, 3, 4] rfl hm3288, ?_⟩
     refine z_exs rfl (won rfl) rfl (e_store (vs := [(.int .i64 5), (.int .i64 a1.Buffer)]) (o' := 0) (j := 0) rfl sz_35 (ev (t := 5) (v := (.pointer (some ⟨g1699, 0, none⟩))) rfl q2536) (ev (t := 120) rfl rfl) rfl rfl hm3288 (k := 2) rfl rfl rfl) ?_
     intro w3289 hm3290
     replace hm3290 : Mem w0 w3289 (cat [sg g1685 28 (0, 0) [] [v0x0, v0x1] [], sg g1695 28 (0, 0) [] [v0x0, v0x1] [], sg g1699 35 (0, 0) [] [(.int .i64 5), (.int .i64 a1.Buffer)] [], sg g1703 35 (0, 0) [] [(.int .i64 5), (.int .i64 a1.Buffer)] [], hF]) := hm3290
     refine ⟨Mem.pick [0, 3, 4] rfl hm3290, ?_⟩
     refine z_nil ?_
     have hm3291 : Mem w0 w3289 (cat [sg g1695 28 (0, 0) [] [v0x0, v0x1] [], sg g1699 35 (0, 0) [] [(.int .i64 5), (.int .i64 a1.Buffer)] [], hF]) := Mem.pick [1, 2, 4] rfl hm3290
     refine nx ?_
     refine wp_ret ?_
     refine xr ?_
     obtain rfl := Option.some.inj he
     refine r_ret (v := (.tuple #[(.agg #[v0x0, v0x1]), (.agg #[(.int .i64 5), (.int .i64 a1.Buffer)])])) (rv_list rfl rfl (RVs.cell (cs := [v0x0, v0x1]) rfl q2535 tyN_28 (seg_cells (o' := 0) (j := 0) hm3291 (k := 0) rfl rfl rfl) (RVs.cell (cs := [(.int .i64 5), (.int .i64 a1.Buffer)]) rfl q2536 tyN_35 (seg_cells (o' := 0) (j := 0) hm3291 (k := 1) rfl rfl rfl) RVs.nil))) rfl ?_
     exact ⟨v0x0, v0x1, (cat []), rfl, (H0x0.mono (Sub.at_ (k := 0) rfl)), (H0x1.mono (Sub.at_ (k := 0) rfl)), Mem.zgrp [] [] _ (Mem.pick [2] rfl hm3291)⟩
    ·
     replace he := bifF he hb3282
     refine c_false rfl (p := (!r3279)) rfl rfl hb3282 ?_
     refine wp_skip ?_
     refine nx ?_
     obtain ⟨s3331, hT3333, hk3332⟩ := bindE he
     replace he := hT3333
     refine wp_seqJ (fun a w => ∃ (v3324 : Value) (h3325 : Hp) (h3328 : Hp) (f : Nat → Value), a = fr 145 f ∧ f 4 = (.pointer (some ⟨g1695, 0, none⟩)) ∧ f 5 = (.pointer (some ⟨g1699, 0, none⟩)) ∧ f 6 = (.pointer (some ⟨g1703, 0, none⟩)) ∧ f 7 = (.pointer (some ⟨g1806, 0, none⟩)) ∧ OwF 3 (FK.int .i64) v3324 s3331.1 h3325 ∧ OwF 3 (FK.int .i64) v1799 s3331.2 h3328 ∧ Mem w0 w (cat [sg g1695 28 (0, 0) [] [(.slice none 0 0), (.slice none 0 0)] [], sg g1699 35 (0, 0) [] [(.int .i64 0), (.int .i64 0)] [], sg g1703 35 (0, 0) [] [(.int .i64 0), (.int .i64 a1.Buffer)] [], sg g1806 28 (0, 0) [] [v3324, v1799] [], h3325, h3328, hF])) ?_ ?_
     ·
      refine wp_seq ?_
      refine wp_region_lit ?_
      refine s_val (v := (.pointer (some ⟨g1689, 0, none⟩))) (won rfl) rfl rfl (x_field rfl fa_39x0 (ev (t := 3) (v := (.pointer (some ⟨g1689, 0, none⟩))) rfl q2534)) ?_
      refine s_val (v := (.int .i64 a1.Kind)) (won rfl) rfl rfl (x_load rfl ty1x3 (ev (t := 121) rfl rfl) (seg_cell (o' := 0) (j := 0) hm3281 (k := 1) rfl rfl rfl)) ?_
      refine s_val (v := (.bool (decide (a1.Kind = 2)))) (won rfl) rfl rfl (x_eql rfl (ev (t := 122) rfl rfl) rfl) ?_
      refine wpList_nil ?_
      have hm3334 : Mem w0 w3280 (cat [sg g1689 39 (0, 0) [] [(.int .i64 a1.Kind), (.int .i64 a1.Owner), (.int .i64 a1.To), (.int .i64 a1.Buffer)] [], sg g1695 28 (0, 0) [] [(.slice none 0 0), (.slice none 0 0)] [], sg g1699 35 (0, 0) [] [(.int .i64 0), (.int .i64 0)] [], sg g1703 35 (0, 0) [] [(.int .i64 0), (.int .i64 a1.Buffer)] [], sg g1806 28 (0, 0) [] [v1795, v1799] [], h1797, h1801, hF]) := Mem.pick [1, 2, 3, 4, 5, 6, 7, 8] rfl hm3281
      refine nx ?_
      rcases Bool.eq_false_or_eq_true ((decide (a1.Kind = 2))) with hb3335 | hb3335
      ·
       replace he := bifT he hb3335
       refine c_true rfl (p := (decide (a1.Kind = 2))) rfl rfl hb3335 ?_
       obtain ⟨hg3336, he⟩ := gdE he
       refine wp_region_lit ?_
       refine s_val (v := (.pointer (some ⟨g1806, 1, none⟩))) (won rfl) rfl rfl (x_field rfl fa_28x1 (ev (t := 7) (v := (.pointer (some ⟨g1806, 0, none⟩))) rfl q2538)) ?_
       refine s_val (v := v1799) (won rfl) rfl rfl (x_load rfl ty1x26 (ev (t := 124) rfl rfl) (seg_cell (o' := 0) (j := 1) hm3334 (k := 4) rfl rfl rfl)) ?_
       refine s_val (v := (.pointer (some ⟨g1689, 3, none⟩))) (won rfl) rfl rfl (x_field rfl fa_39x3 (ev (t := 3) (v := (.pointer (some ⟨g1689, 0, none⟩))) rfl q2534)) ?_
       refine s_val (v := (.int .i64 a1.Buffer)) (won rfl) rfl rfl (x_load rfl ty1x3 (ev (t := 126) rfl rfl) (seg_cell (o' := 0) (j := 3) hm3334 (k := 0) rfl rfl rfl)) ?_
       refine s_val (v := (.pointer (some ⟨g1689, 2, none⟩))) (won rfl) rfl rfl (x_field rfl fa_39x2 (ev (t := 3) (v := (.pointer (some ⟨g1689, 0, none⟩))) rfl q2534)) ?_
       refine s_val (v := (.int .i64 a1.To)) (won rfl) rfl rfl (x_load rfl ty1x3 (ev (t := 128) rfl rfl) (seg_cell (o' := 0) (j := 2) hm3334 (k := 0) rfl rfl rfl)) ?_
       refine s_val (v := (.pointer (some ((slA v1799).add (Int.toNat a1.Buffer * 1))))) (won rfl) rfl rfl (x_index (d := (FK.int .i64)) rfl slt_26 (ev (t := 125) rfl rfl) (ev (t := 127) rfl rfl) (H1800.rd w0) hg3336.1 hg3336.2) ?_
       refine s_exw (won rfl) rfl (e_storeF (d := (FK.int .i64)) (s := a1.To) (vs := [(.int .i64 a1.To)]) (j := 0) rfl sz_3 (ev (t := 130) rfl rfl) (add_0 _).symm (ev (t := 129) rfl rfl) rfl rfl H1800 hg3336.1 hg3336.2 rfl rfl hm3334 (k := 6) rfl) ?_
       rintro h3337 w3339 ⟨H3338, hm3340⟩
       replace hm3340 : Mem w0 w3339 (cat [sg g1689 39 (0, 0) [] [(.int .i64 a1.Kind), (.int .i64 a1.Owner), (.int .i64 a1.To), (.int .i64 a1.Buffer)] [], sg g1695 28 (0, 0) [] [(.slice none 0 0), (.slice none 0 0)] [], sg g1699 35 (0, 0) [] [(.int .i64 0), (.int .i64 0)] [], sg g1703 35 (0, 0) [] [(.int .i64 0), (.int .i64 a1.Buffer)] [], sg g1806 28 (0, 0) [] [v1795, v1799] [], h1797, h3337, hF]) := hm3340
       refine wpList_nil ?_
       have hm3341 : Mem w0 w3339 (cat [sg g1695 28 (0, 0) [] [(.slice none 0 0), (.slice none 0 0)] [], sg g1699 35 (0, 0) [] [(.int .i64 0), (.int .i64 0)] [], sg g1703 35 (0, 0) [] [(.int .i64 0), (.int .i64 a1.Buffer)] [], sg g1806 28 (0, 0) [] [v1795, v1799] [], h1797, h3337, hF]) := Mem.pick [1, 2, 3, 4, 5, 6, 7] rfl hm3340
       refine nx ?_
       obtain rfl := Option.some.inj he
       exact ⟨v1795, h1797, h3337, _, rfl, q2535, q2536, q2537, q2538, H1796, H3338, Mem.pick [0, 1, 2, 3, 4, 5, 6] rfl hm3341⟩
      ·
       replace he := bifF he hb3335
       refine c_false rfl (p := (decide (a1.Kind = 2))) rfl rfl hb3335 ?_
       refine wp_seq ?_
       obtain ⟨hg3342, he⟩ := gdE he
       refine wp_region_lit ?_
       refine s_val (v := (.pointer (some ⟨g1806, 1, none⟩))) (won rfl) rfl rfl (x_field rfl fa_28x1 (ev (t := 7) (v := (.pointer (some ⟨g1806, 0, none⟩))) rfl q2538)) ?_
       refine s_val (v := v1799) (won rfl) rfl rfl (x_load rfl ty1x26 (ev (t := 131) rfl rfl) (seg_cell (o' := 0) (j := 1) hm3334 (k := 4) rfl rfl rfl)) ?_
       refine s_val (v := (.pointer (some ⟨g1689, 3, none⟩))) (won rfl) rfl rfl (x_field rfl fa_39x3 (ev (t := 3) (v := (.pointer (some ⟨g1689, 0, none⟩))) rfl q2534)) ?_
       refine s_val (v := (.int .i64 a1.Buffer)) (won rfl) rfl rfl (x_load rfl ty1x3 (ev (t := 133) rfl rfl) (seg_cell (o' := 0) (j := 3) hm3334 (k := 0) rfl rfl rfl)) ?_
       refine s_val (v := (.pointer (some ((slA v1799).add (Int.toNat a1.Buffer * 1))))) (won rfl) rfl rfl (x_index (d := (FK.int .i64)) rfl slt_26 (ev (t := 132) rfl rfl) (ev (t := 134) rfl rfl) (H1800.rd w0) hg3342.1 hg3342.2) ?_
       refine s_exw (won rfl) rfl (e_storeF (d := (FK.int .i64)) (s := (-1)) (vs := [(.int .i64 (-1))]) (j := 0) rfl sz_3 (ev (t := 135) rfl rfl) (add_0 _).symm rfl rfl rfl H1800 hg3342.1 hg3342.2 rfl rfl hm3334 (k := 6) rfl) ?_
       rintro h3343 w3345 ⟨H3344, hm3346⟩
       replace hm3346 : Mem w0 w3345 (cat [sg g1689 39 (0, 0) [] [(.int .i64 a1.Kind), (.int .i64 a1.Owner), (.int .i64 a1.To), (.int .i64 a1.Buffer)] [], sg g1695 28 (0, 0) [] [(.slice none 0 0), (.slice none 0 0)] [], sg g1699 35 (0, 0) [] [(.int .i64 0), (.int .i64 0)] [], sg g1703 35 (0, 0) [] [(.int .i64 0), (.int .i64 a1.Buffer)] [], sg g1806 28 (0, 0) [] [v1795, v1799] [], h1797, h3343, hF]) := hm3346
       refine wpList_nil ?_
       refine nx ?_
       obtain ⟨hg3352, he⟩ := gdE he
       refine wp_region_lit ?_
       refine s_val (v := (.pointer (some ⟨g1806, 0, none⟩))) (won rfl) rfl rfl (x_field rfl fa_28x0 (ev (t := 7) (v := (.pointer (some ⟨g1806, 0, none⟩))) rfl q2538)) ?_
       refine s_val (v := v1795) (won rfl) rfl rfl (x_load rfl ty1x26 (ev (t := 136) rfl rfl) (seg_cell (o' := 0) (j := 0) hm3346 (k := 4) rfl rfl rfl)) ?_
       refine s_val (v := (.pointer (some ⟨g1689, 3, none⟩))) (won rfl) rfl rfl (x_field rfl fa_39x3 (ev (t := 3) (v := (.pointer (some ⟨g1689, 0, none⟩))) rfl q2534)) ?_
       refine s_val (v := (.int .i64 a1.Buffer)) (won rfl) rfl rfl (x_load rfl ty1x3 (ev (t := 138) rfl rfl) (seg_cell (o' := 0) (j := 3) hm3346 (k := 0) rfl rfl rfl)) ?_
       refine s_exv (won rfl) rfl rfl (e_litp (cells := [(.int .i64 a1.Buffer)]) (ps := [(0, (.int .i64 a1.Buffer))]) rfl slt_26 (pmap_lit (pmap_cons (ev (t := 139) rfl rfl) pmap_nil)) (fun w1 => run_bslicez (cells := [(.int .i64 a1.Buffer)]) (zs := [.int .i64 0]) (zc := [.int .i64 0]) slt_26 rfl rfl (by kernel_rfl) (fill_cons (cs := [(.int .i64 a1.Buffer)]) rfl rfl rfl fill_nil) (by decide)) hm3346) ?_
       rintro g3349 w3347 hm3348
       have H3350 : OwF 3 (FK.int .i64) (.slice (some ⟨g3349, 0, none⟩) 1 1) ([a1.Buffer] : List Int) (sg g3349 3 (0, 0) [] (encs (FK.int .i64) ([a1.Buffer] : List Int)) []) := OwF.lit g3349 ([a1.Buffer] : List Int) 1 rfl (by decide)
       replace hm3348 : Mem w0 w3347 (cat [(sg g3349 3 (0, 0) [] (encs (FK.int .i64) ([a1.Buffer] : List Int)) []), sg g1689 39 (0, 0) [] [(.int .i64 a1.Kind), (.int .i64 a1.Owner), (.int .i64 a1.To), (.int .i64 a1.Buffer)] [], sg g1695 28 (0, 0) [] [(.slice none 0 0), (.slice none 0 0)] [], sg g1699 35 (0, 0) [] [(.int .i64 0), (.int .i64 0)] [], sg g1703 35 (0, 0) [] [(.int .i64 0), (.int .i64 a1.Buffer)] [], sg g1806 28 (0, 0) [] [v1795, v1799] [], h1797, h3343, hF]) := hm3348
       refine s_exv (won rfl) rfl rfl (e_append (bytes := 8) rfl slt_26 rfl (ev (t := 137) rfl rfl) (ev (t := 140) rfl rfl) H1796 (k := 6) rfl (H3350.rd w0) (Sub.at_ (k := 0) rfl) hm3348 hg3352 (len63 hg3352 rfl)) ?_
       rintro p3354 w3356 ⟨H3355, hm3357⟩
       replace hm3357 : Mem w0 w3356 (cat [(sg g3349 3 (0, 0) [] (encs (FK.int .i64) ([a1.Buffer] : List Int)) []), sg g1689 39 (0, 0) [] [(.int .i64 a1.Kind), (.int .i64 a1.Owner), (.int .i64 a1.To), (.int .i64 a1.Buffer)] [], sg g1695 28 (0, 0) [] [(.slice none 0 0), (.slice none 0 0)] [], sg g1699 35 (0, 0) [] [(.int .i64 0), (.int .i64 0)] [], sg g1703 35 (0, 0) [] [(.int .i64 0), (.int .i64 a1.Buffer)] [], sg g1806 28 (0, 0) [] [v1795, v1799] [], p3354.2, h3343, hF]) := hm3357
       refine s_val (v := (.pointer (some ⟨g1806, 0, none⟩))) (won rfl) rfl rfl (x_field rfl fa_28x0 (ev (t := 7) (v := (.pointer (some ⟨g1806, 0, none⟩))) rfl q2538)) ?_
       refine s_exs (won rfl) rfl (e_store (vs := [p3354.1]) (o' := 0) (j := 0) rfl sz_26 (ev (t := 142) rfl rfl) (ev (t := 141) rfl rfl) (IsSl.cells (H3355).sl) (one_cons (IsSl.one (H3355).sl) one_nil) hm3357 (k := 5) rfl rfl rfl) ?_
       intro w3358 hm3359
       replace hm3359 : Mem w0 w3358 (cat [(sg g3349 3 (0, 0) [] (encs (FK.int .i64) ([a1.Buffer] : List Int)) []), sg g1689 39 (0, 0) [] [(.int .i64 a1.Kind), (.int .i64 a1.Owner), (.int .i64 a1.To), (.int .i64 a1.Buffer)] [], sg g1695 28 (0, 0) [] [(.slice none 0 0), (.slice none 0 0)] [], sg g1699 35 (0, 0) [] [(.int .i64 0), (.int .i64 0)] [], sg g1703 35 (0, 0) [] [(.int .i64 0), (.int .i64 a1.Buffer)] [], sg g1806 28 (0, 0) [] [p3354.1, v1799] [], p3354.2, h3343, hF]) := hm3359
       refine wpList_nil ?_
       have hm3360 : Mem w0 w3358 (cat [sg g1695 28 (0, 0) [] [(.slice none 0 0), (.slice none 0 0)] [], sg g1699 35 (0, 0) [] [(.int .i64 0), (.int .i64 0)] [], sg g1703 35 (0, 0) [] [(.int .i64 0), (.int .i64 a1.Buffer)] [], sg g1806 28 (0, 0) [] [p3354.1, v1799] [], p3354.2, h3343, hF]) := Mem.pick [2, 3, 4, 5, 6, 7, 8] rfl hm3359
       refine nx ?_
       obtain rfl := Option.some.inj he
       exact ⟨p3354.1, p3354.2, h3343, _, rfl, q2535, q2536, q2537, q2538, H3355, H3344, Mem.pick [0, 1, 2, 3, 4, 5, 6] rfl hm3360⟩
     ·
      rintro a w ⟨v3324, h3325, h3328, f, rfl, q3319, q3320, q3321, q3330, H3326, H3329, hm3362⟩
      replace he := hk3332
      refine wp_seq ?_
      refine wp_fit [(0, 1), (1, 0), (2, 2), (3, 2)] (fun w' => Mem w0 w' (cat [sg g1703 35 (0, 0) [] [(.int .i64 0), (.int .i64 a1.Buffer)] [], sg g1806 28 (0, 0) [] [v3324, v1799] [], h3325, h3328, hF])) mixed (by kernel_rfl) (Mem.drew (Mem.pick [2, 3, 4, 5, 6] rfl hm3362)) ?_
      have hm3363 := Mem.drew hm3362
      refine z_r (v := (.agg #[v3324, v1799])) rfl (won rfl) rfl rfl ((x_loadN (vs := [v3324, v1799]) rfl tyN_28 (ev (t := 7) (v := (.pointer (some ⟨g1806, 0, none⟩))) rfl q3330) (seg_cells (o' := 0) (j := 0) hm3363 (k := 3) rfl rfl rfl))) ?_
      refine z_q (v := (.agg #[(.int .i64 0), (.int .i64 a1.Buffer)])) rfl (won rfl) rfl rfl (fun wq hq => (x_loadN (vs := [(.int .i64 0), (.int .i64 a1.Buffer)]) rfl tyN_35 (ev (t := 6) (v := (.pointer (some ⟨g1703, 0, none⟩))) rfl q3321) (seg_cells (o' := 0) (j := 0) hq (k := 0) rfl rfl rfl))) ?_
      refine z_exs rfl (won rfl) rfl (e_store (vs := [v3324, v1799]) (o' := 0) (j := 0) rfl sz_28 (ev (t := 4) (v := (.pointer (some ⟨g1695, 0, none⟩))) rfl q3319) (ev (t := 143) rfl rfl) rfl (one_cons (IsSl.one (H3326).sl) (one_cons (IsSl.one (H3329).sl) one_nil)) hm3363 (k := 0) rfl rfl rfl) ?_
      intro w3364 hm3365
      replace hm3365 : Mem w0 w3364 (cat [sg g1695 28 (0, 0) [] [v3324, v1799] [], sg g1699 35 (0, 0) [] [(.int .i64 0), (.int .i64 0)] [], sg g1703 35 (0, 0) [] [(.int .i64 0), (.int .i64 a1.Buffer)] [], sg g1806 28 (0, 0) [] [v3324, v1799] [], h3325, h3328, hF]) := hm3365
      refine ⟨Mem.pick [2, 3, 4, 5, 6] rfl hm3365, ?_⟩
      refine z_exs rfl (won rfl) rfl (e_store (vs := [(.int .i64 0), (.int .i64 a1.Buffer)]) (o' := 0) (j := 0) rfl sz_35 (ev (t := 5) (v := (.pointer (some ⟨g1699, 0, none⟩))) rfl q3320) (ev (t := 144) rfl rfl) rfl rfl hm3365 (k := 1) rfl rfl rfl) ?_
      intro w3366 hm3367
      replace hm3367 : Mem w0 w3366 (cat [sg g1695 28 (0, 0) [] [v3324, v1799] [], sg g1699 35 (0, 0) [] [(.int .i64 0), (.int .i64 a1.Buffer)] [], sg g1703 35 (0, 0) [] [(.int .i64 0), (.int .i64 a1.Buffer)] [], sg g1806 28 (0, 0) [] [v3324, v1799] [], h3325, h3328, hF]) := hm3367
      refine ⟨Mem.pick [2, 3, 4, 5, 6] rfl hm3367, ?_⟩
      refine z_nil ?_
      have hm3368 : Mem w0 w3366 (cat [sg g1695 28 (0, 0) [] [v3324, v1799] [], sg g1699 35 (0, 0) [] [(.int .i64 0), (.int .i64 a1.Buffer)] [], h3325, h3328, hF]) := Mem.pick [0, 1, 4, 5, 6] rfl hm3367
      refine nx ?_
      refine wp_ret ?_
      obtain rfl := Option.some.inj he
      refine r_ret (v := (.tuple #[(.agg #[v3324, v1799]), (.agg #[(.int .i64 0), (.int .i64 a1.Buffer)])])) (rv_list rfl rfl (RVs.cell (cs := [v3324, v1799]) rfl q3319 tyN_28 (seg_cells (o' := 0) (j := 0) hm3368 (k := 0) rfl rfl rfl) (RVs.cell (cs := [(.int .i64 0), (.int .i64 a1.Buffer)]) rfl q3320 tyN_35 (seg_cells (o' := 0) (j := 0) hm3368 (k := 1) rfl rfl rfl) RVs.nil))) rfl ?_
      exact ⟨v3324, v1799, (cat [h3325, h3328]), rfl, ((H3326.rd w0).mono (Sub.trans (Sub.at_ (L := [h3325, h3328]) (k := 0) rfl) (Sub.at_ (k := 1) rfl))), ((H3329.rd w0).mono (Sub.trans (Sub.at_ (L := [h3325, h3328]) (k := 1) rfl) (Sub.at_ (k := 1) rfl))), Mem.zgrp [] [h3325, h3328] _ (Mem.pick [2, 3, 4] rfl hm3368)⟩
def spec_PoolRun_l1 (F : Nat) (a1 : (List impl_PoolAct)) : Nat → (List Int) → (List Int) → (List impl_PoolReply) → Int → Option ((List Int) × (List Int) × (List impl_PoolReply))
  | 0, _, _, _, _ => none
  | k + 1, s72367, s72370, s72374, s72379 => (bif (decide (s72379 < (a1.length : Int))) then gd ((0 : Int) ≤ s72379 ∧ s72379 < (a1.length : Int)) ((spec_l12Step F (impl_Pool.mk s72367 s72370) (impl_PoolAct.mk (ix a1 s72379).Kind (ix a1 s72379).Owner (ix a1 s72379).To (ix a1 s72379).Buffer)).bind fun r79501 => gd ((s72374.length + ([r79501.2] : List impl_PoolReply).length) * 16 ≤ 140737488355328) (spec_PoolRun_l1 F a1 k r79501.1.Free r79501.1.Owner (s72374 ++ ([r79501.2] : List impl_PoolReply)) (IntKind.wrap .i64 (s72379 + 1)))) else (some (s72367, s72370, s72374)))
def spec_PoolRun (F : Nat) (a0 : Int) (a1 : (List impl_PoolAct)) : Option (impl_Pool × (List impl_PoolReply) × Int) := (bif (decide ((4096 : Int) < (a1.length : Int))) then (some ((impl_Pool.mk ([] : List Int) ([] : List Int)), ([] : List impl_PoolReply), 2)) else (spec_NewPool F a0).bind fun r48408 => (bif (!decide (r48408.2 = 0)) then (some ((impl_Pool.mk ([] : List Int) ([] : List Int)), ([] : List impl_PoolReply), r48408.2)) else (bif (decide ((300 : Int) < (a1.length : Int))) then (some ((impl_Pool.mk ([] : List Int) ([] : List Int)), ([] : List impl_PoolReply), 6)) else (spec_PoolRun_l1 F a1 F r48408.1.Free r48408.1.Owner ([] : List impl_PoolReply) 0 : Option ((List Int) × (List Int) × (List impl_PoolReply))).bind fun (s64381 : ((List Int) × (List Int) × (List impl_PoolReply))) => (spec_l12Own (impl_Pool.mk s64381.1 s64381.2.1)).bind fun r80367 => (some (r80367, s64381.2.2, 0)))))
set_option maxHeartbeats 400000 in
set_option maxRecDepth 100000 in
theorem spec_PoolRun_ok (F : Nat) {w0 w : World} {hR hF : Hp} {v1x0 : Value} (a0 : Int) (a1 : (List impl_PoolAct)) {r : (impl_Pool × (List impl_PoolReply) × Int)} (H1x0 : RdF w0 impl_PoolAct.K v1x0 a1 hR) (hs : Sub hR hF) (hm : Mem w0 w (cat [hF])) (he : spec_PoolRun F a0 a1 = some r) :
    Calls Try.prog 13 #[(.int .i64 a0), v1x0] w (fun e w' => ∃ (v'0 : Value) (h'0 : Hp) (v'1 : Value) (h'1 : Hp) (v'2 : Value) (h'2 : Hp), e = .returned (.tuple #[(.agg #[v'0, v'1]), v'2, (.int .i64 r.2.2)]) ∧ OwF 3 (FK.int .i64) v'0 r.1.Free h'0 ∧ OwF 3 (FK.int .i64) v'1 r.1.Owner h'1 ∧ OwF 35 impl_PoolReply.K v'2 r.2.1 h'2 ∧ Mem w0 w' (cat [h'0, h'1, h'2, hF])) := by
 refine calls_fr (n := 57) Try.func13 rfl rfl rfl ?_
 unfold spec_PoolRun at he
 refine wp_seq ?_
 refine wp_region_lit ?_
 refine s_exv (won rfl) rfl rfl (e_alloc (vs := [(.slice none 0 0), (.slice none 0 0)]) rfl zt_28 rfl hm) ?_
 rintro g48383 w48384 hm48385
 refine s_val (v := (.slice none 0 0)) (won rfl) rfl rfl (x_assign rfl rfl) ?_
 refine s_val (v := (.int .i64 0)) (won rfl) rfl rfl (x_assign rfl rfl) ?_
 refine wpList_nil ?_
 refine nx ?_
 refine wp_seq ?_
 refine wp_seq ?_
 refine wp_region_lit ?_
 refine s_val (v := v1x0) (won rfl) rfl rfl (x_move rfl (ev (t := 1) rfl rfl)) ?_
 refine s_val (v := (.int .i64 (a1.length : Int))) (won rfl) rfl rfl (x_len rfl slt_24 (ev (t := 13) rfl rfl) (H1x0).sl) ?_
 refine s_val (v := (.bool (decide ((4096 : Int) < (a1.length : Int))))) (won rfl) rfl rfl (x_gtr rfl (ev (t := 14) rfl rfl) rfl) ?_
 refine wpList_nil ?_
 refine nx ?_
 rcases Bool.eq_false_or_eq_true ((decide ((4096 : Int) < (a1.length : Int)))) with hb48398 | hb48398
 ·
  replace he := bifT he hb48398
  refine c_true rfl (p := (decide ((4096 : Int) < (a1.length : Int)))) rfl rfl hb48398 ?_
  refine wp_seq ?_
  refine wp_region_lit ?_
  refine s_val (v := (.agg #[(.slice none 0 0), (.slice none 0 0)])) (won rfl) rfl rfl (x_build (cells := [(.slice none 0 0), (.slice none 0 0)]) (zc := [.slice none 0 0, .slice none 0 0]) (sizes := [(0, 1), (1, 1)]) (ps := []) rfl zt_28 rfl uf_28 ufz_28 (pmap_lit pmap_nil) fill_nil) ?_
  refine s_exv (won rfl) rfl rfl (e_litp (cells := []) (ps := []) rfl slt_31 (pmap_lit pmap_nil) (fun w1 => run_bslice0 slt_31) hm48385) ?_
  rintro g48403 w48401 hm48402
  have H48404 : OwF 35 impl_PoolReply.K (.slice (some ⟨g48403, 0, none⟩) 0 0) ([] : List impl_PoolReply) (sg g48403 35 (0, 0) [] (encs impl_PoolReply.K ([] : List impl_PoolReply)) []) := OwF.lit g48403 ([] : List impl_PoolReply) 0 rfl (by decide)
  replace hm48402 : Mem w0 w48401 (cat [(sg g48403 35 (0, 0) [] (encs impl_PoolReply.K ([] : List impl_PoolReply)) []), sg g48383 28 (0, 0) [] [(.slice none 0 0), (.slice none 0 0)] [], hF]) := hm48402
  refine s_exs (won rfl) rfl (e_store (vs := [(.slice none 0 0), (.slice none 0 0)]) (o' := 0) (j := 0) rfl sz_28 (ev (t := 4) rfl rfl) (ev (t := 16) rfl rfl) rfl rfl hm48402 (k := 1) rfl rfl rfl) ?_
  intro w48406 hm48407
  replace hm48407 : Mem w0 w48406 (cat [(sg g48403 35 (0, 0) [] (encs impl_PoolReply.K ([] : List impl_PoolReply)) []), sg g48383 28 (0, 0) [] [(.slice none 0 0), (.slice none 0 0)] [], hF]) := hm48407
  refine s_val (v := (.slice (some ⟨g48403, 0, none⟩) 0 0)) (won rfl) rfl rfl (x_assign rfl (ev (t := 17) rfl rfl)) ?_
  refine s_val (v := (.int .i64 2)) (won rfl) rfl rfl (x_assign rfl rfl) ?_
  refine wpList_nil ?_
  refine nx ?_
  refine wp_ret ?_
  refine xr ?_
  obtain rfl := Option.some.inj he
  refine r_ret (v := (.tuple #[(.agg #[(.slice none 0 0), (.slice none 0 0)]), (.slice (some ⟨g48403, 0, none⟩) 0 0), (.int .i64 2)])) (rv_list rfl rfl (RVs.cell (cs := [(.slice none 0 0), (.slice none 0 0)]) rfl rfl tyN_28 (seg_cells (o' := 0) (j := 0) hm48407 (k := 1) rfl rfl rfl) (RVs.tmp (v := (.slice (some ⟨g48403, 0, none⟩) 0 0)) rfl rfl (RVs.tmp (v := (.int .i64 2)) rfl rfl RVs.nil)))) rfl ?_
  exact ⟨(.slice none 0 0), [], (.slice none 0 0), [], (.slice (some ⟨g48403, 0, none⟩) 0 0), (sg g48403 35 (0, 0) [] (encs impl_PoolReply.K ([] : List impl_PoolReply)) []), rfl, (OwF.nil 3 (FK.int .i64)), (OwF.nil 3 (FK.int .i64)), H48404, Mem.pick [1000, 1001, 0, 2] rfl hm48407⟩
 ·
  replace he := bifF he hb48398
  refine c_false rfl (p := (decide ((4096 : Int) < (a1.length : Int)))) rfl rfl hb48398 ?_
  refine wp_skip ?_
  refine nx ?_
  refine wp_seq ?_
  obtain ⟨r48408, hr48408, he⟩ := bindE he
  refine wp_region_lit ?_
  refine s_val (v := (.int .i64 a0)) (won rfl) rfl rfl (x_move rfl (ev (t := 0) rfl rfl)) ?_
  refine s_call (won rfl) rfl rfl (x_call rfl rfl cl_60 (map_lit (map_cons (ev (t := 19) rfl rfl) map_nil))) (spec_NewPool_ok F (hR := (cat [])) (hF := cat [sg g48383 28 (0, 0) [] [(.slice none 0 0), (.slice none 0 0)] [], hF]) a0  (Mem.one hm48385) hr48408) ?_
  rintro e w48417 ⟨v48410, h48412, v48414, h48416, rfl, H48411, H48415, hm48418⟩
  refine ⟨_, rfl, ?_⟩
  replace hm48418 : Mem w0 w48417 (cat [h48412, h48416, sg g48383 28 (0, 0) [] [(.slice none 0 0), (.slice none 0 0)] [], hF]) := Mem.ung [h48412, h48416] [sg g48383 28 (0, 0) [] [(.slice none 0 0), (.slice none 0 0)] [], hF] hm48418
  refine s_val (v := (.tuple #[(.agg #[v48410, v48414]), (.int .i64 r48408.2)])) (won rfl) rfl rfl (x_move rfl (ev (t := 20) rfl rfl)) ?_
  refine s_val (v := (.agg #[v48410, v48414])) (won rfl) rfl rfl (x_extract rfl (ev (t := 18) rfl rfl) rfl) ?_
  refine s_val (v := (.int .i64 r48408.2)) (won rfl) rfl rfl (x_extract rfl (ev (t := 18) rfl rfl) rfl) ?_
  refine s_exv (won rfl) rfl rfl (e_alloc (vs := [(.slice none 0 0), (.slice none 0 0)]) rfl zt_28 rfl hm48418) ?_
  rintro g48421 w48422 hm48423
  refine s_exs (won rfl) rfl (e_store (vs := [v48410, v48414]) (o' := 0) (j := 0) rfl sz_28 (ev (t := 7) rfl rfl) (ev (t := 21) rfl rfl) rfl (one_cons (IsSl.one (H48411).sl) (one_cons (IsSl.one (H48415).sl) one_nil)) hm48423 (k := 0) rfl rfl rfl) ?_
  intro w48425 hm48426
  replace hm48426 : Mem w0 w48425 (cat [sg g48421 28 (0, 0) [] [v48410, v48414] [], h48412, h48416, sg g48383 28 (0, 0) [] [(.slice none 0 0), (.slice none 0 0)] [], hF]) := hm48426
  refine s_val (v := (.int .i64 r48408.2)) (won rfl) rfl rfl (x_assign rfl (ev (t := 22) rfl rfl)) ?_
  refine wpList_nil ?_
  refine nx ?_
  refine wp_seq ?_
  refine wp_seq ?_
  refine wp_region_lit ?_
  refine s_val (v := (.int .i64 r48408.2)) (won rfl) rfl rfl (x_move rfl (ev (t := 8) rfl rfl)) ?_
  refine s_val (v := (.bool (!decide (r48408.2 = 0)))) (won rfl) rfl rfl (x_neq rfl (ev (t := 23) rfl rfl) rfl) ?_
  refine wpList_nil ?_
  refine nx ?_
  rcases Bool.eq_false_or_eq_true ((!decide (r48408.2 = 0))) with hb48438 | hb48438
  ·
   replace he := bifT he hb48438
   refine c_true rfl (p := (!decide (r48408.2 = 0))) rfl rfl hb48438 ?_
   refine wp_seq ?_
   refine wp_region_lit ?_
   refine s_val (v := (.agg #[(.slice none 0 0), (.slice none 0 0)])) (won rfl) rfl rfl (x_build (cells := [(.slice none 0 0), (.slice none 0 0)]) (zc := [.slice none 0 0, .slice none 0 0]) (sizes := [(0, 1), (1, 1)]) (ps := []) rfl zt_28 rfl uf_28 ufz_28 (pmap_lit pmap_nil) fill_nil) ?_
   refine s_exv (won rfl) rfl rfl (e_litp (cells := []) (ps := []) rfl slt_31 (pmap_lit pmap_nil) (fun w1 => run_bslice0 slt_31) hm48426) ?_
   rintro g48443 w48441 hm48442
   have H48444 : OwF 35 impl_PoolReply.K (.slice (some ⟨g48443, 0, none⟩) 0 0) ([] : List impl_PoolReply) (sg g48443 35 (0, 0) [] (encs impl_PoolReply.K ([] : List impl_PoolReply)) []) := OwF.lit g48443 ([] : List impl_PoolReply) 0 rfl (by decide)
   replace hm48442 : Mem w0 w48441 (cat [(sg g48443 35 (0, 0) [] (encs impl_PoolReply.K ([] : List impl_PoolReply)) []), sg g48421 28 (0, 0) [] [v48410, v48414] [], h48412, h48416, sg g48383 28 (0, 0) [] [(.slice none 0 0), (.slice none 0 0)] [], hF]) := hm48442
   refine s_val (v := (.int .i64 r48408.2)) (won rfl) rfl rfl (x_move rfl (ev (t := 8) rfl rfl)) ?_
   refine s_exs (won rfl) rfl (e_store (vs := [(.slice none 0 0), (.slice none 0 0)]) (o' := 0) (j := 0) rfl sz_28 (ev (t := 4) rfl rfl) (ev (t := 25) rfl rfl) rfl rfl hm48442 (k := 4) rfl rfl rfl) ?_
   intro w48446 hm48447
   replace hm48447 : Mem w0 w48446 (cat [(sg g48443 35 (0, 0) [] (encs impl_PoolReply.K ([] : List impl_PoolReply)) []), sg g48421 28 (0, 0) [] [v48410, v48414] [], h48412, h48416, sg g48383 28 (0, 0) [] [(.slice none 0 0), (.slice none 0 0)] [], hF]) := hm48447
   refine s_val (v := (.slice (some ⟨g48443, 0, none⟩) 0 0)) (won rfl) rfl rfl (x_assign rfl (ev (t := 26) rfl rfl)) ?_
   refine s_val (v := (.int .i64 r48408.2)) (won rfl) rfl rfl (x_assign rfl (ev (t := 27) rfl rfl)) ?_
   refine wpList_nil ?_
   have hm48448 : Mem w0 w48446 (cat [(sg g48443 35 (0, 0) [] (encs impl_PoolReply.K ([] : List impl_PoolReply)) []), sg g48383 28 (0, 0) [] [(.slice none 0 0), (.slice none 0 0)] [], hF]) := Mem.pick [0, 4, 5] rfl hm48447
   refine nx ?_
   refine wp_ret ?_
   refine xr ?_
   obtain rfl := Option.some.inj he
   refine r_ret (v := (.tuple #[(.agg #[(.slice none 0 0), (.slice none 0 0)]), (.slice (some ⟨g48443, 0, none⟩) 0 0), (.int .i64 r48408.2)])) (rv_list rfl rfl (RVs.cell (cs := [(.slice none 0 0), (.slice none 0 0)]) rfl rfl tyN_28 (seg_cells (o' := 0) (j := 0) hm48448 (k := 1) rfl rfl rfl) (RVs.tmp (v := (.slice (some ⟨g48443, 0, none⟩) 0 0)) rfl rfl (RVs.tmp (v := (.int .i64 r48408.2)) rfl rfl RVs.nil)))) rfl ?_
   exact ⟨(.slice none 0 0), [], (.slice none 0 0), [], (.slice (some ⟨g48443, 0, none⟩) 0 0), (sg g48443 35 (0, 0) [] (encs impl_PoolReply.K ([] : List impl_PoolReply)) []), rfl, (OwF.nil 3 (FK.int .i64)), (OwF.nil 3 (FK.int .i64)), H48444, Mem.pick [1000, 1001, 0, 2] rfl hm48448⟩
  ·
   replace he := bifF he hb48438
   refine c_false rfl (p := (!decide (r48408.2 = 0))) rfl rfl hb48438 ?_
   refine wp_skip ?_
   refine nx ?_
   refine wp_seq ?_
   refine wp_seq ?_
   refine wp_region_lit ?_
   refine s_val (v := v1x0) (won rfl) rfl rfl (x_move rfl (ev (t := 1) rfl rfl)) ?_
   refine s_val (v := (.int .i64 (a1.length : Int))) (won rfl) rfl rfl (x_len rfl slt_24 (ev (t := 28) rfl rfl) (H1x0).sl) ?_
   refine s_val (v := (.bool (decide ((300 : Int) < (a1.length : Int))))) (won rfl) rfl rfl (x_gtr rfl (ev (t := 29) rfl rfl) rfl) ?_
   refine wpList_nil ?_
   refine nx ?_
   rcases Bool.eq_false_or_eq_true ((decide ((300 : Int) < (a1.length : Int)))) with hb48460 | hb48460
   ·
    replace he := bifT he hb48460
    refine c_true rfl (p := (decide ((300 : Int) < (a1.length : Int)))) rfl rfl hb48460 ?_
    refine wp_seq ?_
    refine wp_region_lit ?_
    refine s_val (v := (.agg #[(.slice none 0 0), (.slice none 0 0)])) (won rfl) rfl rfl (x_build (cells := [(.slice none 0 0), (.slice none 0 0)]) (zc := [.slice none 0 0, .slice none 0 0]) (sizes := [(0, 1), (1, 1)]) (ps := []) rfl zt_28 rfl uf_28 ufz_28 (pmap_lit pmap_nil) fill_nil) ?_
    refine s_exv (won rfl) rfl rfl (e_litp (cells := []) (ps := []) rfl slt_31 (pmap_lit pmap_nil) (fun w1 => run_bslice0 slt_31) hm48426) ?_
    rintro g48465 w48463 hm48464
    have H48466 : OwF 35 impl_PoolReply.K (.slice (some ⟨g48465, 0, none⟩) 0 0) ([] : List impl_PoolReply) (sg g48465 35 (0, 0) [] (encs impl_PoolReply.K ([] : List impl_PoolReply)) []) := OwF.lit g48465 ([] : List impl_PoolReply) 0 rfl (by decide)
    replace hm48464 : Mem w0 w48463 (cat [(sg g48465 35 (0, 0) [] (encs impl_PoolReply.K ([] : List impl_PoolReply)) []), sg g48421 28 (0, 0) [] [v48410, v48414] [], h48412, h48416, sg g48383 28 (0, 0) [] [(.slice none 0 0), (.slice none 0 0)] [], hF]) := hm48464
    refine s_exs (won rfl) rfl (e_store (vs := [(.slice none 0 0), (.slice none 0 0)]) (o' := 0) (j := 0) rfl sz_28 (ev (t := 4) rfl rfl) (ev (t := 31) rfl rfl) rfl rfl hm48464 (k := 4) rfl rfl rfl) ?_
    intro w48468 hm48469
    replace hm48469 : Mem w0 w48468 (cat [(sg g48465 35 (0, 0) [] (encs impl_PoolReply.K ([] : List impl_PoolReply)) []), sg g48421 28 (0, 0) [] [v48410, v48414] [], h48412, h48416, sg g48383 28 (0, 0) [] [(.slice none 0 0), (.slice none 0 0)] [], hF]) := hm48469
    refine s_val (v := (.slice (some ⟨g48465, 0, none⟩) 0 0)) (won rfl) rfl rfl (x_assign rfl (ev (t := 32) rfl rfl)) ?_
    refine s_val (v := (.int .i64 6)) (won rfl) rfl rfl (x_assign rfl rfl) ?_
    refine wpList_nil ?_
    have hm48470 : Mem w0 w48468 (cat [(sg g48465 35 (0, 0) [] (encs impl_PoolReply.K ([] : List impl_PoolReply)) []), sg g48383 28 (0, 0) [] [(.slice none 0 0), (.slice none 0 0)] [], hF]) := Mem.pick [0, 4, 5] rfl hm48469
    refine nx ?_
    refine wp_ret ?_
    refine xr ?_
    obtain rfl := Option.some.inj he
    refine r_ret (v := (.tuple #[(.agg #[(.slice none 0 0), (.slice none 0 0)]), (.slice (some ⟨g48465, 0, none⟩) 0 0), (.int .i64 6)])) (rv_list rfl rfl (RVs.cell (cs := [(.slice none 0 0), (.slice none 0 0)]) rfl rfl tyN_28 (seg_cells (o' := 0) (j := 0) hm48470 (k := 1) rfl rfl rfl) (RVs.tmp (v := (.slice (some ⟨g48465, 0, none⟩) 0 0)) rfl rfl (RVs.tmp (v := (.int .i64 6)) rfl rfl RVs.nil)))) rfl ?_
    exact ⟨(.slice none 0 0), [], (.slice none 0 0), [], (.slice (some ⟨g48465, 0, none⟩) 0 0), (sg g48465 35 (0, 0) [] (encs impl_PoolReply.K ([] : List impl_PoolReply)) []), rfl, (OwF.nil 3 (FK.int .i64)), (OwF.nil 3 (FK.int .i64)), H48466, Mem.pick [1000, 1001, 0, 2] rfl hm48470⟩
   ·
    replace he := bifF he hb48460
    refine c_false rfl (p := (decide ((300 : Int) < (a1.length : Int)))) rfl rfl hb48460 ?_
    refine wp_skip ?_
    refine nx ?_
    refine wp_seq ?_
    refine wp_region_lit ?_
    refine s_exv (won rfl) rfl rfl (e_litp (cells := []) (ps := []) rfl slt_31 (pmap_lit pmap_nil) (fun w1 => run_bslice0 slt_31) hm48426) ?_
    rintro g48473 w48471 hm48472
    have H48474 : OwF 35 impl_PoolReply.K (.slice (some ⟨g48473, 0, none⟩) 0 0) ([] : List impl_PoolReply) (sg g48473 35 (0, 0) [] (encs impl_PoolReply.K ([] : List impl_PoolReply)) []) := OwF.lit g48473 ([] : List impl_PoolReply) 0 rfl (by decide)
    replace hm48472 : Mem w0 w48471 (cat [(sg g48473 35 (0, 0) [] (encs impl_PoolReply.K ([] : List impl_PoolReply)) []), sg g48421 28 (0, 0) [] [v48410, v48414] [], h48412, h48416, sg g48383 28 (0, 0) [] [(.slice none 0 0), (.slice none 0 0)] [], hF]) := hm48472
    refine s_val (v := (.slice (some ⟨g48473, 0, none⟩) 0 0)) (won rfl) rfl rfl (x_assign rfl (ev (t := 33) rfl rfl)) ?_
    refine wpList_nil ?_
    refine nx ?_
    obtain ⟨s64381, hT64383, hk64382⟩ := bindE he
    replace he := hT64383
    refine wp_seqJ (fun a w => ∃ (v64368 : Value) (v64372 : Value) (v64376 : Value) (h64377 : Hp) (z64380 : Hp) (f : Nat → Value), a = fr 57 f ∧ f 4 = (.pointer (some ⟨g48383, 0, none⟩)) ∧ f 7 = (.pointer (some ⟨g48421, 0, none⟩)) ∧ f 9 = v64376 ∧ RdF w0 (FK.int .i64) v64368 s64381.1 (cat [hR, z64380]) ∧ RdF w0 (FK.int .i64) v64372 s64381.2.1 (cat [hR, z64380]) ∧ OwF 35 impl_PoolReply.K v64376 s64381.2.2 h64377 ∧ Mem w0 w (cat [sg g48383 28 (0, 0) [] [(.slice none 0 0), (.slice none 0 0)] [], sg g48421 28 (0, 0) [] [v64368, v64372] [], h64377, z64380, hF])) ?_ ?_
    ·
     refine wp_seq ?_
     refine wp_region_lit ?_
     refine s_val (v := (.int .i64 0)) (won rfl) rfl rfl (x_assign rfl rfl) ?_
     refine wpList_nil ?_
     refine nx ?_
     refine wp_block ?_
     refine wp_fuel (I := fun k => fun a w => ∃ (s72367 : (List Int)) (s72370 : (List Int)) (s72374 : (List impl_PoolReply)) (s72379 : Int) (v72368 : Value) (v72371 : Value) (v72375 : Value) (h72376 : Hp) (z72381 : Hp) (f : Nat → Value), spec_PoolRun_l1 F a1 k s72367 s72370 s72374 s72379 = some s64381 ∧ a = fr 57 f ∧ f 1 = v1x0 ∧ f 4 = (.pointer (some ⟨g48383, 0, none⟩)) ∧ f 7 = (.pointer (some ⟨g48421, 0, none⟩)) ∧ f 9 = v72375 ∧ f 10 = (.int .i64 s72379) ∧ RdF w0 (FK.int .i64) v72368 s72367 (cat [hR, z72381]) ∧ RdF w0 (FK.int .i64) v72371 s72370 (cat [hR, z72381]) ∧ OwF 35 impl_PoolReply.K v72375 s72374 h72376 ∧ Mem w0 w (cat [sg g48383 28 (0, 0) [] [(.slice none 0 0), (.slice none 0 0)] [], sg g48421 28 (0, 0) [] [v72368, v72371] [], h72376, z72381, hF])) F _ _ ⟨r48408.1.Free, r48408.1.Owner, ([] : List impl_PoolReply), 0, v48410, v48414, (.slice (some ⟨g48473, 0, none⟩) 0 0), (sg g48473 35 (0, 0) [] (encs impl_PoolReply.K ([] : List impl_PoolReply)) []), (cat [h48412, h48416]), _, he, rfl, rfl, rfl, rfl, rfl, rfl, ((H48411.rd w0).mono (Sub.trans (Sub.at_ (L := [h48412, h48416]) (k := 0) rfl) (Sub.at_ (k := 1) rfl))), ((H48415.rd w0).mono (Sub.trans (Sub.at_ (L := [h48412, h48416]) (k := 1) rfl) (Sub.at_ (k := 1) rfl))), H48474, Mem.zgrp [sg g48383 28 (0, 0) [] [(.slice none 0 0), (.slice none 0 0)] [], sg g48421 28 (0, 0) [] [v48410, v48414] [], (sg g48473 35 (0, 0) [] (encs impl_PoolReply.K ([] : List impl_PoolReply)) [])] [h48412, h48416] _ (Mem.pick [4, 1, 0, 2, 3, 5] rfl hm48472)⟩ ?_ ?_
     ·
      rintro a w ⟨s72367, s72370, s72374, s72379, v72368, v72371, v72375, h72376, z72381, f, he, rfl, q72365, q72366, q72373, q72378, q72380, H72369, H72372, H72377, hm76366⟩
      rw [spec_PoolRun_l1] at he; exact none_no he
     ·
      rintro k a w ⟨s72367, s72370, s72374, s72379, v72368, v72371, v72375, h72376, z72381, f, he, rfl, q72365, q72366, q72373, q72378, q72380, H72369, H72372, H72377, hm76368⟩
      rw [spec_PoolRun_l1] at he
      refine wp_seq ?_
      refine wp_seq ?_
      refine wp_region_lit ?_
      refine s_val (v := (.int .i64 s72379)) (won rfl) rfl rfl (x_move rfl (ev (t := 10) (v := (.int .i64 s72379)) rfl q72380)) ?_
      refine s_val (v := v1x0) (won rfl) rfl rfl (x_move rfl (ev (t := 1) (v := v1x0) rfl q72365)) ?_
      refine s_val (v := (.int .i64 (a1.length : Int))) (won rfl) rfl rfl (x_len rfl slt_24 (ev (t := 35) rfl rfl) (H1x0).sl) ?_
      refine s_val (v := (.bool (decide (s72379 < (a1.length : Int))))) (won rfl) rfl rfl (x_lss rfl (ev (t := 34) rfl rfl) (ev (t := 36) rfl rfl)) ?_
      refine wpList_nil ?_
      refine nx ?_
      rcases Bool.eq_false_or_eq_true ((decide (s72379 < (a1.length : Int)))) with hb76370 | hb76370
      ·
       replace he := bifT he hb76370
       refine c_true rfl (p := (decide (s72379 < (a1.length : Int)))) rfl rfl hb76370 ?_
       refine wp_skip ?_
       refine nx ?_
       refine wp_seq ?_
       refine wp_block ?_
       refine wp_seq ?_
       obtain ⟨hg79301, he⟩ := gdE he
       obtain ⟨r79501, hr79501, he⟩ := bindE he
       obtain ⟨hz79000, hze79000⟩ : ∃ hz : Hp, hz = cat [sg g48383 28 (0, 0) [] [(.slice none 0 0), (.slice none 0 0)] [], h72376] := ⟨_, rfl⟩
       have hm79000 : Mem w0 w (cat [sg g48421 28 (0, 0) [] [v72368, v72371] [], z72381, hF, hz79000]) := by rw [hze79000]; exact Mem.grp [sg g48421 28 (0, 0) [] [v72368, v72371] [], z72381, hF] [sg g48383 28 (0, 0) [] [(.slice none 0 0), (.slice none 0 0)] [], h72376] (Mem.pick [1, 3, 4, 0, 2] rfl hm76368)
       refine wp_drawF (I := fun f b a w => ∃ (vs : Nat → Value) (v79504 : Value) (v79507 : Value) (n79502 : Hp) (g79903 : Nat) (g80001 : Nat), a = fr 57 (sel b [(0, 41), (1, 42), (2, 43), (3, 44), (4, 45), (5, 46), (6, 40), (7, 47), (8, 48), (9, 11), (10, 12)] vs f) ∧ (b 0 = true → vs 0 = (.agg #[v72368, v72371])) ∧ (b 1 = true → vs 1 = v1x0) ∧ (b 2 = true → vs 2 = (.int .i64 s72379)) ∧ (b 3 = true → vs 3 = (.pointer (some ((slA v1x0).add (Int.toNat s72379 * 4))))) ∧ (b 4 = true → vs 4 = (.agg #[(.int .i64 (ix a1 s72379).Kind), (.int .i64 (ix a1 s72379).Owner), (.int .i64 (ix a1 s72379).To), (.int .i64 (ix a1 s72379).Buffer)])) ∧ (b 5 = true → vs 5 = (.tuple #[(.agg #[v79504, v79507]), (.agg #[(.int .i64 r79501.2.Code), (.int .i64 r79501.2.Buffer)])])) ∧ (b 6 = true → vs 6 = (.tuple #[(.agg #[v79504, v79507]), (.agg #[(.int .i64 r79501.2.Code), (.int .i64 r79501.2.Buffer)])])) ∧ (b 7 = true → vs 7 = (.agg #[v79504, v79507])) ∧ (b 8 = true → vs 8 = (.agg #[(.int .i64 r79501.2.Code), (.int .i64 r79501.2.Buffer)])) ∧ (b 9 = true → vs 9 = (.pointer (some ⟨g79903, 0, none⟩))) ∧ (b 10 = true → vs 10 = (.pointer (some ⟨g80001, 0, none⟩))) ∧ (b 5 = true → RdF w0 (FK.int .i64) v79504 r79501.1.Free (cat [(cat [hR, z72381]), n79502])) ∧ (b 5 = true → RdF w0 (FK.int .i64) v79507 r79501.1.Owner (cat [(cat [hR, z72381]), n79502])) ∧ Mem w0 w (cat [sg g48421 28 (0, 0) [] [v72368, v72371] [], z72381, hF, hz79000, (bif b 5 then n79502 else []), (bif b 11 then sg g79903 28 (0, 0) [] [v79504, v79507] [] else (bif b 9 then sg g79903 28 (0, 0) [] [(.slice none 0 0), (.slice none 0 0)] [] else [])), (bif b 12 then sg g80001 35 (0, 0) [] [(.int .i64 r79501.2.Code), (.int .i64 r79501.2.Buffer)] [] else (bif b 10 then sg g80001 35 (0, 0) [] [(.int .i64 0), (.int .i64 0)] [] else []))])) mixed (by kernel_rfl) ⟨fun _ => undef, undef, undef, [], 0, 0, (by rw [sel_false]), fun h => fno h, fun h => fno h, fun h => fno h, fun h => fno h, fun h => fno h, fun h => fno h, fun h => fno h, fun h => fno h, fun h => fno h, fun h => fno h, fun h => fno h, fun h => fno h, fun h => fno h, Mem.drew (Mem.pick [0, 1, 2, 3, 1000, 1001, 1002] rfl hm79000)⟩ (steps_cons (i := 0) ?_ (steps_cons (i := 1) ?_ (steps_cons (i := 2) ?_ (steps_cons (i := 3) ?_ (steps_cons (i := 4) ?_ (steps_cons (i := 5) ?_ (steps_cons (i := 6) ?_ (steps_cons (i := 7) ?_ (steps_cons (i := 8) ?_ (steps_cons (i := 9) ?_ (steps_cons (i := 10) ?_ (steps_cons (i := 11) ?_ (steps_cons (i := 12) ?_ steps_nil))))))))))))) ?_
       ·
        intro b a w hI hbi hn hc K hK
        obtain ⟨vs, v79504, v79507, n79502, g79903, g80001, ha, y0, y1, y2, y3, y4, y5, y6, y7, y8, y9, y10, H79505, H79508, hm⟩ := hI
        subst ha
        have b5 : b 5 = false := later (j := 5) hc rfl (i := 0) (da rfl) hbi
        have b6 : b 6 = false := later (j := 6) hc rfl (i := 5) (da rfl) b5
        have b7 : b 7 = false := later (j := 7) hc rfl (i := 6) (da rfl) b6
        have b8 : b 8 = false := later (j := 8) hc rfl (i := 6) (da rfl) b6
        have b11 : b 11 = false := later (j := 11) hc rfl (i := 0) (da rfl) hbi
        have b12 : b 12 = false := later (j := 12) hc rfl (i := 0) (da rfl) hbi
        have hm80301 : Mem w0 w (cat [sg g48421 28 (0, 0) [] [v72368, v72371] [], z72381, hF, hz79000, (bif b 9 then sg g79903 28 (0, 0) [] [(.slice none 0 0), (.slice none 0 0)] [] else []), (bif b 10 then sg g80001 35 (0, 0) [] [(.int .i64 0), (.int .i64 0)] [] else [])]) := Mem.pick [0, 1, 2, 3, 5, 6] rfl (Mem.cg (B := [sg g48421 28 (0, 0) [] [v72368, v72371] [], z72381, hF, hz79000, [], (bif b 9 then sg g79903 28 (0, 0) [] [(.slice none 0 0), (.slice none 0 0)] [] else []), (bif b 10 then sg g80001 35 (0, 0) [] [(.int .i64 0), (.int .i64 0)] [] else [])]) (cat_cons rfl (cat_cons rfl (cat_cons rfl (cat_cons rfl (cat_cons (off_ b5 rfl) (cat_cons (off_ b11 rfl) (cat_cons (off_ b12 rfl) rfl))))))) hm)
        refine e_val (i := 0) hbi rfl rfl (v := (.agg #[v72368, v72371])) (won rfl) rfl rfl (x_loadN (vs := [v72368, v72371]) rfl tyN_28 (ev (t := 7) (v := (.pointer (some ⟨g48421, 0, none⟩))) rfl ((sel_no rfl).trans q72373)) (seg_cells (o' := 0) (j := 0) hm80301 (k := 0) rfl rfl rfl)) ?_
        exact hK _ _ ⟨_, v79504, v79507, n79502, g79903, g80001, rfl, fun _ => rfl, y1, y2, y3, y4, y5, y6, y7, y8, y9, y10, H79505, H79508, Mem.gc (A := [sg g48421 28 (0, 0) [] [v72368, v72371] [], z72381, hF, hz79000, [], (bif b 9 then sg g79903 28 (0, 0) [] [(.slice none 0 0), (.slice none 0 0)] [] else []), (bif b 10 then sg g80001 35 (0, 0) [] [(.int .i64 0), (.int .i64 0)] [] else [])]) (cat_cons rfl (cat_cons rfl (cat_cons rfl (cat_cons rfl (cat_cons (off_ b5 rfl) (cat_cons (off_ b11 rfl) (cat_cons (off_ b12 rfl) rfl))))))) (Mem.pick [0, 1, 2, 3, 1004, 4, 5] rfl hm80301)⟩
       ·
        intro b a w hI hbi hn hc K hK
        obtain ⟨vs, v79504, v79507, n79502, g79903, g80001, ha, y0, y1, y2, y3, y4, y5, y6, y7, y8, y9, y10, H79505, H79508, hm⟩ := hI
        subst ha
        have b3 : b 3 = false := later (j := 3) hc rfl (i := 1) (da rfl) hbi
        have b4 : b 4 = false := later (j := 4) hc rfl (i := 3) (da rfl) b3
        have b5 : b 5 = false := later (j := 5) hc rfl (i := 4) (da rfl) b4
        have b6 : b 6 = false := later (j := 6) hc rfl (i := 5) (da rfl) b5
        have b7 : b 7 = false := later (j := 7) hc rfl (i := 6) (da rfl) b6
        have b8 : b 8 = false := later (j := 8) hc rfl (i := 6) (da rfl) b6
        have b11 : b 11 = false := later (j := 11) hc rfl (i := 1) (da rfl) hbi
        have b12 : b 12 = false := later (j := 12) hc rfl (i := 1) (da rfl) hbi
        have hm80304 : Mem w0 w (cat [sg g48421 28 (0, 0) [] [v72368, v72371] [], z72381, hF, hz79000, (bif b 9 then sg g79903 28 (0, 0) [] [(.slice none 0 0), (.slice none 0 0)] [] else []), (bif b 10 then sg g80001 35 (0, 0) [] [(.int .i64 0), (.int .i64 0)] [] else [])]) := Mem.pick [0, 1, 2, 3, 5, 6] rfl (Mem.cg (B := [sg g48421 28 (0, 0) [] [v72368, v72371] [], z72381, hF, hz79000, [], (bif b 9 then sg g79903 28 (0, 0) [] [(.slice none 0 0), (.slice none 0 0)] [] else []), (bif b 10 then sg g80001 35 (0, 0) [] [(.int .i64 0), (.int .i64 0)] [] else [])]) (cat_cons rfl (cat_cons rfl (cat_cons rfl (cat_cons rfl (cat_cons (off_ b5 rfl) (cat_cons (off_ b11 rfl) (cat_cons (off_ b12 rfl) rfl))))))) hm)
        refine e_val (i := 1) hbi rfl rfl (v := v1x0) (won rfl) rfl rfl (x_move rfl (ev (t := 1) (v := v1x0) rfl ((sel_no rfl).trans q72365))) ?_
        exact hK _ _ ⟨_, v79504, v79507, n79502, g79903, g80001, rfl, y0, fun _ => rfl, y2, y3, y4, y5, y6, y7, y8, y9, y10, H79505, H79508, Mem.gc (A := [sg g48421 28 (0, 0) [] [v72368, v72371] [], z72381, hF, hz79000, [], (bif b 9 then sg g79903 28 (0, 0) [] [(.slice none 0 0), (.slice none 0 0)] [] else []), (bif b 10 then sg g80001 35 (0, 0) [] [(.int .i64 0), (.int .i64 0)] [] else [])]) (cat_cons rfl (cat_cons rfl (cat_cons rfl (cat_cons rfl (cat_cons (off_ b5 rfl) (cat_cons (off_ b11 rfl) (cat_cons (off_ b12 rfl) rfl))))))) (Mem.pick [0, 1, 2, 3, 1004, 4, 5] rfl hm80304)⟩
       ·
        intro b a w hI hbi hn hc K hK
        obtain ⟨vs, v79504, v79507, n79502, g79903, g80001, ha, y0, y1, y2, y3, y4, y5, y6, y7, y8, y9, y10, H79505, H79508, hm⟩ := hI
        subst ha
        have b3 : b 3 = false := later (j := 3) hc rfl (i := 2) (da rfl) hbi
        have b4 : b 4 = false := later (j := 4) hc rfl (i := 3) (da rfl) b3
        have b5 : b 5 = false := later (j := 5) hc rfl (i := 4) (da rfl) b4
        have b6 : b 6 = false := later (j := 6) hc rfl (i := 5) (da rfl) b5
        have b7 : b 7 = false := later (j := 7) hc rfl (i := 6) (da rfl) b6
        have b8 : b 8 = false := later (j := 8) hc rfl (i := 6) (da rfl) b6
        have b11 : b 11 = false := later (j := 11) hc rfl (i := 2) (da rfl) hbi
        have b12 : b 12 = false := later (j := 12) hc rfl (i := 2) (da rfl) hbi
        have hm80307 : Mem w0 w (cat [sg g48421 28 (0, 0) [] [v72368, v72371] [], z72381, hF, hz79000, (bif b 9 then sg g79903 28 (0, 0) [] [(.slice none 0 0), (.slice none 0 0)] [] else []), (bif b 10 then sg g80001 35 (0, 0) [] [(.int .i64 0), (.int .i64 0)] [] else [])]) := Mem.pick [0, 1, 2, 3, 5, 6] rfl (Mem.cg (B := [sg g48421 28 (0, 0) [] [v72368, v72371] [], z72381, hF, hz79000, [], (bif b 9 then sg g79903 28 (0, 0) [] [(.slice none 0 0), (.slice none 0 0)] [] else []), (bif b 10 then sg g80001 35 (0, 0) [] [(.int .i64 0), (.int .i64 0)] [] else [])]) (cat_cons rfl (cat_cons rfl (cat_cons rfl (cat_cons rfl (cat_cons (off_ b5 rfl) (cat_cons (off_ b11 rfl) (cat_cons (off_ b12 rfl) rfl))))))) hm)
        refine e_val (i := 2) hbi rfl rfl (v := (.int .i64 s72379)) (won rfl) rfl rfl (x_move rfl (ev (t := 10) (v := (.int .i64 s72379)) rfl ((sel_no rfl).trans q72380))) ?_
        exact hK _ _ ⟨_, v79504, v79507, n79502, g79903, g80001, rfl, y0, y1, fun _ => rfl, y3, y4, y5, y6, y7, y8, y9, y10, H79505, H79508, Mem.gc (A := [sg g48421 28 (0, 0) [] [v72368, v72371] [], z72381, hF, hz79000, [], (bif b 9 then sg g79903 28 (0, 0) [] [(.slice none 0 0), (.slice none 0 0)] [] else []), (bif b 10 then sg g80001 35 (0, 0) [] [(.int .i64 0), (.int .i64 0)] [] else [])]) (cat_cons rfl (cat_cons rfl (cat_cons rfl (cat_cons rfl (cat_cons (off_ b5 rfl) (cat_cons (off_ b11 rfl) (cat_cons (off_ b12 rfl) rfl))))))) (Mem.pick [0, 1, 2, 3, 1004, 4, 5] rfl hm80307)⟩
       ·
        intro b a w hI hbi hn hc K hK
        obtain ⟨vs, v79504, v79507, n79502, g79903, g80001, ha, y0, y1, y2, y3, y4, y5, y6, y7, y8, y9, y10, H79505, H79508, hm⟩ := hI
        subst ha
        have b1 : b 1 = true := hn 1 (da rfl)
        have b2 : b 2 = true := hn 2 (da rfl)
        have b4 : b 4 = false := later (j := 4) hc rfl (i := 3) (da rfl) hbi
        have b5 : b 5 = false := later (j := 5) hc rfl (i := 4) (da rfl) b4
        have b6 : b 6 = false := later (j := 6) hc rfl (i := 5) (da rfl) b5
        have b7 : b 7 = false := later (j := 7) hc rfl (i := 6) (da rfl) b6
        have b8 : b 8 = false := later (j := 8) hc rfl (i := 6) (da rfl) b6
        have b11 : b 11 = false := later (j := 11) hc rfl (i := 3) (da rfl) hbi
        have b12 : b 12 = false := later (j := 12) hc rfl (i := 3) (da rfl) hbi
        have hm80310 : Mem w0 w (cat [sg g48421 28 (0, 0) [] [v72368, v72371] [], z72381, hF, hz79000, (bif b 9 then sg g79903 28 (0, 0) [] [(.slice none 0 0), (.slice none 0 0)] [] else []), (bif b 10 then sg g80001 35 (0, 0) [] [(.int .i64 0), (.int .i64 0)] [] else [])]) := Mem.pick [0, 1, 2, 3, 5, 6] rfl (Mem.cg (B := [sg g48421 28 (0, 0) [] [v72368, v72371] [], z72381, hF, hz79000, [], (bif b 9 then sg g79903 28 (0, 0) [] [(.slice none 0 0), (.slice none 0 0)] [] else []), (bif b 10 then sg g80001 35 (0, 0) [] [(.int .i64 0), (.int .i64 0)] [] else [])]) (cat_cons rfl (cat_cons rfl (cat_cons rfl (cat_cons rfl (cat_cons (off_ b5 rfl) (cat_cons (off_ b11 rfl) (cat_cons (off_ b12 rfl) rfl))))))) hm)
        refine e_val (i := 3) hbi rfl rfl (v := (.pointer (some ((slA v1x0).add (Int.toNat s72379 * 4))))) (won rfl) rfl rfl (x_index (d := impl_PoolAct.K) rfl slt_24 (ev (t := 42) (v := v1x0) rfl ((sel_on (p := (1, 42)) rfl b1).trans (y1 b1))) (ev (t := 43) (v := (.int .i64 s72379)) rfl ((sel_on (p := (2, 43)) rfl b2).trans (y2 b2))) H1x0 hg79301.1 hg79301.2) ?_
        exact hK _ _ ⟨_, v79504, v79507, n79502, g79903, g80001, rfl, y0, y1, y2, fun _ => rfl, y4, y5, y6, y7, y8, y9, y10, H79505, H79508, Mem.gc (A := [sg g48421 28 (0, 0) [] [v72368, v72371] [], z72381, hF, hz79000, [], (bif b 9 then sg g79903 28 (0, 0) [] [(.slice none 0 0), (.slice none 0 0)] [] else []), (bif b 10 then sg g80001 35 (0, 0) [] [(.int .i64 0), (.int .i64 0)] [] else [])]) (cat_cons rfl (cat_cons rfl (cat_cons rfl (cat_cons rfl (cat_cons (off_ b5 rfl) (cat_cons (off_ b11 rfl) (cat_cons (off_ b12 rfl) rfl))))))) (Mem.pick [0, 1, 2, 3, 1004, 4, 5] rfl hm80310)⟩
       ·
        intro b a w hI hbi hn hc K hK
        obtain ⟨vs, v79504, v79507, n79502, g79903, g80001, ha, y0, y1, y2, y3, y4, y5, y6, y7, y8, y9, y10, H79505, H79508, hm⟩ := hI
        subst ha
        have b3 : b 3 = true := hn 3 (da rfl)
        have b1 : b 1 = true := hc 3 _ rfl b3 1 (da rfl)
        have b2 : b 2 = true := hc 3 _ rfl b3 2 (da rfl)
        have b5 : b 5 = false := later (j := 5) hc rfl (i := 4) (da rfl) hbi
        have b6 : b 6 = false := later (j := 6) hc rfl (i := 5) (da rfl) b5
        have b7 : b 7 = false := later (j := 7) hc rfl (i := 6) (da rfl) b6
        have b8 : b 8 = false := later (j := 8) hc rfl (i := 6) (da rfl) b6
        have b11 : b 11 = false := later (j := 11) hc rfl (i := 4) (da rfl) hbi
        have b12 : b 12 = false := later (j := 12) hc rfl (i := 4) (da rfl) hbi
        have hm80313 : Mem w0 w (cat [sg g48421 28 (0, 0) [] [v72368, v72371] [], z72381, hF, hz79000, (bif b 9 then sg g79903 28 (0, 0) [] [(.slice none 0 0), (.slice none 0 0)] [] else []), (bif b 10 then sg g80001 35 (0, 0) [] [(.int .i64 0), (.int .i64 0)] [] else [])]) := Mem.pick [0, 1, 2, 3, 5, 6] rfl (Mem.cg (B := [sg g48421 28 (0, 0) [] [v72368, v72371] [], z72381, hF, hz79000, [], (bif b 9 then sg g79903 28 (0, 0) [] [(.slice none 0 0), (.slice none 0 0)] [] else []), (bif b 10 then sg g80001 35 (0, 0) [] [(.int .i64 0), (.int .i64 0)] [] else [])]) (cat_cons rfl (cat_cons rfl (cat_cons rfl (cat_cons rfl (cat_cons (off_ b5 rfl) (cat_cons (off_ b11 rfl) (cat_cons (off_ b12 rfl) rfl))))))) hm)
        refine e_val (i := 4) hbi rfl rfl (v := (.agg #[(.int .i64 (ix a1 s72379).Kind), (.int .i64 (ix a1 s72379).Owner), (.int .i64 (ix a1 s72379).To), (.int .i64 (ix a1 s72379).Buffer)])) (won rfl) rfl rfl (x_loadN (vs := [(.int .i64 (ix a1 s72379).Kind), (.int .i64 (ix a1 s72379).Owner), (.int .i64 (ix a1 s72379).To), (.int .i64 (ix a1 s72379).Buffer)]) rfl tyN_39 (ev (t := 44) (v := (.pointer (some ((slA v1x0).add (Int.toNat s72379 * 4))))) rfl ((sel_on (p := (3, 44)) rfl b3).trans (y3 b3))) (RdF.cells H1x0 hm80313 (Sub.trans hs (Sub.at_ (k := 2) rfl)) hg79301.1 hg79301.2)) ?_
        exact hK _ _ ⟨_, v79504, v79507, n79502, g79903, g80001, rfl, y0, y1, y2, y3, fun _ => rfl, y5, y6, y7, y8, y9, y10, H79505, H79508, Mem.gc (A := [sg g48421 28 (0, 0) [] [v72368, v72371] [], z72381, hF, hz79000, [], (bif b 9 then sg g79903 28 (0, 0) [] [(.slice none 0 0), (.slice none 0 0)] [] else []), (bif b 10 then sg g80001 35 (0, 0) [] [(.int .i64 0), (.int .i64 0)] [] else [])]) (cat_cons rfl (cat_cons rfl (cat_cons rfl (cat_cons rfl (cat_cons (off_ b5 rfl) (cat_cons (off_ b11 rfl) (cat_cons (off_ b12 rfl) rfl))))))) (Mem.pick [0, 1, 2, 3, 1004, 4, 5] rfl hm80313)⟩
       ·
        intro b a w hI hbi hn hc K hK
        obtain ⟨vs, v79504, v79507, n79502, g79903, g80001, ha, y0, y1, y2, y3, y4, y5, y6, y7, y8, y9, y10, H79505, H79508, hm⟩ := hI
        subst ha
        have b0 : b 0 = true := hn 0 (da rfl)
        have b4 : b 4 = true := hn 4 (da rfl)
        have b3 : b 3 = true := hc 4 _ rfl b4 3 (da rfl)
        have b1 : b 1 = true := hc 3 _ rfl b3 1 (da rfl)
        have b2 : b 2 = true := hc 3 _ rfl b3 2 (da rfl)
        have b6 : b 6 = false := later (j := 6) hc rfl (i := 5) (da rfl) hbi
        have b7 : b 7 = false := later (j := 7) hc rfl (i := 6) (da rfl) b6
        have b8 : b 8 = false := later (j := 8) hc rfl (i := 6) (da rfl) b6
        have b11 : b 11 = false := later (j := 11) hc rfl (i := 5) (da rfl) hbi
        have b12 : b 12 = false := later (j := 12) hc rfl (i := 5) (da rfl) hbi
        have hm80316 : Mem w0 w (cat [sg g48421 28 (0, 0) [] [v72368, v72371] [], z72381, hF, hz79000, (bif b 9 then sg g79903 28 (0, 0) [] [(.slice none 0 0), (.slice none 0 0)] [] else []), (bif b 10 then sg g80001 35 (0, 0) [] [(.int .i64 0), (.int .i64 0)] [] else [])]) := Mem.pick [0, 1, 2, 3, 5, 6] rfl (Mem.cg (B := [sg g48421 28 (0, 0) [] [v72368, v72371] [], z72381, hF, hz79000, [], (bif b 9 then sg g79903 28 (0, 0) [] [(.slice none 0 0), (.slice none 0 0)] [] else []), (bif b 10 then sg g80001 35 (0, 0) [] [(.int .i64 0), (.int .i64 0)] [] else [])]) (cat_cons rfl (cat_cons rfl (cat_cons rfl (cat_cons rfl (cat_cons (off_ hbi rfl) (cat_cons (off_ b11 rfl) (cat_cons (off_ b12 rfl) rfl))))))) hm)
        refine e_call (i := 5) hbi rfl rfl (won rfl) rfl rfl (x_call rfl rfl cl_61 (map_lit (map_cons (ev (t := 41) (v := (.agg #[v72368, v72371])) rfl ((sel_on (p := (0, 41)) rfl b0).trans (y0 b0))) (map_cons (ev (t := 45) (v := (.agg #[(.int .i64 (ix a1 s72379).Kind), (.int .i64 (ix a1 s72379).Owner), (.int .i64 (ix a1 s72379).To), (.int .i64 (ix a1 s72379).Buffer)])) rfl ((sel_on (p := (4, 45)) rfl b4).trans (y4 b4))) map_nil)))) (spec_l12Step_ok F (hR := (cat [hR, z72381])) (hF := cat [sg g48421 28 (0, 0) [] [v72368, v72371] [], z72381, hF, hz79000, (bif b 9 then sg g79903 28 (0, 0) [] [(.slice none 0 0), (.slice none 0 0)] [] else []), (bif b 10 then sg g80001 35 (0, 0) [] [(.int .i64 0), (.int .i64 0)] [] else [])]) (impl_Pool.mk s72367 s72370) (impl_PoolAct.mk (ix a1 s72379).Kind (ix a1 s72379).Owner (ix a1 s72379).To (ix a1 s72379).Buffer) (H72369.mono (subc (Sub.at_ (k := 0) rfl) (subc (Sub.at_ (k := 1) rfl) subn))) (H72372.mono (subc (Sub.at_ (k := 0) rfl) (subc (Sub.at_ (k := 1) rfl) subn))) (subc (Sub.trans hs (Sub.at_ (k := 2) rfl)) (subc (Sub.at_ (k := 1) rfl) subn)) (Mem.one hm80316) hr79501) ?_
        rintro e w79509 ⟨v79504, v79507, n79502, rfl, H79505, H79508, hm79510⟩
        refine ⟨_, rfl, ?_⟩
        replace hm79510 : Mem w0 w79509 (cat [n79502, sg g48421 28 (0, 0) [] [v72368, v72371] [], z72381, hF, hz79000, (bif b 9 then sg g79903 28 (0, 0) [] [(.slice none 0 0), (.slice none 0 0)] [] else []), (bif b 10 then sg g80001 35 (0, 0) [] [(.int .i64 0), (.int .i64 0)] [] else [])]) := Mem.ung [n79502] [sg g48421 28 (0, 0) [] [v72368, v72371] [], z72381, hF, hz79000, (bif b 9 then sg g79903 28 (0, 0) [] [(.slice none 0 0), (.slice none 0 0)] [] else []), (bif b 10 then sg g80001 35 (0, 0) [] [(.int .i64 0), (.int .i64 0)] [] else [])] hm79510
        exact hK _ _ ⟨_, v79504, v79507, n79502, g79903, g80001, rfl, y0, y1, y2, y3, y4, fun _ => rfl, fun hb => ab b6 hb, fun hb => ab b7 hb, y8, y9, y10, fun _ => H79505, fun _ => H79508, Mem.gc (A := [sg g48421 28 (0, 0) [] [v72368, v72371] [], z72381, hF, hz79000, n79502, (bif b 9 then sg g79903 28 (0, 0) [] [(.slice none 0 0), (.slice none 0 0)] [] else []), (bif b 10 then sg g80001 35 (0, 0) [] [(.int .i64 0), (.int .i64 0)] [] else [])]) (cat_cons rfl (cat_cons rfl (cat_cons rfl (cat_cons rfl (cat_cons (on_ rfl rfl) (cat_cons (off_ b11 rfl) (cat_cons (off_ b12 rfl) rfl))))))) (Mem.pick [1, 2, 3, 4, 0, 5, 6] rfl hm79510)⟩
       ·
        intro b a w hI hbi hn hc K hK
        obtain ⟨vs, v79504, v79507, n79502, g79903, g80001, ha, y0, y1, y2, y3, y4, y5, y6, y7, y8, y9, y10, H79505, H79508, hm⟩ := hI
        subst ha
        have b5 : b 5 = true := hn 5 (da rfl)
        have b0 : b 0 = true := hc 5 _ rfl b5 0 (da rfl)
        have b4 : b 4 = true := hc 5 _ rfl b5 4 (da rfl)
        have b3 : b 3 = true := hc 4 _ rfl b4 3 (da rfl)
        have b1 : b 1 = true := hc 3 _ rfl b3 1 (da rfl)
        have b2 : b 2 = true := hc 3 _ rfl b3 2 (da rfl)
        have b7 : b 7 = false := later (j := 7) hc rfl (i := 6) (da rfl) hbi
        have b8 : b 8 = false := later (j := 8) hc rfl (i := 6) (da rfl) hbi
        have b11 : b 11 = false := later (j := 11) hc rfl (i := 6) (da rfl) hbi
        have b12 : b 12 = false := later (j := 12) hc rfl (i := 6) (da rfl) hbi
        have H79505 := H79505 b5
        have H79508 := H79508 b5
        have hm80319 : Mem w0 w (cat [sg g48421 28 (0, 0) [] [v72368, v72371] [], z72381, hF, hz79000, n79502, (bif b 9 then sg g79903 28 (0, 0) [] [(.slice none 0 0), (.slice none 0 0)] [] else []), (bif b 10 then sg g80001 35 (0, 0) [] [(.int .i64 0), (.int .i64 0)] [] else [])]) := Mem.pick [0, 1, 2, 3, 4, 5, 6] rfl (Mem.cg (B := [sg g48421 28 (0, 0) [] [v72368, v72371] [], z72381, hF, hz79000, n79502, (bif b 9 then sg g79903 28 (0, 0) [] [(.slice none 0 0), (.slice none 0 0)] [] else []), (bif b 10 then sg g80001 35 (0, 0) [] [(.int .i64 0), (.int .i64 0)] [] else [])]) (cat_cons rfl (cat_cons rfl (cat_cons rfl (cat_cons rfl (cat_cons (on_ b5 rfl) (cat_cons (off_ b11 rfl) (cat_cons (off_ b12 rfl) rfl))))))) hm)
        refine e_val (i := 6) hbi rfl rfl (v := (.tuple #[(.agg #[v79504, v79507]), (.agg #[(.int .i64 r79501.2.Code), (.int .i64 r79501.2.Buffer)])])) (won rfl) rfl rfl (x_move rfl (ev (t := 46) (v := (.tuple #[(.agg #[v79504, v79507]), (.agg #[(.int .i64 r79501.2.Code), (.int .i64 r79501.2.Buffer)])])) rfl ((sel_on (p := (5, 46)) rfl b5).trans (y5 b5)))) ?_
        exact hK _ _ ⟨_, v79504, v79507, n79502, g79903, g80001, rfl, y0, y1, y2, y3, y4, y5, fun _ => rfl, y7, y8, y9, y10, fun _ => H79505, fun _ => H79508, Mem.gc (A := [sg g48421 28 (0, 0) [] [v72368, v72371] [], z72381, hF, hz79000, n79502, (bif b 9 then sg g79903 28 (0, 0) [] [(.slice none 0 0), (.slice none 0 0)] [] else []), (bif b 10 then sg g80001 35 (0, 0) [] [(.int .i64 0), (.int .i64 0)] [] else [])]) (cat_cons rfl (cat_cons rfl (cat_cons rfl (cat_cons rfl (cat_cons (on_ b5 rfl) (cat_cons (off_ b11 rfl) (cat_cons (off_ b12 rfl) rfl))))))) (Mem.pick [0, 1, 2, 3, 4, 5, 6] rfl hm80319)⟩
       ·
        intro b a w hI hbi hn hc K hK
        obtain ⟨vs, v79504, v79507, n79502, g79903, g80001, ha, y0, y1, y2, y3, y4, y5, y6, y7, y8, y9, y10, H79505, H79508, hm⟩ := hI
        subst ha
        have b6 : b 6 = true := hn 6 (da rfl)
        have b5 : b 5 = true := hc 6 _ rfl b6 5 (da rfl)
        have b0 : b 0 = true := hc 5 _ rfl b5 0 (da rfl)
        have b4 : b 4 = true := hc 5 _ rfl b5 4 (da rfl)
        have b3 : b 3 = true := hc 4 _ rfl b4 3 (da rfl)
        have b1 : b 1 = true := hc 3 _ rfl b3 1 (da rfl)
        have b2 : b 2 = true := hc 3 _ rfl b3 2 (da rfl)
        have b11 : b 11 = false := later (j := 11) hc rfl (i := 7) (da rfl) hbi
        have b12 : b 12 = false := later (j := 12) hc rfl (i := 7) (da rfl) hbi
        have H79505 := H79505 b5
        have H79508 := H79508 b5
        have hm80322 : Mem w0 w (cat [sg g48421 28 (0, 0) [] [v72368, v72371] [], z72381, hF, hz79000, n79502, (bif b 9 then sg g79903 28 (0, 0) [] [(.slice none 0 0), (.slice none 0 0)] [] else []), (bif b 10 then sg g80001 35 (0, 0) [] [(.int .i64 0), (.int .i64 0)] [] else [])]) := Mem.pick [0, 1, 2, 3, 4, 5, 6] rfl (Mem.cg (B := [sg g48421 28 (0, 0) [] [v72368, v72371] [], z72381, hF, hz79000, n79502, (bif b 9 then sg g79903 28 (0, 0) [] [(.slice none 0 0), (.slice none 0 0)] [] else []), (bif b 10 then sg g80001 35 (0, 0) [] [(.int .i64 0), (.int .i64 0)] [] else [])]) (cat_cons rfl (cat_cons rfl (cat_cons rfl (cat_cons rfl (cat_cons (on_ b5 rfl) (cat_cons (off_ b11 rfl) (cat_cons (off_ b12 rfl) rfl))))))) hm)
        refine e_val (i := 7) hbi rfl rfl (v := (.agg #[v79504, v79507])) (won rfl) rfl rfl (x_extract rfl (ev (t := 40) (v := (.tuple #[(.agg #[v79504, v79507]), (.agg #[(.int .i64 r79501.2.Code), (.int .i64 r79501.2.Buffer)])])) rfl ((sel_on (p := (6, 40)) rfl b6).trans (y6 b6))) rfl) ?_
        exact hK _ _ ⟨_, v79504, v79507, n79502, g79903, g80001, rfl, y0, y1, y2, y3, y4, y5, y6, fun _ => rfl, y8, y9, y10, fun _ => H79505, fun _ => H79508, Mem.gc (A := [sg g48421 28 (0, 0) [] [v72368, v72371] [], z72381, hF, hz79000, n79502, (bif b 9 then sg g79903 28 (0, 0) [] [(.slice none 0 0), (.slice none 0 0)] [] else []), (bif b 10 then sg g80001 35 (0, 0) [] [(.int .i64 0), (.int .i64 0)] [] else [])]) (cat_cons rfl (cat_cons rfl (cat_cons rfl (cat_cons rfl (cat_cons (on_ b5 rfl) (cat_cons (off_ b11 rfl) (cat_cons (off_ b12 rfl) rfl))))))) (Mem.pick [0, 1, 2, 3, 4, 5, 6] rfl hm80322)⟩
       ·
        intro b a w hI hbi hn hc K hK
        obtain ⟨vs, v79504, v79507, n79502, g79903, g80001, ha, y0, y1, y2, y3, y4, y5, y6, y7, y8, y9, y10, H79505, H79508, hm⟩ := hI
        subst ha
        have b6 : b 6 = true := hn 6 (da rfl)
        have b5 : b 5 = true := hc 6 _ rfl b6 5 (da rfl)
        have b0 : b 0 = true := hc 5 _ rfl b5 0 (da rfl)
        have b4 : b 4 = true := hc 5 _ rfl b5 4 (da rfl)
        have b3 : b 3 = true := hc 4 _ rfl b4 3 (da rfl)
        have b1 : b 1 = true := hc 3 _ rfl b3 1 (da rfl)
        have b2 : b 2 = true := hc 3 _ rfl b3 2 (da rfl)
        have b12 : b 12 = false := later (j := 12) hc rfl (i := 8) (da rfl) hbi
        have H79505 := H79505 b5
        have H79508 := H79508 b5
        have hm80325 : Mem w0 w (cat [sg g48421 28 (0, 0) [] [v72368, v72371] [], z72381, hF, hz79000, n79502, (bif b 11 then sg g79903 28 (0, 0) [] [v79504, v79507] [] else (bif b 9 then sg g79903 28 (0, 0) [] [(.slice none 0 0), (.slice none 0 0)] [] else [])), (bif b 10 then sg g80001 35 (0, 0) [] [(.int .i64 0), (.int .i64 0)] [] else [])]) := Mem.pick [0, 1, 2, 3, 4, 5, 6] rfl (Mem.cg (B := [sg g48421 28 (0, 0) [] [v72368, v72371] [], z72381, hF, hz79000, n79502, (bif b 11 then sg g79903 28 (0, 0) [] [v79504, v79507] [] else (bif b 9 then sg g79903 28 (0, 0) [] [(.slice none 0 0), (.slice none 0 0)] [] else [])), (bif b 10 then sg g80001 35 (0, 0) [] [(.int .i64 0), (.int .i64 0)] [] else [])]) (cat_cons rfl (cat_cons rfl (cat_cons rfl (cat_cons rfl (cat_cons (on_ b5 rfl) (cat_cons rfl (cat_cons (off_ b12 rfl) rfl))))))) hm)
        refine e_val (i := 8) hbi rfl rfl (v := (.agg #[(.int .i64 r79501.2.Code), (.int .i64 r79501.2.Buffer)])) (won rfl) rfl rfl (x_extract rfl (ev (t := 40) (v := (.tuple #[(.agg #[v79504, v79507]), (.agg #[(.int .i64 r79501.2.Code), (.int .i64 r79501.2.Buffer)])])) rfl ((sel_on (p := (6, 40)) rfl b6).trans (y6 b6))) rfl) ?_
        exact hK _ _ ⟨_, v79504, v79507, n79502, g79903, g80001, rfl, y0, y1, y2, y3, y4, y5, y6, y7, fun _ => rfl, y9, y10, fun _ => H79505, fun _ => H79508, Mem.gc (A := [sg g48421 28 (0, 0) [] [v72368, v72371] [], z72381, hF, hz79000, n79502, (bif b 11 then sg g79903 28 (0, 0) [] [v79504, v79507] [] else (bif b 9 then sg g79903 28 (0, 0) [] [(.slice none 0 0), (.slice none 0 0)] [] else [])), (bif b 10 then sg g80001 35 (0, 0) [] [(.int .i64 0), (.int .i64 0)] [] else [])]) (cat_cons rfl (cat_cons rfl (cat_cons rfl (cat_cons rfl (cat_cons (on_ b5 rfl) (cat_cons rfl (cat_cons (off_ b12 rfl) rfl))))))) (Mem.pick [0, 1, 2, 3, 4, 5, 6] rfl hm80325)⟩
       ·
        intro b a w hI hbi hn hc K hK
        obtain ⟨vs, v79504, v79507, n79502, g79903, g80001, ha, y0, y1, y2, y3, y4, y5, y6, y7, y8, y9, y10, H79505, H79508, hm⟩ := hI
        subst ha
        have b11 : b 11 = false := later (j := 11) hc rfl (i := 9) (da rfl) hbi
        have b12 : b 12 = false := later (j := 12) hc rfl (i := 9) (da rfl) hbi
        have hm80328 : Mem w0 w (cat [sg g48421 28 (0, 0) [] [v72368, v72371] [], z72381, hF, hz79000, (bif b 5 then n79502 else []), (bif b 10 then sg g80001 35 (0, 0) [] [(.int .i64 0), (.int .i64 0)] [] else [])]) := Mem.pick [0, 1, 2, 3, 4, 6] rfl (Mem.cg (B := [sg g48421 28 (0, 0) [] [v72368, v72371] [], z72381, hF, hz79000, (bif b 5 then n79502 else []), [], (bif b 10 then sg g80001 35 (0, 0) [] [(.int .i64 0), (.int .i64 0)] [] else [])]) (cat_cons rfl (cat_cons rfl (cat_cons rfl (cat_cons rfl (cat_cons rfl (cat_cons (off_ b11 (off_ hbi rfl)) (cat_cons (off_ b12 rfl) rfl))))))) hm)
        refine e_exv (i := 9) hbi rfl rfl (won rfl) rfl rfl (e_alloc (vs := [(.slice none 0 0), (.slice none 0 0)]) rfl zt_28 rfl hm80328) ?_
        rintro g79903 w79904 hm79905
        exact hK _ _ ⟨_, v79504, v79507, n79502, g79903, g80001, rfl, y0, y1, y2, y3, y4, y5, y6, y7, y8, fun _ => rfl, y10, H79505, H79508, Mem.gc (A := [sg g48421 28 (0, 0) [] [v72368, v72371] [], z72381, hF, hz79000, (bif b 5 then n79502 else []), sg g79903 28 (0, 0) [] [(.slice none 0 0), (.slice none 0 0)] [], (bif b 10 then sg g80001 35 (0, 0) [] [(.int .i64 0), (.int .i64 0)] [] else [])]) (cat_cons rfl (cat_cons rfl (cat_cons rfl (cat_cons rfl (cat_cons rfl (cat_cons (off_ b11 (on_ rfl rfl)) (cat_cons (off_ b12 rfl) rfl))))))) (Mem.pick [1, 2, 3, 4, 5, 0, 6] rfl hm79905)⟩
       ·
        intro b a w hI hbi hn hc K hK
        obtain ⟨vs, v79504, v79507, n79502, g79903, g80001, ha, y0, y1, y2, y3, y4, y5, y6, y7, y8, y9, y10, H79505, H79508, hm⟩ := hI
        subst ha
        have b11 : b 11 = false := later (j := 11) hc rfl (i := 10) (da rfl) hbi
        have b12 : b 12 = false := later (j := 12) hc rfl (i := 10) (da rfl) hbi
        have hm80331 : Mem w0 w (cat [sg g48421 28 (0, 0) [] [v72368, v72371] [], z72381, hF, hz79000, (bif b 5 then n79502 else []), (bif b 9 then sg g79903 28 (0, 0) [] [(.slice none 0 0), (.slice none 0 0)] [] else [])]) := Mem.pick [0, 1, 2, 3, 4, 5] rfl (Mem.cg (B := [sg g48421 28 (0, 0) [] [v72368, v72371] [], z72381, hF, hz79000, (bif b 5 then n79502 else []), (bif b 9 then sg g79903 28 (0, 0) [] [(.slice none 0 0), (.slice none 0 0)] [] else []), []]) (cat_cons rfl (cat_cons rfl (cat_cons rfl (cat_cons rfl (cat_cons rfl (cat_cons (off_ b11 rfl) (cat_cons (off_ b12 (off_ hbi rfl)) rfl))))))) hm)
        refine e_exv (i := 10) hbi rfl rfl (won rfl) rfl rfl (e_alloc (vs := [(.int .i64 0), (.int .i64 0)]) rfl zt_35 rfl hm80331) ?_
        rintro g80001 w80002 hm80003
        exact hK _ _ ⟨_, v79504, v79507, n79502, g79903, g80001, rfl, y0, y1, y2, y3, y4, y5, y6, y7, y8, y9, fun _ => rfl, H79505, H79508, Mem.gc (A := [sg g48421 28 (0, 0) [] [v72368, v72371] [], z72381, hF, hz79000, (bif b 5 then n79502 else []), (bif b 9 then sg g79903 28 (0, 0) [] [(.slice none 0 0), (.slice none 0 0)] [] else []), sg g80001 35 (0, 0) [] [(.int .i64 0), (.int .i64 0)] []]) (cat_cons rfl (cat_cons rfl (cat_cons rfl (cat_cons rfl (cat_cons rfl (cat_cons (off_ b11 rfl) (cat_cons (off_ b12 (on_ rfl rfl)) rfl))))))) (Mem.pick [1, 2, 3, 4, 5, 6, 0] rfl hm80003)⟩
       ·
        intro b a w hI hbi hn hc K hK
        obtain ⟨vs, v79504, v79507, n79502, g79903, g80001, ha, y0, y1, y2, y3, y4, y5, y6, y7, y8, y9, y10, H79505, H79508, hm⟩ := hI
        subst ha
        have b0 : b 0 = true := hn 0 (da rfl)
        have b1 : b 1 = true := hn 1 (da rfl)
        have b2 : b 2 = true := hn 2 (da rfl)
        have b3 : b 3 = true := hn 3 (da rfl)
        have b4 : b 4 = true := hn 4 (da rfl)
        have b5 : b 5 = true := hn 5 (da rfl)
        have b6 : b 6 = true := hn 6 (da rfl)
        have b7 : b 7 = true := hn 7 (da rfl)
        have b9 : b 9 = true := hn 9 (da rfl)
        have b10 : b 10 = true := hn 10 (da rfl)
        have b12 : b 12 = false := later (j := 12) hc rfl (i := 11) (da rfl) hbi
        have H79505 := H79505 b5
        have H79508 := H79508 b5
        have hm80334 : Mem w0 w (cat [sg g48421 28 (0, 0) [] [v72368, v72371] [], z72381, hF, hz79000, n79502, sg g79903 28 (0, 0) [] [(.slice none 0 0), (.slice none 0 0)] [], sg g80001 35 (0, 0) [] [(.int .i64 0), (.int .i64 0)] []]) := Mem.pick [0, 1, 2, 3, 4, 5, 6] rfl (Mem.cg (B := [sg g48421 28 (0, 0) [] [v72368, v72371] [], z72381, hF, hz79000, n79502, sg g79903 28 (0, 0) [] [(.slice none 0 0), (.slice none 0 0)] [], sg g80001 35 (0, 0) [] [(.int .i64 0), (.int .i64 0)] []]) (cat_cons rfl (cat_cons rfl (cat_cons rfl (cat_cons rfl (cat_cons (on_ b5 rfl) (cat_cons (off_ hbi (on_ b9 rfl)) (cat_cons (off_ b12 (on_ b10 rfl)) rfl))))))) hm)
        refine e_exs (i := 11) hbi rfl (won rfl) rfl (e_store (vs := [v79504, v79507]) (o' := 0) (j := 0) rfl sz_28 (ev (t := 11) (v := (.pointer (some ⟨g79903, 0, none⟩))) rfl ((sel_on (p := (9, 11)) rfl b9).trans (y9 b9))) (ev (t := 47) (v := (.agg #[v79504, v79507])) rfl ((sel_on (p := (7, 47)) rfl b7).trans (y7 b7))) rfl (one_cons (IsSl.one (H79505).sl) (one_cons (IsSl.one (H79508).sl) one_nil)) hm80334 (k := 5) rfl rfl rfl) ?_
        intro w80101 hm80102
        replace hm80102 : Mem w0 w80101 (cat [sg g48421 28 (0, 0) [] [v72368, v72371] [], z72381, hF, hz79000, n79502, sg g79903 28 (0, 0) [] [v79504, v79507] [], sg g80001 35 (0, 0) [] [(.int .i64 0), (.int .i64 0)] []]) := hm80102
        exact hK _ _ ⟨_, v79504, v79507, n79502, g79903, g80001, rfl, y0, y1, y2, y3, y4, y5, y6, y7, y8, y9, y10, fun _ => H79505, fun _ => H79508, Mem.gc (A := [sg g48421 28 (0, 0) [] [v72368, v72371] [], z72381, hF, hz79000, n79502, sg g79903 28 (0, 0) [] [v79504, v79507] [], sg g80001 35 (0, 0) [] [(.int .i64 0), (.int .i64 0)] []]) (cat_cons rfl (cat_cons rfl (cat_cons rfl (cat_cons rfl (cat_cons (on_ b5 rfl) (cat_cons (on_ rfl rfl) (cat_cons (off_ b12 (on_ b10 rfl)) rfl))))))) (Mem.pick [0, 1, 2, 3, 4, 5, 6] rfl hm80102)⟩
       ·
        intro b a w hI hbi hn hc K hK
        obtain ⟨vs, v79504, v79507, n79502, g79903, g80001, ha, y0, y1, y2, y3, y4, y5, y6, y7, y8, y9, y10, H79505, H79508, hm⟩ := hI
        subst ha
        have b0 : b 0 = true := hn 0 (da rfl)
        have b1 : b 1 = true := hn 1 (da rfl)
        have b2 : b 2 = true := hn 2 (da rfl)
        have b3 : b 3 = true := hn 3 (da rfl)
        have b4 : b 4 = true := hn 4 (da rfl)
        have b5 : b 5 = true := hn 5 (da rfl)
        have b6 : b 6 = true := hn 6 (da rfl)
        have b7 : b 7 = true := hn 7 (da rfl)
        have b8 : b 8 = true := hn 8 (da rfl)
        have b9 : b 9 = true := hn 9 (da rfl)
        have b10 : b 10 = true := hn 10 (da rfl)
        have b11 : b 11 = true := hn 11 (da rfl)
        have H79505 := H79505 b5
        have H79508 := H79508 b5
        have hm80337 : Mem w0 w (cat [sg g48421 28 (0, 0) [] [v72368, v72371] [], z72381, hF, hz79000, n79502, sg g79903 28 (0, 0) [] [v79504, v79507] [], sg g80001 35 (0, 0) [] [(.int .i64 0), (.int .i64 0)] []]) := Mem.pick [0, 1, 2, 3, 4, 5, 6] rfl (Mem.cg (B := [sg g48421 28 (0, 0) [] [v72368, v72371] [], z72381, hF, hz79000, n79502, sg g79903 28 (0, 0) [] [v79504, v79507] [], sg g80001 35 (0, 0) [] [(.int .i64 0), (.int .i64 0)] []]) (cat_cons rfl (cat_cons rfl (cat_cons rfl (cat_cons rfl (cat_cons (on_ b5 rfl) (cat_cons (on_ b11 rfl) (cat_cons (off_ hbi (on_ b10 rfl)) rfl))))))) hm)
        refine e_exs (i := 12) hbi rfl (won rfl) rfl (e_store (vs := [(.int .i64 r79501.2.Code), (.int .i64 r79501.2.Buffer)]) (o' := 0) (j := 0) rfl sz_35 (ev (t := 12) (v := (.pointer (some ⟨g80001, 0, none⟩))) rfl ((sel_on (p := (10, 12)) rfl b10).trans (y10 b10))) (ev (t := 48) (v := (.agg #[(.int .i64 r79501.2.Code), (.int .i64 r79501.2.Buffer)])) rfl ((sel_on (p := (8, 48)) rfl b8).trans (y8 b8))) rfl rfl hm80337 (k := 6) rfl rfl rfl) ?_
        intro w80201 hm80202
        replace hm80202 : Mem w0 w80201 (cat [sg g48421 28 (0, 0) [] [v72368, v72371] [], z72381, hF, hz79000, n79502, sg g79903 28 (0, 0) [] [v79504, v79507] [], sg g80001 35 (0, 0) [] [(.int .i64 r79501.2.Code), (.int .i64 r79501.2.Buffer)] []]) := hm80202
        exact hK _ _ ⟨_, v79504, v79507, n79502, g79903, g80001, rfl, y0, y1, y2, y3, y4, y5, y6, y7, y8, y9, y10, fun _ => H79505, fun _ => H79508, Mem.gc (A := [sg g48421 28 (0, 0) [] [v72368, v72371] [], z72381, hF, hz79000, n79502, sg g79903 28 (0, 0) [] [v79504, v79507] [], sg g80001 35 (0, 0) [] [(.int .i64 r79501.2.Code), (.int .i64 r79501.2.Buffer)] []]) (cat_cons rfl (cat_cons rfl (cat_cons rfl (cat_cons rfl (cat_cons (on_ b5 rfl) (cat_cons (on_ b11 rfl) (cat_cons (on_ rfl rfl) rfl))))))) (Mem.pick [0, 1, 2, 3, 4, 5, 6] rfl hm80202)⟩
       intro b a w hall hI
       obtain ⟨vs, v79504, v79507, n79502, g79903, g80001, ha, y0, y1, y2, y3, y4, y5, y6, y7, y8, y9, y10, H79505, H79508, hm⟩ := hI
       have b0 : b 0 = true := hall 0 rfl
       have b1 : b 1 = true := hall 1 rfl
       have b2 : b 2 = true := hall 2 rfl
       have b3 : b 3 = true := hall 3 rfl
       have b4 : b 4 = true := hall 4 rfl
       have b5 : b 5 = true := hall 5 rfl
       have b6 : b 6 = true := hall 6 rfl
       have b7 : b 7 = true := hall 7 rfl
       have b8 : b 8 = true := hall 8 rfl
       have b9 : b 9 = true := hall 9 rfl
       have b10 : b 10 = true := hall 10 rfl
       have b11 : b 11 = true := hall 11 rfl
       have b12 : b 12 = true := hall 12 rfl
       replace H79505 := H79505 b5
       replace H79508 := H79508 b5
       have hm80340 : Mem w0 w (cat [sg g48421 28 (0, 0) [] [v72368, v72371] [], z72381, hF, n79502, sg g79903 28 (0, 0) [] [v79504, v79507] [], sg g80001 35 (0, 0) [] [(.int .i64 r79501.2.Code), (.int .i64 r79501.2.Buffer)] [], hz79000]) := Mem.pick [0, 1, 2, 4, 5, 6, 3] rfl (Mem.cg (B := [sg g48421 28 (0, 0) [] [v72368, v72371] [], z72381, hF, hz79000, n79502, sg g79903 28 (0, 0) [] [v79504, v79507] [], sg g80001 35 (0, 0) [] [(.int .i64 r79501.2.Code), (.int .i64 r79501.2.Buffer)] []]) (cat_cons rfl (cat_cons rfl (cat_cons rfl (cat_cons rfl (cat_cons (on_ b5 rfl) (cat_cons (on_ b11 rfl) (cat_cons (on_ b12 rfl) rfl))))))) hm)
       obtain ⟨f79000, ha', z79000x1, z79000x4, z79000x7, z79000x9, z79000x10, z79000x11, z79000x12⟩ : ∃ f' : Nat → Value, a = fr 57 f' ∧ f' 1 = v1x0 ∧ f' 4 = (.pointer (some ⟨g48383, 0, none⟩)) ∧ f' 7 = (.pointer (some ⟨g48421, 0, none⟩)) ∧ f' 9 = v72375 ∧ f' 10 = (.int .i64 s72379) ∧ f' 11 = (.pointer (some ⟨g79903, 0, none⟩)) ∧ f' 12 = (.pointer (some ⟨g80001, 0, none⟩)) := ⟨_, ha, (sel_no rfl).trans q72365, (sel_no rfl).trans q72366, (sel_no rfl).trans q72373, (sel_no rfl).trans q72378, (sel_no rfl).trans q72380, (sel_on (p := (9, 11)) rfl b9).trans (y9 b9), (sel_on (p := (10, 12)) rfl b10).trans (y10 b10)⟩
       subst ha'
       subst hze79000
       replace hm80340 : Mem w0 w (cat [sg g48421 28 (0, 0) [] [v72368, v72371] [], z72381, hF, n79502, sg g79903 28 (0, 0) [] [v79504, v79507] [], sg g80001 35 (0, 0) [] [(.int .i64 r79501.2.Code), (.int .i64 r79501.2.Buffer)] [], sg g48383 28 (0, 0) [] [(.slice none 0 0), (.slice none 0 0)] [], h72376]) := Mem.ung [sg g48421 28 (0, 0) [] [v72368, v72371] [], z72381, hF, n79502, sg g79903 28 (0, 0) [] [v79504, v79507] [], sg g80001 35 (0, 0) [] [(.int .i64 r79501.2.Code), (.int .i64 r79501.2.Buffer)] []] [sg g48383 28 (0, 0) [] [(.slice none 0 0), (.slice none 0 0)] [], h72376] hm80340
       refine nx ?_
       refine wp_seq ?_
       refine wp_region_lit ?_
       refine s_val (v := (.agg #[v79504, v79507])) (won rfl) rfl rfl (x_loadN (vs := [v79504, v79507]) rfl tyN_28 (ev (t := 11) (v := (.pointer (some ⟨g79903, 0, none⟩))) rfl z79000x11) (seg_cells (o' := 0) (j := 0) hm80340 (k := 4) rfl rfl rfl)) ?_
       refine s_exs (won rfl) rfl (e_store (vs := [v79504, v79507]) (o' := 0) (j := 0) rfl sz_28 (ev (t := 7) (v := (.pointer (some ⟨g48421, 0, none⟩))) rfl z79000x7) (ev (t := 49) rfl rfl) rfl (one_cons (IsSl.one (H79505).sl) (one_cons (IsSl.one (H79508).sl) one_nil)) hm80340 (k := 0) rfl rfl rfl) ?_
       intro w80350 hm80351
       replace hm80351 : Mem w0 w80350 (cat [sg g48421 28 (0, 0) [] [v79504, v79507] [], z72381, hF, n79502, sg g79903 28 (0, 0) [] [v79504, v79507] [], sg g80001 35 (0, 0) [] [(.int .i64 r79501.2.Code), (.int .i64 r79501.2.Buffer)] [], sg g48383 28 (0, 0) [] [(.slice none 0 0), (.slice none 0 0)] [], h72376]) := hm80351
       refine wpList_nil ?_
       have hm80352 : Mem w0 w80350 (cat [sg g48421 28 (0, 0) [] [v79504, v79507] [], z72381, hF, n79502, sg g80001 35 (0, 0) [] [(.int .i64 r79501.2.Code), (.int .i64 r79501.2.Buffer)] [], sg g48383 28 (0, 0) [] [(.slice none 0 0), (.slice none 0 0)] [], h72376]) := Mem.pick [0, 1, 2, 3, 5, 6, 7] rfl hm80351
       refine nx ?_
       obtain ⟨hg80358, he⟩ := gdE he
       refine wp_region_lit ?_
       refine s_val (v := v72375) (won rfl) rfl rfl (x_move rfl (ev (t := 9) (v := v72375) rfl z79000x9)) ?_
       refine s_val (v := (.agg #[(.int .i64 r79501.2.Code), (.int .i64 r79501.2.Buffer)])) (won rfl) rfl rfl (x_loadN (vs := [(.int .i64 r79501.2.Code), (.int .i64 r79501.2.Buffer)]) rfl tyN_35 (ev (t := 12) (v := (.pointer (some ⟨g80001, 0, none⟩))) rfl z79000x12) (seg_cells (o' := 0) (j := 0) hm80352 (k := 4) rfl rfl rfl)) ?_
       refine s_exv (won rfl) rfl rfl (e_litp (cells := [(.int .i64 r79501.2.Code), (.int .i64 r79501.2.Buffer)]) (ps := [(0, (.agg #[(.int .i64 r79501.2.Code), (.int .i64 r79501.2.Buffer)]))]) rfl slt_31 (pmap_lit (pmap_cons (ev (t := 51) rfl rfl) pmap_nil)) (fun w1 => run_bslicez (cells := [(.int .i64 r79501.2.Code), (.int .i64 r79501.2.Buffer)]) (zs := [.int .i64 0, .int .i64 0]) (zc := [.int .i64 0, .int .i64 0]) slt_31 rfl rfl (by kernel_rfl) (fill_cons (cs := [(.int .i64 r79501.2.Code), (.int .i64 r79501.2.Buffer)]) rfl rfl rfl fill_nil) (by decide)) hm80352) ?_
       rintro g80355 w80353 hm80354
       have H80356 : OwF 35 impl_PoolReply.K (.slice (some ⟨g80355, 0, none⟩) 1 1) ([r79501.2] : List impl_PoolReply) (sg g80355 35 (0, 0) [] (encs impl_PoolReply.K ([r79501.2] : List impl_PoolReply)) []) := OwF.lit g80355 ([r79501.2] : List impl_PoolReply) 1 rfl (by decide)
       replace hm80354 : Mem w0 w80353 (cat [(sg g80355 35 (0, 0) [] (encs impl_PoolReply.K ([r79501.2] : List impl_PoolReply)) []), sg g48421 28 (0, 0) [] [v79504, v79507] [], z72381, hF, n79502, sg g80001 35 (0, 0) [] [(.int .i64 r79501.2.Code), (.int .i64 r79501.2.Buffer)] [], sg g48383 28 (0, 0) [] [(.slice none 0 0), (.slice none 0 0)] [], h72376]) := hm80354
       refine s_exv (won rfl) rfl rfl (e_append (bytes := 16) rfl slt_31 rfl (ev (t := 50) rfl rfl) (ev (t := 52) rfl rfl) H72377 (k := 7) rfl (H80356.rd w0) (Sub.at_ (k := 0) rfl) hm80354 hg80358 (len63 hg80358 rfl)) ?_
       rintro p80360 w80362 ⟨H80361, hm80363⟩
       replace hm80363 : Mem w0 w80362 (cat [(sg g80355 35 (0, 0) [] (encs impl_PoolReply.K ([r79501.2] : List impl_PoolReply)) []), sg g48421 28 (0, 0) [] [v79504, v79507] [], z72381, hF, n79502, sg g80001 35 (0, 0) [] [(.int .i64 r79501.2.Code), (.int .i64 r79501.2.Buffer)] [], sg g48383 28 (0, 0) [] [(.slice none 0 0), (.slice none 0 0)] [], p80360.2]) := hm80363
       refine s_val (v := p80360.1) (won rfl) rfl rfl (x_assign rfl (ev (t := 53) rfl rfl)) ?_
       refine wpList_nil ?_
       have hm80364 : Mem w0 w80362 (cat [sg g48421 28 (0, 0) [] [v79504, v79507] [], z72381, hF, n79502, sg g48383 28 (0, 0) [] [(.slice none 0 0), (.slice none 0 0)] [], p80360.2]) := Mem.pick [1, 2, 3, 4, 6, 7] rfl hm80363
       refine nb ?_
       refine nx ?_
       refine wp_region_lit ?_
       refine s_val (v := (.int .i64 s72379)) (won rfl) rfl rfl (x_move rfl (ev (t := 10) (v := (.int .i64 s72379)) rfl z79000x10)) ?_
       refine s_val (v := (.int .i64 (IntKind.wrap .i64 (s72379 + 1)))) (won rfl) rfl rfl (x_add rfl (ev (t := 38) rfl rfl) rfl) ?_
       refine s_val (v := (.int .i64 (IntKind.wrap .i64 (s72379 + 1)))) (won rfl) rfl rfl (x_assign rfl (ev (t := 39) rfl rfl)) ?_
       refine wpList_nil ?_
       refine nx ?_
       exact ⟨r79501.1.Free, r79501.1.Owner, (s72374 ++ ([r79501.2] : List impl_PoolReply)), (IntKind.wrap .i64 (s72379 + 1)), v79504, v79507, p80360.1, p80360.2, (cat [z72381, n79502]), _, he, rfl, z79000x1, z79000x4, z79000x7, rfl, rfl, (H79505.mono (subc (subc (Sub.at_ (k := 0) rfl) (subc (Sub.trans (Sub.at_ (L := [z72381, n79502]) (k := 0) rfl) (Sub.at_ (k := 1) rfl)) subn)) (subc (Sub.trans (Sub.at_ (L := [z72381, n79502]) (k := 1) rfl) (Sub.at_ (k := 1) rfl)) subn))), (H79508.mono (subc (subc (Sub.at_ (k := 0) rfl) (subc (Sub.trans (Sub.at_ (L := [z72381, n79502]) (k := 0) rfl) (Sub.at_ (k := 1) rfl)) subn)) (subc (Sub.trans (Sub.at_ (L := [z72381, n79502]) (k := 1) rfl) (Sub.at_ (k := 1) rfl)) subn))), H80361, Mem.zgrp [sg g48383 28 (0, 0) [] [(.slice none 0 0), (.slice none 0 0)] [], sg g48421 28 (0, 0) [] [v79504, v79507] [], p80360.2] [z72381, n79502] _ (Mem.pick [4, 0, 5, 1, 3, 2] rfl hm80364)⟩
      ·
       replace he := bifF he hb76370
       refine c_false rfl (p := (decide (s72379 < (a1.length : Int)))) rfl rfl hb76370 ?_
       refine wp_exit ?_
       refine xs ?_
       refine xs ?_
       refine xb ?_
       refine nx ?_
       obtain rfl := Option.some.inj he
       exact ⟨v72368, v72371, v72375, h72376, (cat [z72381]), _, rfl, q72366, q72373, q72378, (H72369.mono (subc (Sub.at_ (k := 0) rfl) (subc (Sub.trans (Sub.at_ (L := [z72381]) (k := 0) rfl) (Sub.at_ (k := 1) rfl)) subn))), (H72372.mono (subc (Sub.at_ (k := 0) rfl) (subc (Sub.trans (Sub.at_ (L := [z72381]) (k := 0) rfl) (Sub.at_ (k := 1) rfl)) subn))), H72377, Mem.zgrp [sg g48383 28 (0, 0) [] [(.slice none 0 0), (.slice none 0 0)] [], sg g48421 28 (0, 0) [] [v72368, v72371] [], h72376] [z72381] _ (Mem.pick [0, 1, 2, 3, 4] rfl hm76368)⟩
    ·
     rintro a w ⟨v64368, v64372, v64376, h64377, z64380, f, rfl, q64365, q64374, q64379, H64369, H64373, H64378, hm80366⟩
     replace he := hk64382
     refine wp_seq ?_
     obtain ⟨r80367, hr80367, he⟩ := bindE he
     refine wp_region_lit ?_
     refine s_val (v := (.agg #[v64368, v64372])) (won rfl) rfl rfl (x_loadN (vs := [v64368, v64372]) rfl tyN_28 (ev (t := 7) (v := (.pointer (some ⟨g48421, 0, none⟩))) rfl q64374) (seg_cells (o' := 0) (j := 0) hm80366 (k := 1) rfl rfl rfl)) ?_
     refine s_call (won rfl) rfl rfl (x_call rfl rfl cl_62 (map_lit (map_cons (ev (t := 54) rfl rfl) map_nil))) (spec_l12Own_ok (hR := (cat [hR, z64380])) (hF := cat [sg g48383 28 (0, 0) [] [(.slice none 0 0), (.slice none 0 0)] [], sg g48421 28 (0, 0) [] [v64368, v64372] [], h64377, z64380, hF]) (impl_Pool.mk s64381.1 s64381.2.1) (H64369.mono (subc (Sub.at_ (k := 0) rfl) (subc (Sub.at_ (k := 1) rfl) subn))) (H64373.mono (subc (Sub.at_ (k := 0) rfl) (subc (Sub.at_ (k := 1) rfl) subn))) (subc (Sub.trans hs (Sub.at_ (k := 4) rfl)) (subc (Sub.at_ (k := 3) rfl) subn)) (Mem.one hm80366) hr80367) ?_
     rintro e w80376 ⟨v80369, h80371, v80373, h80375, rfl, H80370, H80374, hm80377⟩
     refine ⟨_, rfl, ?_⟩
     replace hm80377 : Mem w0 w80376 (cat [h80371, h80375, sg g48383 28 (0, 0) [] [(.slice none 0 0), (.slice none 0 0)] [], sg g48421 28 (0, 0) [] [v64368, v64372] [], h64377, z64380, hF]) := Mem.ung [h80371, h80375] [sg g48383 28 (0, 0) [] [(.slice none 0 0), (.slice none 0 0)] [], sg g48421 28 (0, 0) [] [v64368, v64372] [], h64377, z64380, hF] hm80377
     refine s_val (v := v64376) (won rfl) rfl rfl (x_move rfl (ev (t := 9) (v := v64376) rfl q64379)) ?_
     refine s_exs (won rfl) rfl (e_store (vs := [v80369, v80373]) (o' := 0) (j := 0) rfl sz_28 (ev (t := 4) (v := (.pointer (some ⟨g48383, 0, none⟩))) rfl q64365) (ev (t := 55) rfl rfl) rfl (one_cons (IsSl.one (H80370).sl) (one_cons (IsSl.one (H80374).sl) one_nil)) hm80377 (k := 2) rfl rfl rfl) ?_
     intro w80378 hm80379
     replace hm80379 : Mem w0 w80378 (cat [h80371, h80375, sg g48383 28 (0, 0) [] [v80369, v80373] [], sg g48421 28 (0, 0) [] [v64368, v64372] [], h64377, z64380, hF]) := hm80379
     refine s_val (v := v64376) (won rfl) rfl rfl (x_assign rfl (ev (t := 56) rfl rfl)) ?_
     refine s_val (v := (.int .i64 0)) (won rfl) rfl rfl (x_assign rfl rfl) ?_
     refine wpList_nil ?_
     have hm80380 : Mem w0 w80378 (cat [h80371, h80375, sg g48383 28 (0, 0) [] [v80369, v80373] [], h64377, hF]) := Mem.pick [0, 1, 2, 4, 6] rfl hm80379
     refine nx ?_
     refine wp_ret ?_
     obtain rfl := Option.some.inj he
     refine r_ret (v := (.tuple #[(.agg #[v80369, v80373]), v64376, (.int .i64 0)])) (rv_list rfl rfl (RVs.cell (cs := [v80369, v80373]) rfl q64365 tyN_28 (seg_cells (o' := 0) (j := 0) hm80380 (k := 2) rfl rfl rfl) (RVs.tmp (v := v64376) rfl rfl (RVs.tmp (v := (.int .i64 0)) rfl rfl RVs.nil)))) rfl ?_
     exact ⟨v80369, h80371, v80373, h80375, v64376, h64377, rfl, H80370, H80374, H64378, Mem.pick [0, 1, 3, 4] rfl hm80380⟩
end Go.Proofs.Ytpkdolmbhfmjcaa.FnPool
