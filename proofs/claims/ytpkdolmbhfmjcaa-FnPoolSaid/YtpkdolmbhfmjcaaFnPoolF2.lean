/- What functions of the program compute, and their walks: printed. -/
import Derived.Test.YtpkdolmbhfmjcaaFnPoolT
import Derived.Test.YtpkdolmbhfmjcaaFnPoolF0
import Derived.Test.YtpkdolmbhfmjcaaFnPoolF1
set_option linter.unusedVariables false
set_option linter.unusedSimpArgs false
set_option linter.unusedSectionVars false
namespace Go.Proofs.Ytpkdolmbhfmjcaa.FnPool
open Go.RowKit Go.Proofs.Gw
attribute [local irreducible] wpList DG wpQuiet wl
def impl_PoolOK_l1 (F : Nat) (a0 : impl_Pool) : Nat → (List Bool) → Int → Option (Fl (Bool) ((List Bool)))
  | 0, _, _ => none
  | k + 1, s861, s867 => (bif (decide (s867 < (a0.Free.length : Int))) then gd ((0 : Int) ≤ s867 ∧ s867 < (a0.Free.length : Int)) ((impl_inRange (ix a0.Free s867) 0 (IntKind.wrap .i64 ((a0.Owner.length : Int) - 1))).bind fun r948 => gd ((!(!r948)) = true → (0 : Int) ≤ (ix a0.Free s867) ∧ (ix a0.Free s867) < (s861.length : Int)) (gd (s861.length = 32) ((bif ((!r948) || (ix s861 (ix a0.Free s867))) then (some (Fl.out false)) else gd ((0 : Int) ≤ (ix a0.Free s867) ∧ (ix a0.Free s867) < (s861.length : Int)) (gd (s861.length = 32) (impl_PoolOK_l1 F a0 k (List.set s861 (Int.toNat (ix a0.Free s867)) true) (IntKind.wrap .i64 (s867 + 1)))))))) else (some (Fl.go s861)))
def impl_PoolOK_l2 (F : Nat) (a0 : impl_Pool) (s767 : ((List Bool))) : Nat → Int → Option (Fl (Bool) (Unit))
  | 0, _ => none
  | k + 1, s1061 => (bif (decide (s1061 < (a0.Owner.length : Int))) then gd ((0 : Int) ≤ s1061 ∧ s1061 < (a0.Owner.length : Int)) (gd ((0 : Int) ≤ s1061 ∧ s1061 < (s767.length : Int)) (gd (s767.length = 32) ((bif ((!(!((ix s767 s1061) == (decide ((ix a0.Owner s1061) = (-1)))))) && (!decide ((ix a0.Owner s1061) = (-1)))) then impl_isOwner (ix a0.Owner s1061) else some false).bind fun r1098 => (bif ((!((ix s767 s1061) == (decide ((ix a0.Owner s1061) = (-1))))) || ((!decide ((ix a0.Owner s1061) = (-1))) && (!r1098))) then (some (Fl.out false)) else impl_PoolOK_l2 F a0 s767 k (IntKind.wrap .i64 (s1061 + 1)))))) else (some (Fl.go ())))
def impl_PoolOK (F : Nat) (a0 : impl_Pool) : Option (Bool) := (impl_inRange (a0.Owner.length : Int) 1 32).bind fun r562 => (bif ((!r562) || (decide ((a0.Owner.length : Int) < (a0.Free.length : Int)))) then (some false) else (impl_PoolOK_l1 F a0 F (List.replicate 32 false) 0 : Option (Fl (Bool) ((List Bool)))).bind fun l768 => l768.on fun (s767 : ((List Bool))) => (impl_PoolOK_l2 F a0 s767 F 0 : Option (Fl (Bool) (Unit))).bind fun l1032 => l1032.on fun (s1031 : (Unit)) => (some true))
set_option maxHeartbeats 400000 in
set_option maxRecDepth 100000 in
theorem impl_PoolOK_ok (F : Nat) {w0 w : World} {hR hF : Hp} {v0x0 : Value} {v0x1 : Value} (a0 : impl_Pool) {r : (Bool)} (H0x0 : RdF w0 (FK.int .i64) v0x0 a0.Free hR) (H0x1 : RdF w0 (FK.int .i64) v0x1 a0.Owner hR) (hs : Sub hR hF) (hm : Mem w0 w (cat [hF])) (he : impl_PoolOK F a0 = some r) :
    Calls Try.prog 17 #[(.agg #[v0x0, v0x1])] w (fun e w' => e = .returned (.bool r) ∧ Mem w0 w' (cat [hF])) := by
 refine calls_fr (n := 68) Try.func17 rfl rfl rfl ?_
 unfold impl_PoolOK at he
 refine wp_seq ?_
 refine wp_region_lit ?_
 refine s_exv (won rfl) rfl rfl (e_box (vs := [v0x0, v0x1]) rfl (ev (t := 0) rfl rfl) rfl hm) ?_
 rintro g553 w554 hm555
 refine s_val (v := (.bool false)) (won rfl) rfl rfl (x_assign rfl rfl) ?_
 refine wpList_nil ?_
 refine nx ?_
 refine wp_seq ?_
 refine wp_seq ?_
 obtain ⟨r562, hr562, he⟩ := bindE he
 refine wp_region_lit ?_
 refine s_val (v := (.pointer (some ⟨g553, 1, none⟩))) (won rfl) rfl rfl (x_field rfl fa_28x1 (ev (t := 1) rfl rfl)) ?_
 refine s_val (v := v0x1) (won rfl) rfl rfl (x_load rfl ty1x26 (ev (t := 8) rfl rfl) (seg_cell (o' := 0) (j := 1) hm555 (k := 0) rfl rfl rfl)) ?_
 refine s_val (v := (.int .i64 (a0.Owner.length : Int))) (won rfl) rfl rfl (x_len rfl slt_26 (ev (t := 9) rfl rfl) (H0x1).sl) ?_
 refine s_call (won rfl) rfl rfl (x_call rfl rfl cl_58 (map_lit (map_cons (ev (t := 10) rfl rfl) (map_cons rfl (map_cons rfl map_nil))))) (impl_inRange_ok (hR := (cat [])) (hF := cat [sg g553 28 (0, 0) [] [v0x0, v0x1] [], hF]) (a0.Owner.length : Int) 1 32  (Mem.one hm555) hr562) ?_
 rintro e w563 ⟨rfl, hm564⟩
 refine ⟨_, rfl, ?_⟩
 replace hm564 : Mem w0 w563 (cat [sg g553 28 (0, 0) [] [v0x0, v0x1] [], hF]) := Mem.un hm564
 refine s_val (v := (.bool (!r562))) (won rfl) rfl rfl (x_not rfl (ev (t := 11) rfl rfl)) ?_
 refine s_val (v := (.bool (!r562))) (won rfl) rfl rfl (x_move rfl (ev (t := 12) rfl rfl)) ?_
 refine s_cval (p := (!(!r562))) (v := (.pointer (some ⟨g553, 0, none⟩))) (won_f (j := 5) (t := 13) (q := (!r562)) rfl rfl rfl rfl rfl) rfl rfl (fun hp => (x_field rfl fa_28x0 (ev (t := 1) rfl rfl))) ?_
 refine s_cval (p := (!(!r562))) (v := v0x0) (won_f (j := 5) (t := 13) (q := (!r562)) rfl rfl rfl rfl rfl) rfl rfl (fun hp => (x_load rfl ty1x26 (ev (t := 14) rfl (Eq.trans (b := cv (!(!r562)) (.pointer (some ⟨g553, 0, none⟩))) rfl (on_c hp))) (seg_cell (o' := 0) (j := 0) hm564 (k := 0) rfl rfl rfl))) ?_
 refine s_cval (p := (!(!r562))) (v := (.int .i64 (a0.Free.length : Int))) (won_f (j := 5) (t := 13) (q := (!r562)) rfl rfl rfl rfl rfl) rfl rfl (fun hp => (x_len rfl slt_26 (ev (t := 15) rfl (Eq.trans (b := cv (!(!r562)) v0x0) rfl (on_c hp))) (H0x0).sl)) ?_
 refine s_cval (p := (!(!r562))) (v := (.pointer (some ⟨g553, 1, none⟩))) (won_f (j := 5) (t := 13) (q := (!r562)) rfl rfl rfl rfl rfl) rfl rfl (fun hp => (x_field rfl fa_28x1 (ev (t := 1) rfl rfl))) ?_
 refine s_cval (p := (!(!r562))) (v := v0x1) (won_f (j := 5) (t := 13) (q := (!r562)) rfl rfl rfl rfl rfl) rfl rfl (fun hp => (x_load rfl ty1x26 (ev (t := 17) rfl (Eq.trans (b := cv (!(!r562)) (.pointer (some ⟨g553, 1, none⟩))) rfl (on_c hp))) (seg_cell (o' := 0) (j := 1) hm564 (k := 0) rfl rfl rfl))) ?_
 refine s_cval (p := (!(!r562))) (v := (.int .i64 (a0.Owner.length : Int))) (won_f (j := 5) (t := 13) (q := (!r562)) rfl rfl rfl rfl rfl) rfl rfl (fun hp => (x_len rfl slt_26 (ev (t := 18) rfl (Eq.trans (b := cv (!(!r562)) v0x1) rfl (on_c hp))) (H0x1).sl)) ?_
 refine s_cval (p := (!(!r562))) (v := (.bool (decide ((a0.Owner.length : Int) < (a0.Free.length : Int))))) (won_f (j := 5) (t := 13) (q := (!r562)) rfl rfl rfl rfl rfl) rfl rfl (fun hp => (x_gtr rfl (ev (t := 16) rfl (Eq.trans (b := cv (!(!r562)) (.int .i64 (a0.Free.length : Int))) rfl (on_c hp))) (ev (t := 19) rfl (Eq.trans (b := cv (!(!r562)) (.int .i64 (a0.Owner.length : Int))) rfl (on_c hp))))) ?_
 refine s_val (v := (.bool ((!r562) || (decide ((a0.Owner.length : Int) < (a0.Free.length : Int)))))) (won rfl) rfl rfl (x_pick_or rfl (ev (t := 13) rfl rfl) rfl (fun hq => ev rfl (Eq.trans (b := cv (!(!r562)) (.bool (decide ((a0.Owner.length : Int) < (a0.Free.length : Int))))) rfl (on_c (not_i hq))))) ?_
 refine wpList_nil ?_
 refine nx ?_
 rcases Bool.eq_false_or_eq_true (((!r562) || (decide ((a0.Owner.length : Int) < (a0.Free.length : Int))))) with hb565 | hb565
 ·
  replace he := bifT he hb565
  refine c_true rfl (p := ((!r562) || (decide ((a0.Owner.length : Int) < (a0.Free.length : Int))))) rfl rfl hb565 ?_
  refine wp_seq ?_
  refine wp_region_lit ?_
  refine s_val (v := (.bool false)) (won rfl) rfl rfl (x_assign rfl rfl) ?_
  refine wpList_nil ?_
  have hm566 : Mem w0 w563 (cat [hF]) := Mem.pick [1] rfl hm564
  refine nx ?_
  refine wp_ret ?_
  refine xr ?_
  obtain rfl := Option.some.inj he
  refine r_ret (v := (.bool false)) (rv_one rfl (RVs.tmp (v := (.bool false)) rfl rfl RVs.nil)) rfl ?_
  exact ⟨rfl, Mem.pick [0] rfl hm566⟩
 ·
  replace he := bifF he hb565
  refine c_false rfl (p := ((!r562) || (decide ((a0.Owner.length : Int) < (a0.Free.length : Int))))) rfl rfl hb565 ?_
  refine wp_skip ?_
  refine nx ?_
  refine wp_seq ?_
  refine wp_region_lit ?_
  refine s_exv (won rfl) rfl rfl (e_arr (d := FK.bool) (a := false) (n := 32) rfl zt_105 (by kernel_rfl) (by decide) hm564) ?_
  rintro p568 w570 ⟨H569, hm571⟩
  replace hm571 : Mem w0 w570 (cat [p568.2, sg g553 28 (0, 0) [] [v0x0, v0x1] [], hF]) := hm571
  refine wpList_nil ?_
  refine nx ?_
  obtain ⟨l768, hT770, hk769⟩ := bindE he
  replace he := hT770
  refine wp_seqJ (fun a w => ∃ (s767 : ((List Bool))) (h764 : Hp) (f : Nat → Value), l768 = Fl.go s767 ∧ a = fr 68 f ∧ f 1 = (.pointer (some ⟨g553, 0, none⟩)) ∧ f 3 = (.pointer (some (slA p568.1))) ∧ OwF 105 FK.bool p568.1 s767 h764 ∧ Mem w0 w (cat [sg g553 28 (0, 0) [] [v0x0, v0x1] [], h764, hF])) ?_ ?_
  ·
   refine wp_seq ?_
   refine wp_region_lit ?_
   refine s_val (v := (.pointer (some ⟨g553, 0, none⟩))) (won rfl) rfl rfl (x_field rfl fa_28x0 (ev (t := 1) rfl rfl)) ?_
   refine s_val (v := v0x0) (won rfl) rfl rfl (x_load rfl ty1x26 (ev (t := 22) rfl rfl) (seg_cell (o' := 0) (j := 0) hm571 (k := 1) rfl rfl rfl)) ?_
   refine s_val (v := (.int .i64 (a0.Free.length : Int))) (won rfl) rfl rfl (x_len rfl slt_26 (ev (t := 23) rfl rfl) (H0x0).sl) ?_
   refine s_val (v := (.int .i64 0)) (won rfl) rfl rfl (x_move rfl rfl) ?_
   refine wpList_nil ?_
   refine nx ?_
   refine wp_block ?_
   refine wp_fuel (I := fun k => fun a w => ∃ (s861 : (List Bool)) (s867 : Int) (h862 : Hp) (f : Nat → Value), impl_PoolOK_l1 F a0 k s861 s867 = some l768 ∧ a = fr 68 f ∧ f 1 = (.pointer (some ⟨g553, 0, none⟩)) ∧ f 3 = (.pointer (some (slA p568.1))) ∧ f 23 = v0x0 ∧ f 24 = (.int .i64 (a0.Free.length : Int)) ∧ f 25 = (.int .i64 s867) ∧ OwF 105 FK.bool p568.1 s861 h862 ∧ Mem w0 w (cat [sg g553 28 (0, 0) [] [v0x0, v0x1] [], h862, hF])) F _ _ ⟨(List.replicate 32 false), 0, p568.2, _, he, rfl, rfl, rfl, rfl, rfl, rfl, H569, Mem.pick [1, 0, 2] rfl hm571⟩ ?_ ?_
   ·
    rintro a w ⟨s861, s867, h862, f, he, rfl, q860, q864, q865, q866, q868, H863, hm914⟩
    rw [impl_PoolOK_l1] at he; exact none_no he
   ·
    rintro k a w ⟨s861, s867, h862, f, he, rfl, q860, q864, q865, q866, q868, H863, hm916⟩
    rw [impl_PoolOK_l1] at he
    refine wp_seq ?_
    refine wp_region_lit ?_
    refine s_val (v := (.bool (decide (s867 < (a0.Free.length : Int))))) (won rfl) rfl rfl (x_lss rfl (ev (t := 25) (v := (.int .i64 s867)) rfl q868) (ev (t := 24) (v := (.int .i64 (a0.Free.length : Int))) rfl q866)) ?_
    refine wpList_nil ?_
    refine nx ?_
    refine wp_seq ?_
    rcases Bool.eq_false_or_eq_true ((decide (s867 < (a0.Free.length : Int)))) with hb918 | hb918
    ·
     replace he := bifT he hb918
     refine c_true rfl (p := (decide (s867 < (a0.Free.length : Int)))) rfl rfl hb918 ?_
     refine wp_skip ?_
     refine nx ?_
     refine wp_seq ?_
     refine wp_block ?_
     refine wp_seq ?_
     obtain ⟨hg940, he⟩ := gdE he
     refine wp_region_lit ?_
     refine s_val (v := (.pointer (some ((slA v0x0).add (Int.toNat s867 * 1))))) (won rfl) rfl rfl (x_index (d := (FK.int .i64)) rfl slt_26 (ev (t := 23) (v := v0x0) rfl q865) (ev (t := 25) (v := (.int .i64 s867)) rfl q868) H0x0 hg940.1 hg940.2) ?_
     refine s_val (v := (.int .i64 (ix a0.Free s867))) (won rfl) rfl rfl (x_load rfl ty1x3 (ev (t := 27) rfl rfl) (RdF.cell0 H0x0 hm916 (Sub.trans hs (Sub.at_ (k := 2) rfl)) hg940.1 hg940.2 rfl)) ?_
     refine s_val (v := (.int .i64 (ix a0.Free s867))) (won rfl) rfl rfl (x_assign rfl (ev (t := 28) rfl rfl)) ?_
     refine wpList_nil ?_
     refine nx ?_
     refine wp_seq ?_
     refine wp_seq ?_
     obtain ⟨r948, hr948, he⟩ := bindE he
     obtain ⟨hg951, he⟩ := gdE he
     obtain ⟨hg952, he⟩ := gdE he
     refine wp_region_lit ?_
     refine s_val (v := (.int .i64 (ix a0.Free s867))) (won rfl) rfl rfl (x_move rfl (ev (t := 5) rfl rfl)) ?_
     refine s_val (v := (.pointer (some ⟨g553, 1, none⟩))) (won rfl) rfl rfl (x_field rfl fa_28x1 (ev (t := 1) (v := (.pointer (some ⟨g553, 0, none⟩))) rfl q860)) ?_
     refine s_val (v := v0x1) (won rfl) rfl rfl (x_load rfl ty1x26 (ev (t := 30) rfl rfl) (seg_cell (o' := 0) (j := 1) hm916 (k := 0) rfl rfl rfl)) ?_
     refine s_val (v := (.int .i64 (a0.Owner.length : Int))) (won rfl) rfl rfl (x_len rfl slt_26 (ev (t := 31) rfl rfl) (H0x1).sl) ?_
     refine s_val (v := (.int .i64 (IntKind.wrap .i64 ((a0.Owner.length : Int) - 1)))) (won rfl) rfl rfl (x_sub rfl (ev (t := 32) rfl rfl) rfl) ?_
     refine s_call (won rfl) rfl rfl (x_call rfl rfl cl_58 (map_lit (map_cons (ev (t := 29) rfl rfl) (map_cons rfl (map_cons (ev (t := 33) rfl rfl) map_nil))))) (impl_inRange_ok (hR := (cat [])) (hF := cat [sg g553 28 (0, 0) [] [v0x0, v0x1] [], h862, hF]) (ix a0.Free s867) 0 (IntKind.wrap .i64 ((a0.Owner.length : Int) - 1))  (Mem.one hm916) hr948) ?_
     rintro e w949 ⟨rfl, hm950⟩
     refine ⟨_, rfl, ?_⟩
     replace hm950 : Mem w0 w949 (cat [sg g553 28 (0, 0) [] [v0x0, v0x1] [], h862, hF]) := Mem.un hm950
     refine s_val (v := (.bool (!r948))) (won rfl) rfl rfl (x_not rfl (ev (t := 34) rfl rfl)) ?_
     refine s_val (v := (.bool (!r948))) (won rfl) rfl rfl (x_move rfl (ev (t := 35) rfl rfl)) ?_
     refine s_cval (p := (!(!r948))) (v := (.int .i64 (ix a0.Free s867))) (won_f (j := 7) (t := 36) (q := (!r948)) rfl rfl rfl rfl rfl) rfl rfl (fun hp => (x_move rfl (ev (t := 5) rfl rfl))) ?_
     refine s_cval (p := (!(!r948))) (v := (.pointer (some ((slA p568.1).add (Int.toNat (ix a0.Free s867) * 1))))) (won_f (j := 7) (t := 36) (q := (!r948)) rfl rfl rfl rfl rfl) rfl rfl (fun hp => (x_indexA rfl arr_105 (ev (t := 3) (v := (.pointer (some (slA p568.1)))) rfl q864) (ev (t := 37) rfl (Eq.trans (b := cv (!(!r948)) (.int .i64 (ix a0.Free s867))) rfl (on_c hp))) (hg951 hp).1 (by have := (hg951 hp).2; rw [hg952] at this; omega))) ?_
     refine s_cval (p := (!(!r948))) (v := (.bool (ix s861 (ix a0.Free s867)))) (won_f (j := 7) (t := 36) (q := (!r948)) rfl rfl rfl rfl rfl) rfl rfl (fun hp => (x_load rfl ty1x4 (ev (t := 38) rfl (Eq.trans (b := cv (!(!r948)) (.pointer (some ((slA p568.1).add (Int.toNat (ix a0.Free s867) * 1))))) rfl (on_c hp))) (RdF.cell0 (H863.rd w0) hm950 (Sub.at_ (k := 1) rfl) (hg951 hp).1 (hg951 hp).2 rfl))) ?_
     refine s_val (v := (.bool ((!r948) || (ix s861 (ix a0.Free s867))))) (won rfl) rfl rfl (x_pick_or rfl (ev (t := 36) rfl rfl) rfl (fun hq => ev rfl (Eq.trans (b := cv (!(!r948)) (.bool (ix s861 (ix a0.Free s867)))) rfl (on_c (not_i hq))))) ?_
     refine wpList_nil ?_
     refine nx ?_
     rcases Bool.eq_false_or_eq_true (((!r948) || (ix s861 (ix a0.Free s867)))) with hb953 | hb953
     ·
      replace he := bifT he hb953
      refine c_true rfl (p := ((!r948) || (ix s861 (ix a0.Free s867)))) rfl rfl hb953 ?_
      refine wp_seq ?_
      refine wp_region_lit ?_
      refine s_val (v := (.bool false)) (won rfl) rfl rfl (x_assign rfl rfl) ?_
      refine wpList_nil ?_
      have hm954 : Mem w0 w949 (cat [hF]) := Mem.pick [2] rfl hm950
      refine nx ?_
      refine wp_ret ?_
      refine xr ?_
      refine rb ?_
      refine xr ?_
      refine xr ?_
      refine rb ?_
      refine xr ?_
      obtain rfl := Option.some.inj he
      replace he := outE hk769
      obtain rfl := Option.some.inj he
      refine r_ret (v := (.bool false)) (rv_one rfl (RVs.tmp (v := (.bool false)) rfl rfl RVs.nil)) rfl ?_
      exact ⟨rfl, Mem.pick [0] rfl hm954⟩
     ·
      replace he := bifF he hb953
      refine c_false rfl (p := ((!r948) || (ix s861 (ix a0.Free s867)))) rfl rfl hb953 ?_
      refine wp_skip ?_
      refine nx ?_
      obtain ⟨hg955, he⟩ := gdE he
      obtain ⟨hg956, he⟩ := gdE he
      refine wp_region_lit ?_
      refine s_val (v := (.int .i64 (ix a0.Free s867))) (won rfl) rfl rfl (x_move rfl (ev (t := 5) rfl rfl)) ?_
      refine s_val (v := (.pointer (some ((slA p568.1).add (Int.toNat (ix a0.Free s867) * 1))))) (won rfl) rfl rfl (x_indexA rfl arr_105 (ev (t := 3) (v := (.pointer (some (slA p568.1)))) rfl q864) (ev (t := 41) rfl rfl) hg955.1 (by have := hg955.2; rw [hg956] at this; omega)) ?_
      refine s_exw (won rfl) rfl (e_storeF (d := FK.bool) (s := true) (vs := [(.bool true)]) (j := 0) rfl sz_4 (ev (t := 42) rfl rfl) (add_0 _).symm rfl rfl rfl H863 hg955.1 hg955.2 rfl rfl hm950 (k := 1) rfl) ?_
      rintro h957 w959 ⟨H958, hm960⟩
      replace hm960 : Mem w0 w959 (cat [sg g553 28 (0, 0) [] [v0x0, v0x1] [], h957, hF]) := hm960
      refine wpList_nil ?_
      refine nb ?_
      refine nx ?_
      refine wp_region_lit ?_
      refine s_val (v := (.int .i64 (IntKind.wrap .i64 (s867 + 1)))) (won rfl) rfl rfl (x_add rfl (ev (t := 25) (v := (.int .i64 s867)) rfl q868) rfl) ?_
      refine s_val (v := (.int .i64 (IntKind.wrap .i64 (s867 + 1)))) (won rfl) rfl rfl (x_move rfl (ev (t := 43) rfl rfl)) ?_
      refine wpList_nil ?_
      refine nx ?_
      exact ⟨(List.set s861 (Int.toNat (ix a0.Free s867)) true), (IntKind.wrap .i64 (s867 + 1)), h957, _, he, rfl, q860, q864, q865, q866, rfl, H958, Mem.pick [0, 1, 2] rfl hm960⟩
    ·
     replace he := bifF he hb918
     refine c_false rfl (p := (decide (s867 < (a0.Free.length : Int)))) rfl rfl hb918 ?_
     refine wp_exit ?_
     refine xs ?_
     refine xs ?_
     refine xb ?_
     refine nx ?_
     obtain rfl := Option.some.inj he
     exact ⟨s861, h862, _, rfl, rfl, q860, q864, H863, Mem.pick [0, 1, 2] rfl hm916⟩
  ·
   rintro a w ⟨s767, h764, f, rfl, rfl, q762, q766, H765, hm962⟩
   replace he := goE hk769
   obtain ⟨l1032, hT1034, hk1033⟩ := bindE he
   replace he := hT1034
   refine wp_seqJ (fun a w => ∃ (s1031 : (Unit)) (f : Nat → Value), l1032 = Fl.go s1031 ∧ a = fr 68 f ∧ Mem w0 w (cat [hF])) ?_ ?_
   ·
    refine wp_seq ?_
    refine wp_region_lit ?_
    refine s_val (v := (.pointer (some ⟨g553, 1, none⟩))) (won rfl) rfl rfl (x_field rfl fa_28x1 (ev (t := 1) (v := (.pointer (some ⟨g553, 0, none⟩))) rfl q762)) ?_
    refine s_val (v := v0x1) (won rfl) rfl rfl (x_load rfl ty1x26 (ev (t := 44) rfl rfl) (seg_cell (o' := 0) (j := 1) hm962 (k := 0) rfl rfl rfl)) ?_
    refine s_val (v := (.int .i64 (a0.Owner.length : Int))) (won rfl) rfl rfl (x_len rfl slt_26 (ev (t := 45) rfl rfl) (H0x1).sl) ?_
    refine s_val (v := (.int .i64 0)) (won rfl) rfl rfl (x_move rfl rfl) ?_
    refine wpList_nil ?_
    have hm1035 : Mem w0 w (cat [h764, hF]) := Mem.pick [1, 2] rfl hm962
    refine nx ?_
    refine wp_block ?_
    refine wp_fuel (I := fun k => fun a w => ∃ (s1061 : Int) (f : Nat → Value), impl_PoolOK_l2 F a0 s767 k s1061 = some l1032 ∧ a = fr 68 f ∧ f 3 = (.pointer (some (slA p568.1))) ∧ f 45 = v0x1 ∧ f 46 = (.int .i64 (a0.Owner.length : Int)) ∧ f 47 = (.int .i64 s1061) ∧ Mem w0 w (cat [h764, hF])) F _ _ ⟨0, _, he, rfl, q766, rfl, rfl, rfl, Mem.pick [0, 1] rfl hm1035⟩ ?_ ?_
    ·
     rintro a w ⟨s1061, f, he, rfl, q1058, q1059, q1060, q1062, hm1082⟩
     rw [impl_PoolOK_l2] at he; exact none_no he
    ·
     rintro k a w ⟨s1061, f, he, rfl, q1058, q1059, q1060, q1062, hm1084⟩
     rw [impl_PoolOK_l2] at he
     refine wp_seq ?_
     refine wp_region_lit ?_
     refine s_val (v := (.bool (decide (s1061 < (a0.Owner.length : Int))))) (won rfl) rfl rfl (x_lss rfl (ev (t := 47) (v := (.int .i64 s1061)) rfl q1062) (ev (t := 46) (v := (.int .i64 (a0.Owner.length : Int))) rfl q1060)) ?_
     refine wpList_nil ?_
     refine nx ?_
     refine wp_seq ?_
     rcases Bool.eq_false_or_eq_true ((decide (s1061 < (a0.Owner.length : Int)))) with hb1086 | hb1086
     ·
      replace he := bifT he hb1086
      refine c_true rfl (p := (decide (s1061 < (a0.Owner.length : Int)))) rfl rfl hb1086 ?_
      refine wp_skip ?_
      refine nx ?_
      refine wp_seq ?_
      refine wp_block ?_
      refine wp_seq ?_
      obtain ⟨hg1095, he⟩ := gdE he
      refine wp_region_lit ?_
      refine s_val (v := (.int .i64 s1061)) (won rfl) rfl rfl (x_move rfl (ev (t := 47) (v := (.int .i64 s1061)) rfl q1062)) ?_
      refine s_val (v := (.pointer (some ((slA v0x1).add (Int.toNat s1061 * 1))))) (won rfl) rfl rfl (x_index (d := (FK.int .i64)) rfl slt_26 (ev (t := 45) (v := v0x1) rfl q1059) (ev (t := 47) (v := (.int .i64 s1061)) rfl q1062) H0x1 hg1095.1 hg1095.2) ?_
      refine s_val (v := (.int .i64 (ix a0.Owner s1061))) (won rfl) rfl rfl (x_load rfl ty1x3 (ev (t := 50) rfl rfl) (RdF.cell0 H0x1 hm1084 (Sub.trans hs (Sub.at_ (k := 1) rfl)) hg1095.1 hg1095.2 rfl)) ?_
      refine s_val (v := (.int .i64 s1061)) (won rfl) rfl rfl (x_assign rfl (ev (t := 49) rfl rfl)) ?_
      refine s_val (v := (.int .i64 (ix a0.Owner s1061))) (won rfl) rfl rfl (x_assign rfl (ev (t := 51) rfl rfl)) ?_
      refine wpList_nil ?_
      refine nx ?_
      refine wp_seq ?_
      obtain ⟨hg1096, he⟩ := gdE he
      obtain ⟨hg1097, he⟩ := gdE he
      obtain ⟨r1098, hr1098, he⟩ := bindE he
      refine wp_region_lit ?_
      refine s_val (v := (.int .i64 s1061)) (won rfl) rfl rfl (x_move rfl (ev (t := 6) rfl rfl)) ?_
      refine s_val (v := (.pointer (some ((slA p568.1).add (Int.toNat s1061 * 1))))) (won rfl) rfl rfl (x_indexA rfl arr_105 (ev (t := 3) (v := (.pointer (some (slA p568.1)))) rfl q1058) (ev (t := 52) rfl rfl) hg1096.1 (by have := hg1096.2; rw [hg1097] at this; omega)) ?_
      refine s_val (v := (.bool (ix s767 s1061))) (won rfl) rfl rfl (x_load rfl ty1x4 (ev (t := 53) rfl rfl) (RdF.cell0 (H765.rd w0) hm1084 (Sub.at_ (k := 0) rfl) hg1096.1 hg1096.2 rfl)) ?_
      refine s_val (v := (.int .i64 (ix a0.Owner s1061))) (won rfl) rfl rfl (x_move rfl (ev (t := 7) rfl rfl)) ?_
      refine s_val (v := (.bool (decide ((ix a0.Owner s1061) = (-1))))) (won rfl) rfl rfl (x_eql rfl (ev (t := 55) rfl rfl) rfl) ?_
      refine s_val (v := (.bool (!((ix s767 s1061) == (decide ((ix a0.Owner s1061) = (-1))))))) (won rfl) rfl rfl (x_bneq rfl un_4 (ev (t := 54) rfl rfl) (ev (t := 56) rfl rfl)) ?_
      refine s_val (v := (.bool (!((ix s767 s1061) == (decide ((ix a0.Owner s1061) = (-1))))))) (won rfl) rfl rfl (x_move rfl (ev (t := 57) rfl rfl)) ?_
      refine s_cval (p := (!(!((ix s767 s1061) == (decide ((ix a0.Owner s1061) = (-1))))))) (v := (.int .i64 (ix a0.Owner s1061))) (won_f (j := 6) (t := 58) (q := (!((ix s767 s1061) == (decide ((ix a0.Owner s1061) = (-1)))))) rfl rfl rfl rfl rfl) rfl rfl (fun hp => (x_move rfl (ev (t := 7) rfl rfl))) ?_
      refine s_cval (p := (!(!((ix s767 s1061) == (decide ((ix a0.Owner s1061) = (-1))))))) (v := (.bool (!decide ((ix a0.Owner s1061) = (-1))))) (won_f (j := 6) (t := 58) (q := (!((ix s767 s1061) == (decide ((ix a0.Owner s1061) = (-1)))))) rfl rfl rfl rfl rfl) rfl rfl (fun hp => (x_neq rfl (ev (t := 59) rfl (Eq.trans (b := cv (!(!((ix s767 s1061) == (decide ((ix a0.Owner s1061) = (-1)))))) (.int .i64 (ix a0.Owner s1061))) rfl (on_c hp))) rfl)) ?_
      refine s_cval (p := (!(!((ix s767 s1061) == (decide ((ix a0.Owner s1061) = (-1))))))) (v := (.bool (!decide ((ix a0.Owner s1061) = (-1))))) (won_f (j := 6) (t := 58) (q := (!((ix s767 s1061) == (decide ((ix a0.Owner s1061) = (-1)))))) rfl rfl rfl rfl rfl) rfl rfl (fun hp => (x_move rfl (ev (t := 60) rfl (Eq.trans (b := cv (!(!((ix s767 s1061) == (decide ((ix a0.Owner s1061) = (-1)))))) (.bool (!decide ((ix a0.Owner s1061) = (-1))))) rfl (on_c hp))))) ?_
      refine s_cval (p := ((!(!((ix s767 s1061) == (decide ((ix a0.Owner s1061) = (-1)))))) && (!decide ((ix a0.Owner s1061) = (-1))))) (v := (.int .i64 (ix a0.Owner s1061))) (won_ct (j := 9) (t := 61) (p := (!(!((ix s767 s1061) == (decide ((ix a0.Owner s1061) = (-1))))))) (q := (!decide ((ix a0.Owner s1061) = (-1)))) rfl rfl rfl rfl rfl) rfl rfl (fun hp => (x_move rfl (ev (t := 7) rfl rfl))) ?_
      refine s_ccall (p := ((!(!((ix s767 s1061) == (decide ((ix a0.Owner s1061) = (-1)))))) && (!decide ((ix a0.Owner s1061) = (-1))))) (v := (.bool r1098)) (J := fun w' => Mem w0 w' (cat [h764, hF])) (won_ct (j := 9) (t := 61) (p := (!(!((ix s767 s1061) == (decide ((ix a0.Owner s1061) = (-1))))))) (q := (!decide ((ix a0.Owner s1061) = (-1)))) rfl rfl rfl rfl rfl) rfl rfl (fun hp => (x_call rfl rfl cl_64 (map_lit (map_cons (ev (t := 62) rfl (Eq.trans (b := cv ((!(!((ix s767 s1061) == (decide ((ix a0.Owner s1061) = (-1)))))) && (!decide ((ix a0.Owner s1061) = (-1)))) (.int .i64 (ix a0.Owner s1061))) rfl (on_c hp))) map_nil)))) (fun hp => ((impl_isOwner_ok (hR := (cat [])) (hF := cat [h764, hF]) (ix a0.Owner s1061)  (Mem.one hm1084) (bifT hr1098 hp))).mono fun e w2 h => ⟨h.1, Mem.un h.2⟩) hm1084 ?_
      intro w1099 hm1100
      refine s_cval (p := ((!(!((ix s767 s1061) == (decide ((ix a0.Owner s1061) = (-1)))))) && (!decide ((ix a0.Owner s1061) = (-1))))) (v := (.bool (!r1098))) (won_ct (j := 9) (t := 61) (p := (!(!((ix s767 s1061) == (decide ((ix a0.Owner s1061) = (-1))))))) (q := (!decide ((ix a0.Owner s1061) = (-1)))) rfl rfl rfl rfl rfl) rfl rfl (fun hp => (x_not rfl (ev (t := 63) rfl (Eq.trans (b := cv ((!(!((ix s767 s1061) == (decide ((ix a0.Owner s1061) = (-1)))))) && (!decide ((ix a0.Owner s1061) = (-1)))) (.bool r1098)) rfl (on_c hp))))) ?_
      refine s_cval (p := (!(!((ix s767 s1061) == (decide ((ix a0.Owner s1061) = (-1))))))) (v := (.bool ((!decide ((ix a0.Owner s1061) = (-1))) && (!r1098)))) (won_f (j := 6) (t := 58) (q := (!((ix s767 s1061) == (decide ((ix a0.Owner s1061) = (-1)))))) rfl rfl rfl rfl rfl) rfl rfl (fun hp => (x_pick_and rfl (ev (t := 61) rfl (Eq.trans (b := cv (!(!((ix s767 s1061) == (decide ((ix a0.Owner s1061) = (-1)))))) (.bool (!decide ((ix a0.Owner s1061) = (-1))))) rfl (on_c hp))) (fun hq => ev rfl (Eq.trans (b := cv ((!(!((ix s767 s1061) == (decide ((ix a0.Owner s1061) = (-1)))))) && (!decide ((ix a0.Owner s1061) = (-1)))) (.bool (!r1098))) rfl (on_c (and_i hp hq)))) rfl)) ?_
      refine s_val (v := (.bool ((!((ix s767 s1061) == (decide ((ix a0.Owner s1061) = (-1))))) || ((!decide ((ix a0.Owner s1061) = (-1))) && (!r1098))))) (won rfl) rfl rfl (x_pick_or rfl (ev (t := 58) rfl rfl) rfl (fun hq => ev rfl (Eq.trans (b := cv (!(!((ix s767 s1061) == (decide ((ix a0.Owner s1061) = (-1)))))) (.bool ((!decide ((ix a0.Owner s1061) = (-1))) && (!r1098)))) rfl (on_c (not_i hq))))) ?_
      refine wpList_nil ?_
      refine nx ?_
      rcases Bool.eq_false_or_eq_true (((!((ix s767 s1061) == (decide ((ix a0.Owner s1061) = (-1))))) || ((!decide ((ix a0.Owner s1061) = (-1))) && (!r1098)))) with hb1101 | hb1101
      ·
       replace he := bifT he hb1101
       refine c_true rfl (p := ((!((ix s767 s1061) == (decide ((ix a0.Owner s1061) = (-1))))) || ((!decide ((ix a0.Owner s1061) = (-1))) && (!r1098)))) rfl rfl hb1101 ?_
       refine wp_seq ?_
       refine wp_region_lit ?_
       refine s_val (v := (.bool false)) (won rfl) rfl rfl (x_assign rfl rfl) ?_
       refine wpList_nil ?_
       have hm1102 : Mem w0 w1099 (cat [hF]) := Mem.pick [1] rfl hm1100
       refine nx ?_
       refine wp_ret ?_
       refine rb ?_
       refine xr ?_
       refine xr ?_
       refine rb ?_
       refine xr ?_
       obtain rfl := Option.some.inj he
       replace he := outE hk1033
       obtain rfl := Option.some.inj he
       refine r_ret (v := (.bool false)) (rv_one rfl (RVs.tmp (v := (.bool false)) rfl rfl RVs.nil)) rfl ?_
       exact ⟨rfl, Mem.pick [0] rfl hm1102⟩
      ·
       replace he := bifF he hb1101
       refine c_false rfl (p := ((!((ix s767 s1061) == (decide ((ix a0.Owner s1061) = (-1))))) || ((!decide ((ix a0.Owner s1061) = (-1))) && (!r1098)))) rfl rfl hb1101 ?_
       refine wp_skip ?_
       refine nb ?_
       refine nx ?_
       refine wp_region_lit ?_
       refine s_val (v := (.int .i64 (IntKind.wrap .i64 (s1061 + 1)))) (won rfl) rfl rfl (x_add rfl (ev (t := 47) (v := (.int .i64 s1061)) rfl q1062) rfl) ?_
       refine s_val (v := (.int .i64 (IntKind.wrap .i64 (s1061 + 1)))) (won rfl) rfl rfl (x_move rfl (ev (t := 67) rfl rfl)) ?_
       refine wpList_nil ?_
       refine nx ?_
       exact ⟨(IntKind.wrap .i64 (s1061 + 1)), _, he, rfl, q1058, q1059, q1060, rfl, Mem.pick [0, 1] rfl hm1100⟩
     ·
      replace he := bifF he hb1086
      refine c_false rfl (p := (decide (s1061 < (a0.Owner.length : Int)))) rfl rfl hb1086 ?_
      refine wp_exit ?_
      refine xs ?_
      refine xs ?_
      refine xb ?_
      refine nx ?_
      obtain rfl := Option.some.inj he
      exact ⟨(), _, rfl, rfl, Mem.pick [1] rfl hm1084⟩
   ·
    rintro a w ⟨s1031, f, rfl, rfl, hm1104⟩
    replace he := goE hk1033
    refine wp_seq ?_
    refine wp_region_lit ?_
    refine s_val (v := (.bool true)) (won rfl) rfl rfl (x_assign rfl rfl) ?_
    refine wpList_nil ?_
    refine nx ?_
    refine wp_ret ?_
    obtain rfl := Option.some.inj he
    refine r_ret (v := (.bool true)) (rv_one rfl (RVs.tmp (v := (.bool true)) rfl rfl RVs.nil)) rfl ?_
    exact ⟨rfl, Mem.pick [0] rfl hm1104⟩
def impl_clonePool (a0 : impl_Pool) : Option (impl_Pool) := gd ((([] : List Int).length + a0.Free.length) * 8 ≤ 140737488355328) (gd ((([] : List Int).length + a0.Owner.length) * 8 ≤ 140737488355328) ((some (impl_Pool.mk (([] : List Int) ++ a0.Free) (([] : List Int) ++ a0.Owner)))))
set_option maxHeartbeats 400000 in
set_option maxRecDepth 100000 in
theorem impl_clonePool_ok {w0 w : World} {hR hF : Hp} {v0x0 : Value} {v0x1 : Value} (a0 : impl_Pool) {r : (impl_Pool)} (H0x0 : RdF w0 (FK.int .i64) v0x0 a0.Free hR) (H0x1 : RdF w0 (FK.int .i64) v0x1 a0.Owner hR) (hs : Sub hR hF) (hm : Mem w0 w (cat [hF])) (he : impl_clonePool a0 = some r) :
    Calls Try.prog 63 #[(.agg #[v0x0, v0x1])] w (fun e w' => ∃ (v'0 : Value) (h'0 : Hp) (v'1 : Value) (h'1 : Hp), e = .returned (.agg #[v'0, v'1]) ∧ OwF 3 (FK.int .i64) v'0 r.Free h'0 ∧ OwF 3 (FK.int .i64) v'1 r.Owner h'1 ∧ Mem w0 w' (cat [h'0, h'1, hF])) := by
 refine calls_fr (n := 12) Try.func63 rfl rfl rfl ?_
 unfold impl_clonePool at he
 refine wp_seq ?_
 refine wp_region_lit ?_
 refine s_exv (won rfl) rfl rfl (e_box (vs := [v0x0, v0x1]) rfl (ev (t := 0) rfl rfl) rfl hm) ?_
 rintro g2042 w2043 hm2044
 refine s_exv (won rfl) rfl rfl (e_alloc (vs := [(.slice none 0 0), (.slice none 0 0)]) rfl zt_28 rfl hm2044) ?_
 rintro g2048 w2049 hm2050
 refine wpList_nil ?_
 refine nx ?_
 refine wp_seq ?_
 obtain ⟨hg3301, he⟩ := gdE he
 obtain ⟨hg3701, he⟩ := gdE he
 refine wp_drawF (I := fun f b a w => ∃ (vs : Nat → Value) (g3003 : Nat) (p3303 : Value × Hp) (g3403 : Nat) (p3703 : Value × Hp), a = fr 12 (sel b [(0, 3), (1, 4), (2, 5), (3, 6), (4, 7), (5, 8), (6, 9), (7, 10), (8, 11)] vs f) ∧ (b 0 = true → vs 0 = (.slice (some ⟨g3003, 0, none⟩) 0 0)) ∧ (b 1 = true → vs 1 = (.pointer (some ⟨g2042, 0, none⟩))) ∧ (b 2 = true → vs 2 = v0x0) ∧ (b 3 = true → vs 3 = p3303.1) ∧ (b 4 = true → vs 4 = (.slice (some ⟨g3403, 0, none⟩) 0 0)) ∧ (b 5 = true → vs 5 = (.pointer (some ⟨g2042, 1, none⟩))) ∧ (b 6 = true → vs 6 = v0x1) ∧ (b 7 = true → vs 7 = p3703.1) ∧ (b 8 = true → vs 8 = (.agg #[p3303.1, p3703.1])) ∧ (b 0 = true → OwF 3 (FK.int .i64) (.slice (some ⟨g3003, 0, none⟩) 0 0) ([] : List Int) (sg g3003 3 (0, 0) [] (encs (FK.int .i64) ([] : List Int)) [])) ∧ (b 3 = true → OwF 3 (FK.int .i64) p3303.1 (([] : List Int) ++ a0.Free) p3303.2) ∧ (b 4 = true → OwF 3 (FK.int .i64) (.slice (some ⟨g3403, 0, none⟩) 0 0) ([] : List Int) (sg g3403 3 (0, 0) [] (encs (FK.int .i64) ([] : List Int)) [])) ∧ (b 7 = true → OwF 3 (FK.int .i64) p3703.1 (([] : List Int) ++ a0.Owner) p3703.2) ∧ Mem w0 w (cat [(bif b 9 then sg g2048 28 (0, 0) [] [p3303.1, p3703.1] [] else sg g2048 28 (0, 0) [] [(.slice none 0 0), (.slice none 0 0)] []), sg g2042 28 (0, 0) [] [v0x0, v0x1] [], hF, (bif b 3 then [] else (bif b 0 then (sg g3003 3 (0, 0) [] (encs (FK.int .i64) ([] : List Int)) []) else [])), (bif b 3 then p3303.2 else []), (bif b 7 then [] else (bif b 4 then (sg g3403 3 (0, 0) [] (encs (FK.int .i64) ([] : List Int)) []) else [])), (bif b 7 then p3703.2 else [])])) mixed (by kernel_rfl) ⟨fun _ => undef, 0, (undef, []), 0, (undef, []), (by rw [sel_false]), fun h => fno h, fun h => fno h, fun h => fno h, fun h => fno h, fun h => fno h, fun h => fno h, fun h => fno h, fun h => fno h, fun h => fno h, fun h => fno h, fun h => fno h, fun h => fno h, fun h => fno h, Mem.drew (Mem.pick [0, 1, 2, 1000, 1001, 1002, 1003] rfl hm2050)⟩ (steps_cons (i := 0) ?_ (steps_cons (i := 1) ?_ (steps_cons (i := 2) ?_ (steps_cons (i := 3) ?_ (steps_cons (i := 4) ?_ (steps_cons (i := 5) ?_ (steps_cons (i := 6) ?_ (steps_cons (i := 7) ?_ (steps_cons (i := 8) ?_ (steps_cons (i := 9) ?_ steps_nil)))))))))) ?_
 ·
  intro b a w hI hbi hn hc K hK
  obtain ⟨vs, g3003, p3303, g3403, p3703, ha, y0, y1, y2, y3, y4, y5, y6, y7, y8, H3004, H3304, H3404, H3704, hm⟩ := hI
  subst ha
  have b3 : b 3 = false := later (j := 3) hc rfl (i := 0) (da rfl) hbi
  have b7 : b 7 = false := later (j := 7) hc rfl (i := 3) (da rfl) b3
  have b8 : b 8 = false := later (j := 8) hc rfl (i := 3) (da rfl) b3
  have b9 : b 9 = false := later (j := 9) hc rfl (i := 0) (da rfl) hbi
  have hm4001 : Mem w0 w (cat [sg g2048 28 (0, 0) [] [(.slice none 0 0), (.slice none 0 0)] [], sg g2042 28 (0, 0) [] [v0x0, v0x1] [], hF, (bif b 4 then (sg g3403 3 (0, 0) [] (encs (FK.int .i64) ([] : List Int)) []) else [])]) := Mem.pick [0, 1, 2, 5] rfl (Mem.cg (B := [sg g2048 28 (0, 0) [] [(.slice none 0 0), (.slice none 0 0)] [], sg g2042 28 (0, 0) [] [v0x0, v0x1] [], hF, [], [], (bif b 4 then (sg g3403 3 (0, 0) [] (encs (FK.int .i64) ([] : List Int)) []) else []), []]) (cat_cons (off_ b9 rfl) (cat_cons rfl (cat_cons rfl (cat_cons (off_ b3 (off_ hbi rfl)) (cat_cons (off_ b3 rfl) (cat_cons (off_ b7 rfl) (cat_cons (off_ b7 rfl) rfl))))))) hm)
  refine e_exv (i := 0) hbi rfl rfl (won rfl) rfl rfl (e_litp (cells := []) (ps := []) rfl slt_26 (pmap_lit pmap_nil) (fun w1 => run_bslice0 slt_26) hm4001) ?_
  rintro g3003 w3001 hm3002
  have H3004 : OwF 3 (FK.int .i64) (.slice (some ⟨g3003, 0, none⟩) 0 0) ([] : List Int) (sg g3003 3 (0, 0) [] (encs (FK.int .i64) ([] : List Int)) []) := OwF.lit g3003 ([] : List Int) 0 rfl (by decide)
  replace hm3002 : Mem w0 w3001 (cat [(sg g3003 3 (0, 0) [] (encs (FK.int .i64) ([] : List Int)) []), sg g2048 28 (0, 0) [] [(.slice none 0 0), (.slice none 0 0)] [], sg g2042 28 (0, 0) [] [v0x0, v0x1] [], hF, (bif b 4 then (sg g3403 3 (0, 0) [] (encs (FK.int .i64) ([] : List Int)) []) else [])]) := hm3002
  exact hK _ _ ⟨_, g3003, p3303, g3403, p3703, rfl, fun _ => rfl, y1, y2, y3, y4, y5, y6, y7, y8, fun _ => H3004, H3304, H3404, H3704, Mem.gc (A := [sg g2048 28 (0, 0) [] [(.slice none 0 0), (.slice none 0 0)] [], sg g2042 28 (0, 0) [] [v0x0, v0x1] [], hF, (sg g3003 3 (0, 0) [] (encs (FK.int .i64) ([] : List Int)) []), [], (bif b 4 then (sg g3403 3 (0, 0) [] (encs (FK.int .i64) ([] : List Int)) []) else []), []]) (cat_cons (off_ b9 rfl) (cat_cons rfl (cat_cons rfl (cat_cons (off_ b3 (on_ rfl rfl)) (cat_cons (off_ b3 rfl) (cat_cons (off_ b7 rfl) (cat_cons (off_ b7 rfl) rfl))))))) (Mem.pick [1, 2, 3, 0, 1004, 4, 1006] rfl hm3002)⟩
 ·
  intro b a w hI hbi hn hc K hK
  obtain ⟨vs, g3003, p3303, g3403, p3703, ha, y0, y1, y2, y3, y4, y5, y6, y7, y8, H3004, H3304, H3404, H3704, hm⟩ := hI
  subst ha
  have b2 : b 2 = false := later (j := 2) hc rfl (i := 1) (da rfl) hbi
  have b3 : b 3 = false := later (j := 3) hc rfl (i := 2) (da rfl) b2
  have b7 : b 7 = false := later (j := 7) hc rfl (i := 3) (da rfl) b3
  have b8 : b 8 = false := later (j := 8) hc rfl (i := 3) (da rfl) b3
  have b9 : b 9 = false := later (j := 9) hc rfl (i := 1) (da rfl) hbi
  have hm4004 : Mem w0 w (cat [sg g2048 28 (0, 0) [] [(.slice none 0 0), (.slice none 0 0)] [], sg g2042 28 (0, 0) [] [v0x0, v0x1] [], hF, (bif b 0 then (sg g3003 3 (0, 0) [] (encs (FK.int .i64) ([] : List Int)) []) else []), (bif b 4 then (sg g3403 3 (0, 0) [] (encs (FK.int .i64) ([] : List Int)) []) else [])]) := Mem.pick [0, 1, 2, 3, 5] rfl (Mem.cg (B := [sg g2048 28 (0, 0) [] [(.slice none 0 0), (.slice none 0 0)] [], sg g2042 28 (0, 0) [] [v0x0, v0x1] [], hF, (bif b 0 then (sg g3003 3 (0, 0) [] (encs (FK.int .i64) ([] : List Int)) []) else []), [], (bif b 4 then (sg g3403 3 (0, 0) [] (encs (FK.int .i64) ([] : List Int)) []) else []), []]) (cat_cons (off_ b9 rfl) (cat_cons rfl (cat_cons rfl (cat_cons (off_ b3 rfl) (cat_cons (off_ b3 rfl) (cat_cons (off_ b7 rfl) (cat_cons (off_ b7 rfl) rfl))))))) hm)
  refine e_val (i := 1) hbi rfl rfl (v := (.pointer (some ⟨g2042, 0, none⟩))) (won rfl) rfl rfl (x_field rfl fa_28x0 (ev (t := 1) (v := (.pointer (some ⟨g2042, 0, none⟩))) rfl ((sel_no rfl).trans rfl))) ?_
  exact hK _ _ ⟨_, g3003, p3303, g3403, p3703, rfl, y0, fun _ => rfl, y2, y3, y4, y5, y6, y7, y8, H3004, H3304, H3404, H3704, Mem.gc (A := [sg g2048 28 (0, 0) [] [(.slice none 0 0), (.slice none 0 0)] [], sg g2042 28 (0, 0) [] [v0x0, v0x1] [], hF, (bif b 0 then (sg g3003 3 (0, 0) [] (encs (FK.int .i64) ([] : List Int)) []) else []), [], (bif b 4 then (sg g3403 3 (0, 0) [] (encs (FK.int .i64) ([] : List Int)) []) else []), []]) (cat_cons (off_ b9 rfl) (cat_cons rfl (cat_cons rfl (cat_cons (off_ b3 rfl) (cat_cons (off_ b3 rfl) (cat_cons (off_ b7 rfl) (cat_cons (off_ b7 rfl) rfl))))))) (Mem.pick [0, 1, 2, 3, 1004, 4, 1006] rfl hm4004)⟩
 ·
  intro b a w hI hbi hn hc K hK
  obtain ⟨vs, g3003, p3303, g3403, p3703, ha, y0, y1, y2, y3, y4, y5, y6, y7, y8, H3004, H3304, H3404, H3704, hm⟩ := hI
  subst ha
  have b1 : b 1 = true := hn 1 (da rfl)
  have b3 : b 3 = false := later (j := 3) hc rfl (i := 2) (da rfl) hbi
  have b7 : b 7 = false := later (j := 7) hc rfl (i := 3) (da rfl) b3
  have b8 : b 8 = false := later (j := 8) hc rfl (i := 3) (da rfl) b3
  have b9 : b 9 = false := later (j := 9) hc rfl (i := 2) (da rfl) hbi
  have hm4007 : Mem w0 w (cat [sg g2048 28 (0, 0) [] [(.slice none 0 0), (.slice none 0 0)] [], sg g2042 28 (0, 0) [] [v0x0, v0x1] [], hF, (bif b 0 then (sg g3003 3 (0, 0) [] (encs (FK.int .i64) ([] : List Int)) []) else []), (bif b 4 then (sg g3403 3 (0, 0) [] (encs (FK.int .i64) ([] : List Int)) []) else [])]) := Mem.pick [0, 1, 2, 3, 5] rfl (Mem.cg (B := [sg g2048 28 (0, 0) [] [(.slice none 0 0), (.slice none 0 0)] [], sg g2042 28 (0, 0) [] [v0x0, v0x1] [], hF, (bif b 0 then (sg g3003 3 (0, 0) [] (encs (FK.int .i64) ([] : List Int)) []) else []), [], (bif b 4 then (sg g3403 3 (0, 0) [] (encs (FK.int .i64) ([] : List Int)) []) else []), []]) (cat_cons (off_ b9 rfl) (cat_cons rfl (cat_cons rfl (cat_cons (off_ b3 rfl) (cat_cons (off_ b3 rfl) (cat_cons (off_ b7 rfl) (cat_cons (off_ b7 rfl) rfl))))))) hm)
  refine e_val (i := 2) hbi rfl rfl (v := v0x0) (won rfl) rfl rfl (x_load rfl ty1x26 (ev (t := 4) (v := (.pointer (some ⟨g2042, 0, none⟩))) rfl ((sel_on (p := (1, 4)) rfl b1).trans (y1 b1))) (seg_cell (o' := 0) (j := 0) hm4007 (k := 1) rfl rfl rfl)) ?_
  exact hK _ _ ⟨_, g3003, p3303, g3403, p3703, rfl, y0, y1, fun _ => rfl, y3, y4, y5, y6, y7, y8, H3004, H3304, H3404, H3704, Mem.gc (A := [sg g2048 28 (0, 0) [] [(.slice none 0 0), (.slice none 0 0)] [], sg g2042 28 (0, 0) [] [v0x0, v0x1] [], hF, (bif b 0 then (sg g3003 3 (0, 0) [] (encs (FK.int .i64) ([] : List Int)) []) else []), [], (bif b 4 then (sg g3403 3 (0, 0) [] (encs (FK.int .i64) ([] : List Int)) []) else []), []]) (cat_cons (off_ b9 rfl) (cat_cons rfl (cat_cons rfl (cat_cons (off_ b3 rfl) (cat_cons (off_ b3 rfl) (cat_cons (off_ b7 rfl) (cat_cons (off_ b7 rfl) rfl))))))) (Mem.pick [0, 1, 2, 3, 1004, 4, 1006] rfl hm4007)⟩
 ·
  intro b a w hI hbi hn hc K hK
  obtain ⟨vs, g3003, p3303, g3403, p3703, ha, y0, y1, y2, y3, y4, y5, y6, y7, y8, H3004, H3304, H3404, H3704, hm⟩ := hI
  subst ha
  have b0 : b 0 = true := hn 0 (da rfl)
  have b2 : b 2 = true := hn 2 (da rfl)
  have b1 : b 1 = true := hc 2 _ rfl b2 1 (da rfl)
  have b7 : b 7 = false := later (j := 7) hc rfl (i := 3) (da rfl) hbi
  have b8 : b 8 = false := later (j := 8) hc rfl (i := 3) (da rfl) hbi
  have b9 : b 9 = false := later (j := 9) hc rfl (i := 3) (da rfl) hbi
  have H3004 := H3004 b0
  have hm4010 : Mem w0 w (cat [sg g2048 28 (0, 0) [] [(.slice none 0 0), (.slice none 0 0)] [], sg g2042 28 (0, 0) [] [v0x0, v0x1] [], hF, (sg g3003 3 (0, 0) [] (encs (FK.int .i64) ([] : List Int)) []), (bif b 4 then (sg g3403 3 (0, 0) [] (encs (FK.int .i64) ([] : List Int)) []) else [])]) := Mem.pick [0, 1, 2, 3, 5] rfl (Mem.cg (B := [sg g2048 28 (0, 0) [] [(.slice none 0 0), (.slice none 0 0)] [], sg g2042 28 (0, 0) [] [v0x0, v0x1] [], hF, (sg g3003 3 (0, 0) [] (encs (FK.int .i64) ([] : List Int)) []), [], (bif b 4 then (sg g3403 3 (0, 0) [] (encs (FK.int .i64) ([] : List Int)) []) else []), []]) (cat_cons (off_ b9 rfl) (cat_cons rfl (cat_cons rfl (cat_cons (off_ hbi (on_ b0 rfl)) (cat_cons (off_ hbi rfl) (cat_cons (off_ b7 rfl) (cat_cons (off_ b7 rfl) rfl))))))) hm)
  refine e_exv (i := 3) hbi rfl rfl (won rfl) rfl rfl (e_append (bytes := 8) rfl slt_26 rfl (ev (t := 3) (v := (.slice (some ⟨g3003, 0, none⟩) 0 0)) rfl ((sel_on (p := (0, 3)) rfl b0).trans (y0 b0))) (ev (t := 5) (v := v0x0) rfl ((sel_on (p := (2, 5)) rfl b2).trans (y2 b2))) H3004 (k := 3) rfl H0x0 (Sub.trans hs (Sub.at_ (k := 2) rfl)) hm4010 hg3301 (len63 hg3301 rfl)) ?_
  rintro p3303 w3305 ⟨H3304, hm3306⟩
  replace hm3306 : Mem w0 w3305 (cat [sg g2048 28 (0, 0) [] [(.slice none 0 0), (.slice none 0 0)] [], sg g2042 28 (0, 0) [] [v0x0, v0x1] [], hF, p3303.2, (bif b 4 then (sg g3403 3 (0, 0) [] (encs (FK.int .i64) ([] : List Int)) []) else [])]) := hm3306
  exact hK _ _ ⟨_, g3003, p3303, g3403, p3703, rfl, y0, y1, y2, fun _ => rfl, y4, y5, y6, y7, fun hb => ab b8 hb, fun _ => H3004, fun _ => H3304, H3404, H3704, Mem.gc (A := [sg g2048 28 (0, 0) [] [(.slice none 0 0), (.slice none 0 0)] [], sg g2042 28 (0, 0) [] [v0x0, v0x1] [], hF, [], p3303.2, (bif b 4 then (sg g3403 3 (0, 0) [] (encs (FK.int .i64) ([] : List Int)) []) else []), []]) (cat_cons (off_ b9 rfl) (cat_cons rfl (cat_cons rfl (cat_cons (on_ rfl rfl) (cat_cons (on_ rfl rfl) (cat_cons (off_ b7 rfl) (cat_cons (off_ b7 rfl) rfl))))))) (Mem.pick [0, 1, 2, 1003, 3, 4, 1006] rfl hm3306)⟩
 ·
  intro b a w hI hbi hn hc K hK
  obtain ⟨vs, g3003, p3303, g3403, p3703, ha, y0, y1, y2, y3, y4, y5, y6, y7, y8, H3004, H3304, H3404, H3704, hm⟩ := hI
  subst ha
  have b7 : b 7 = false := later (j := 7) hc rfl (i := 4) (da rfl) hbi
  have b8 : b 8 = false := later (j := 8) hc rfl (i := 7) (da rfl) b7
  have b9 : b 9 = false := later (j := 9) hc rfl (i := 4) (da rfl) hbi
  have hm4013 : Mem w0 w (cat [sg g2048 28 (0, 0) [] [(.slice none 0 0), (.slice none 0 0)] [], sg g2042 28 (0, 0) [] [v0x0, v0x1] [], hF, (bif b 3 then [] else (bif b 0 then (sg g3003 3 (0, 0) [] (encs (FK.int .i64) ([] : List Int)) []) else [])), (bif b 3 then p3303.2 else [])]) := Mem.pick [0, 1, 2, 3, 4] rfl (Mem.cg (B := [sg g2048 28 (0, 0) [] [(.slice none 0 0), (.slice none 0 0)] [], sg g2042 28 (0, 0) [] [v0x0, v0x1] [], hF, (bif b 3 then [] else (bif b 0 then (sg g3003 3 (0, 0) [] (encs (FK.int .i64) ([] : List Int)) []) else [])), (bif b 3 then p3303.2 else []), [], []]) (cat_cons (off_ b9 rfl) (cat_cons rfl (cat_cons rfl (cat_cons rfl (cat_cons rfl (cat_cons (off_ b7 (off_ hbi rfl)) (cat_cons (off_ b7 rfl) rfl))))))) hm)
  refine e_exv (i := 4) hbi rfl rfl (won rfl) rfl rfl (e_litp (cells := []) (ps := []) rfl slt_26 (pmap_lit pmap_nil) (fun w1 => run_bslice0 slt_26) hm4013) ?_
  rintro g3403 w3401 hm3402
  have H3404 : OwF 3 (FK.int .i64) (.slice (some ⟨g3403, 0, none⟩) 0 0) ([] : List Int) (sg g3403 3 (0, 0) [] (encs (FK.int .i64) ([] : List Int)) []) := OwF.lit g3403 ([] : List Int) 0 rfl (by decide)
  replace hm3402 : Mem w0 w3401 (cat [(sg g3403 3 (0, 0) [] (encs (FK.int .i64) ([] : List Int)) []), sg g2048 28 (0, 0) [] [(.slice none 0 0), (.slice none 0 0)] [], sg g2042 28 (0, 0) [] [v0x0, v0x1] [], hF, (bif b 3 then [] else (bif b 0 then (sg g3003 3 (0, 0) [] (encs (FK.int .i64) ([] : List Int)) []) else [])), (bif b 3 then p3303.2 else [])]) := hm3402
  exact hK _ _ ⟨_, g3003, p3303, g3403, p3703, rfl, y0, y1, y2, y3, fun _ => rfl, y5, y6, y7, y8, H3004, H3304, fun _ => H3404, H3704, Mem.gc (A := [sg g2048 28 (0, 0) [] [(.slice none 0 0), (.slice none 0 0)] [], sg g2042 28 (0, 0) [] [v0x0, v0x1] [], hF, (bif b 3 then [] else (bif b 0 then (sg g3003 3 (0, 0) [] (encs (FK.int .i64) ([] : List Int)) []) else [])), (bif b 3 then p3303.2 else []), (sg g3403 3 (0, 0) [] (encs (FK.int .i64) ([] : List Int)) []), []]) (cat_cons (off_ b9 rfl) (cat_cons rfl (cat_cons rfl (cat_cons rfl (cat_cons rfl (cat_cons (off_ b7 (on_ rfl rfl)) (cat_cons (off_ b7 rfl) rfl))))))) (Mem.pick [1, 2, 3, 4, 5, 0, 1006] rfl hm3402)⟩
 ·
  intro b a w hI hbi hn hc K hK
  obtain ⟨vs, g3003, p3303, g3403, p3703, ha, y0, y1, y2, y3, y4, y5, y6, y7, y8, H3004, H3304, H3404, H3704, hm⟩ := hI
  subst ha
  have b6 : b 6 = false := later (j := 6) hc rfl (i := 5) (da rfl) hbi
  have b7 : b 7 = false := later (j := 7) hc rfl (i := 6) (da rfl) b6
  have b8 : b 8 = false := later (j := 8) hc rfl (i := 7) (da rfl) b7
  have b9 : b 9 = false := later (j := 9) hc rfl (i := 5) (da rfl) hbi
  have hm4016 : Mem w0 w (cat [sg g2048 28 (0, 0) [] [(.slice none 0 0), (.slice none 0 0)] [], sg g2042 28 (0, 0) [] [v0x0, v0x1] [], hF, (bif b 3 then [] else (bif b 0 then (sg g3003 3 (0, 0) [] (encs (FK.int .i64) ([] : List Int)) []) else [])), (bif b 3 then p3303.2 else []), (bif b 4 then (sg g3403 3 (0, 0) [] (encs (FK.int .i64) ([] : List Int)) []) else [])]) := Mem.pick [0, 1, 2, 3, 4, 5] rfl (Mem.cg (B := [sg g2048 28 (0, 0) [] [(.slice none 0 0), (.slice none 0 0)] [], sg g2042 28 (0, 0) [] [v0x0, v0x1] [], hF, (bif b 3 then [] else (bif b 0 then (sg g3003 3 (0, 0) [] (encs (FK.int .i64) ([] : List Int)) []) else [])), (bif b 3 then p3303.2 else []), (bif b 4 then (sg g3403 3 (0, 0) [] (encs (FK.int .i64) ([] : List Int)) []) else []), []]) (cat_cons (off_ b9 rfl) (cat_cons rfl (cat_cons rfl (cat_cons rfl (cat_cons rfl (cat_cons (off_ b7 rfl) (cat_cons (off_ b7 rfl) rfl))))))) hm)
  refine e_val (i := 5) hbi rfl rfl (v := (.pointer (some ⟨g2042, 1, none⟩))) (won rfl) rfl rfl (x_field rfl fa_28x1 (ev (t := 1) (v := (.pointer (some ⟨g2042, 0, none⟩))) rfl ((sel_no rfl).trans rfl))) ?_
  exact hK _ _ ⟨_, g3003, p3303, g3403, p3703, rfl, y0, y1, y2, y3, y4, fun _ => rfl, y6, y7, y8, H3004, H3304, H3404, H3704, Mem.gc (A := [sg g2048 28 (0, 0) [] [(.slice none 0 0), (.slice none 0 0)] [], sg g2042 28 (0, 0) [] [v0x0, v0x1] [], hF, (bif b 3 then [] else (bif b 0 then (sg g3003 3 (0, 0) [] (encs (FK.int .i64) ([] : List Int)) []) else [])), (bif b 3 then p3303.2 else []), (bif b 4 then (sg g3403 3 (0, 0) [] (encs (FK.int .i64) ([] : List Int)) []) else []), []]) (cat_cons (off_ b9 rfl) (cat_cons rfl (cat_cons rfl (cat_cons rfl (cat_cons rfl (cat_cons (off_ b7 rfl) (cat_cons (off_ b7 rfl) rfl))))))) (Mem.pick [0, 1, 2, 3, 4, 5, 1006] rfl hm4016)⟩
 ·
  intro b a w hI hbi hn hc K hK
  obtain ⟨vs, g3003, p3303, g3403, p3703, ha, y0, y1, y2, y3, y4, y5, y6, y7, y8, H3004, H3304, H3404, H3704, hm⟩ := hI
  subst ha
  have b5 : b 5 = true := hn 5 (da rfl)
  have b7 : b 7 = false := later (j := 7) hc rfl (i := 6) (da rfl) hbi
  have b8 : b 8 = false := later (j := 8) hc rfl (i := 7) (da rfl) b7
  have b9 : b 9 = false := later (j := 9) hc rfl (i := 6) (da rfl) hbi
  have hm4019 : Mem w0 w (cat [sg g2048 28 (0, 0) [] [(.slice none 0 0), (.slice none 0 0)] [], sg g2042 28 (0, 0) [] [v0x0, v0x1] [], hF, (bif b 3 then [] else (bif b 0 then (sg g3003 3 (0, 0) [] (encs (FK.int .i64) ([] : List Int)) []) else [])), (bif b 3 then p3303.2 else []), (bif b 4 then (sg g3403 3 (0, 0) [] (encs (FK.int .i64) ([] : List Int)) []) else [])]) := Mem.pick [0, 1, 2, 3, 4, 5] rfl (Mem.cg (B := [sg g2048 28 (0, 0) [] [(.slice none 0 0), (.slice none 0 0)] [], sg g2042 28 (0, 0) [] [v0x0, v0x1] [], hF, (bif b 3 then [] else (bif b 0 then (sg g3003 3 (0, 0) [] (encs (FK.int .i64) ([] : List Int)) []) else [])), (bif b 3 then p3303.2 else []), (bif b 4 then (sg g3403 3 (0, 0) [] (encs (FK.int .i64) ([] : List Int)) []) else []), []]) (cat_cons (off_ b9 rfl) (cat_cons rfl (cat_cons rfl (cat_cons rfl (cat_cons rfl (cat_cons (off_ b7 rfl) (cat_cons (off_ b7 rfl) rfl))))))) hm)
  refine e_val (i := 6) hbi rfl rfl (v := v0x1) (won rfl) rfl rfl (x_load rfl ty1x26 (ev (t := 8) (v := (.pointer (some ⟨g2042, 1, none⟩))) rfl ((sel_on (p := (5, 8)) rfl b5).trans (y5 b5))) (seg_cell (o' := 0) (j := 1) hm4019 (k := 1) rfl rfl rfl)) ?_
  exact hK _ _ ⟨_, g3003, p3303, g3403, p3703, rfl, y0, y1, y2, y3, y4, y5, fun _ => rfl, y7, y8, H3004, H3304, H3404, H3704, Mem.gc (A := [sg g2048 28 (0, 0) [] [(.slice none 0 0), (.slice none 0 0)] [], sg g2042 28 (0, 0) [] [v0x0, v0x1] [], hF, (bif b 3 then [] else (bif b 0 then (sg g3003 3 (0, 0) [] (encs (FK.int .i64) ([] : List Int)) []) else [])), (bif b 3 then p3303.2 else []), (bif b 4 then (sg g3403 3 (0, 0) [] (encs (FK.int .i64) ([] : List Int)) []) else []), []]) (cat_cons (off_ b9 rfl) (cat_cons rfl (cat_cons rfl (cat_cons rfl (cat_cons rfl (cat_cons (off_ b7 rfl) (cat_cons (off_ b7 rfl) rfl))))))) (Mem.pick [0, 1, 2, 3, 4, 5, 1006] rfl hm4019)⟩
 ·
  intro b a w hI hbi hn hc K hK
  obtain ⟨vs, g3003, p3303, g3403, p3703, ha, y0, y1, y2, y3, y4, y5, y6, y7, y8, H3004, H3304, H3404, H3704, hm⟩ := hI
  subst ha
  have b3 : b 3 = true := hn 3 (da rfl)
  have b4 : b 4 = true := hn 4 (da rfl)
  have b6 : b 6 = true := hn 6 (da rfl)
  have b0 : b 0 = true := hc 3 _ rfl b3 0 (da rfl)
  have b2 : b 2 = true := hc 3 _ rfl b3 2 (da rfl)
  have b5 : b 5 = true := hc 6 _ rfl b6 5 (da rfl)
  have b1 : b 1 = true := hc 2 _ rfl b2 1 (da rfl)
  have b8 : b 8 = false := later (j := 8) hc rfl (i := 7) (da rfl) hbi
  have b9 : b 9 = false := later (j := 9) hc rfl (i := 7) (da rfl) hbi
  have H3004 := H3004 b0
  have H3304 := H3304 b3
  have H3404 := H3404 b4
  have hm4022 : Mem w0 w (cat [sg g2048 28 (0, 0) [] [(.slice none 0 0), (.slice none 0 0)] [], sg g2042 28 (0, 0) [] [v0x0, v0x1] [], hF, p3303.2, (sg g3403 3 (0, 0) [] (encs (FK.int .i64) ([] : List Int)) [])]) := Mem.pick [0, 1, 2, 4, 5] rfl (Mem.cg (B := [sg g2048 28 (0, 0) [] [(.slice none 0 0), (.slice none 0 0)] [], sg g2042 28 (0, 0) [] [v0x0, v0x1] [], hF, [], p3303.2, (sg g3403 3 (0, 0) [] (encs (FK.int .i64) ([] : List Int)) []), []]) (cat_cons (off_ b9 rfl) (cat_cons rfl (cat_cons rfl (cat_cons (on_ b3 rfl) (cat_cons (on_ b3 rfl) (cat_cons (off_ hbi (on_ b4 rfl)) (cat_cons (off_ hbi rfl) rfl))))))) hm)
  refine e_exv (i := 7) hbi rfl rfl (won rfl) rfl rfl (e_append (bytes := 8) rfl slt_26 rfl (ev (t := 7) (v := (.slice (some ⟨g3403, 0, none⟩) 0 0)) rfl ((sel_on (p := (4, 7)) rfl b4).trans (y4 b4))) (ev (t := 9) (v := v0x1) rfl ((sel_on (p := (6, 9)) rfl b6).trans (y6 b6))) H3404 (k := 4) rfl H0x1 (Sub.trans hs (Sub.at_ (k := 2) rfl)) hm4022 hg3701 (len63 hg3701 rfl)) ?_
  rintro p3703 w3705 ⟨H3704, hm3706⟩
  replace hm3706 : Mem w0 w3705 (cat [sg g2048 28 (0, 0) [] [(.slice none 0 0), (.slice none 0 0)] [], sg g2042 28 (0, 0) [] [v0x0, v0x1] [], hF, p3303.2, p3703.2]) := hm3706
  exact hK _ _ ⟨_, g3003, p3303, g3403, p3703, rfl, y0, y1, y2, y3, y4, y5, y6, fun _ => rfl, fun hb => ab b8 hb, fun _ => H3004, fun _ => H3304, fun _ => H3404, fun _ => H3704, Mem.gc (A := [sg g2048 28 (0, 0) [] [(.slice none 0 0), (.slice none 0 0)] [], sg g2042 28 (0, 0) [] [v0x0, v0x1] [], hF, [], p3303.2, [], p3703.2]) (cat_cons (off_ b9 rfl) (cat_cons rfl (cat_cons rfl (cat_cons (on_ b3 rfl) (cat_cons (on_ b3 rfl) (cat_cons (on_ rfl rfl) (cat_cons (on_ rfl rfl) rfl))))))) (Mem.pick [0, 1, 2, 1003, 3, 1005, 4] rfl hm3706)⟩
 ·
  intro b a w hI hbi hn hc K hK
  obtain ⟨vs, g3003, p3303, g3403, p3703, ha, y0, y1, y2, y3, y4, y5, y6, y7, y8, H3004, H3304, H3404, H3704, hm⟩ := hI
  subst ha
  have b3 : b 3 = true := hn 3 (da rfl)
  have b7 : b 7 = true := hn 7 (da rfl)
  have b0 : b 0 = true := hc 3 _ rfl b3 0 (da rfl)
  have b2 : b 2 = true := hc 3 _ rfl b3 2 (da rfl)
  have b4 : b 4 = true := hc 7 _ rfl b7 4 (da rfl)
  have b6 : b 6 = true := hc 7 _ rfl b7 6 (da rfl)
  have b1 : b 1 = true := hc 2 _ rfl b2 1 (da rfl)
  have b5 : b 5 = true := hc 6 _ rfl b6 5 (da rfl)
  have b9 : b 9 = false := later (j := 9) hc rfl (i := 8) (da rfl) hbi
  have H3004 := H3004 b0
  have H3304 := H3304 b3
  have H3404 := H3404 b4
  have H3704 := H3704 b7
  have hm4025 : Mem w0 w (cat [sg g2048 28 (0, 0) [] [(.slice none 0 0), (.slice none 0 0)] [], sg g2042 28 (0, 0) [] [v0x0, v0x1] [], hF, p3303.2, p3703.2]) := Mem.pick [0, 1, 2, 4, 6] rfl (Mem.cg (B := [sg g2048 28 (0, 0) [] [(.slice none 0 0), (.slice none 0 0)] [], sg g2042 28 (0, 0) [] [v0x0, v0x1] [], hF, [], p3303.2, [], p3703.2]) (cat_cons (off_ b9 rfl) (cat_cons rfl (cat_cons rfl (cat_cons (on_ b3 rfl) (cat_cons (on_ b3 rfl) (cat_cons (on_ b7 rfl) (cat_cons (on_ b7 rfl) rfl))))))) hm)
  refine e_val (i := 8) hbi rfl rfl (v := (.agg #[p3303.1, p3703.1])) (won rfl) rfl rfl (x_build (cells := [p3303.1, p3703.1]) (zc := [.slice none 0 0, .slice none 0 0]) (sizes := [(0, 1), (1, 1)]) (ps := [(0, p3303.1), (1, p3703.1)]) rfl zt_28 rfl uf_28 ufz_28 (pmap_lit (pmap_cons (ev (t := 6) (v := p3303.1) rfl ((sel_on (p := (3, 6)) rfl b3).trans (y3 b3))) (pmap_cons (ev (t := 10) (v := p3703.1) rfl ((sel_on (p := (7, 10)) rfl b7).trans (y7 b7))) pmap_nil))) (fill_cons (cs := [p3303.1]) rfl (IsSl.cells (H3304).sl) rfl (fill_cons (cs := [p3703.1]) rfl (IsSl.cells (H3704).sl) rfl fill_nil))) ?_
  exact hK _ _ ⟨_, g3003, p3303, g3403, p3703, rfl, y0, y1, y2, y3, y4, y5, y6, y7, fun _ => rfl, fun _ => H3004, fun _ => H3304, fun _ => H3404, fun _ => H3704, Mem.gc (A := [sg g2048 28 (0, 0) [] [(.slice none 0 0), (.slice none 0 0)] [], sg g2042 28 (0, 0) [] [v0x0, v0x1] [], hF, [], p3303.2, [], p3703.2]) (cat_cons (off_ b9 rfl) (cat_cons rfl (cat_cons rfl (cat_cons (on_ b3 rfl) (cat_cons (on_ b3 rfl) (cat_cons (on_ b7 rfl) (cat_cons (on_ b7 rfl) rfl))))))) (Mem.pick [0, 1, 2, 1003, 3, 1005, 4] rfl hm4025)⟩
 ·
  intro b a w hI hbi hn hc K hK
  obtain ⟨vs, g3003, p3303, g3403, p3703, ha, y0, y1, y2, y3, y4, y5, y6, y7, y8, H3004, H3304, H3404, H3704, hm⟩ := hI
  subst ha
  have b0 : b 0 = true := hn 0 (da rfl)
  have b1 : b 1 = true := hn 1 (da rfl)
  have b2 : b 2 = true := hn 2 (da rfl)
  have b3 : b 3 = true := hn 3 (da rfl)
  have b4 : b 4 = true := hn 4 (da rfl)
  have b5 : b 5 = true := hn 5 (da rfl)
  have b6 : b 6 = true := hn 6 (da rfl)
  have b7 : b 7 = true := hn 7 (da rfl)
  have b8 : b 8 = true := hn 8 (da rfl)
  have H3004 := H3004 b0
  have H3304 := H3304 b3
  have H3404 := H3404 b4
  have H3704 := H3704 b7
  have hm4028 : Mem w0 w (cat [sg g2048 28 (0, 0) [] [(.slice none 0 0), (.slice none 0 0)] [], sg g2042 28 (0, 0) [] [v0x0, v0x1] [], hF, p3303.2, p3703.2]) := Mem.pick [0, 1, 2, 4, 6] rfl (Mem.cg (B := [sg g2048 28 (0, 0) [] [(.slice none 0 0), (.slice none 0 0)] [], sg g2042 28 (0, 0) [] [v0x0, v0x1] [], hF, [], p3303.2, [], p3703.2]) (cat_cons (off_ hbi rfl) (cat_cons rfl (cat_cons rfl (cat_cons (on_ b3 rfl) (cat_cons (on_ b3 rfl) (cat_cons (on_ b7 rfl) (cat_cons (on_ b7 rfl) rfl))))))) hm)
  refine e_exs (i := 9) hbi rfl (won rfl) rfl (e_store (vs := [p3303.1, p3703.1]) (o' := 0) (j := 0) rfl sz_28 (ev (t := 2) (v := (.pointer (some ⟨g2048, 0, none⟩))) rfl ((sel_no rfl).trans rfl)) (ev (t := 11) (v := (.agg #[p3303.1, p3703.1])) rfl ((sel_on (p := (8, 11)) rfl b8).trans (y8 b8))) rfl (one_cons (IsSl.one (H3304).sl) (one_cons (IsSl.one (H3704).sl) one_nil)) hm4028 (k := 0) rfl rfl rfl) ?_
  intro w3901 hm3902
  replace hm3902 : Mem w0 w3901 (cat [sg g2048 28 (0, 0) [] [p3303.1, p3703.1] [], sg g2042 28 (0, 0) [] [v0x0, v0x1] [], hF, p3303.2, p3703.2]) := hm3902
  exact hK _ _ ⟨_, g3003, p3303, g3403, p3703, rfl, y0, y1, y2, y3, y4, y5, y6, y7, y8, fun _ => H3004, fun _ => H3304, fun _ => H3404, fun _ => H3704, Mem.gc (A := [sg g2048 28 (0, 0) [] [p3303.1, p3703.1] [], sg g2042 28 (0, 0) [] [v0x0, v0x1] [], hF, [], p3303.2, [], p3703.2]) (cat_cons (on_ rfl rfl) (cat_cons rfl (cat_cons rfl (cat_cons (on_ b3 rfl) (cat_cons (on_ b3 rfl) (cat_cons (on_ b7 rfl) (cat_cons (on_ b7 rfl) rfl))))))) (Mem.pick [0, 1, 2, 1003, 3, 1005, 4] rfl hm3902)⟩
 intro b a w hall hI
 obtain ⟨vs, g3003, p3303, g3403, p3703, ha, y0, y1, y2, y3, y4, y5, y6, y7, y8, H3004, H3304, H3404, H3704, hm⟩ := hI
 have b0 : b 0 = true := hall 0 rfl
 have b1 : b 1 = true := hall 1 rfl
 have b2 : b 2 = true := hall 2 rfl
 have b3 : b 3 = true := hall 3 rfl
 have b4 : b 4 = true := hall 4 rfl
 have b5 : b 5 = true := hall 5 rfl
 have b6 : b 6 = true := hall 6 rfl
 have b7 : b 7 = true := hall 7 rfl
 have b8 : b 8 = true := hall 8 rfl
 have b9 : b 9 = true := hall 9 rfl
 replace H3004 := H3004 b0
 replace H3304 := H3304 b3
 replace H3404 := H3404 b4
 replace H3704 := H3704 b7
 have hm4031 : Mem w0 w (cat [sg g2048 28 (0, 0) [] [p3303.1, p3703.1] [], sg g2042 28 (0, 0) [] [v0x0, v0x1] [], hF, p3303.2, p3703.2]) := Mem.pick [0, 1, 2, 4, 6] rfl (Mem.cg (B := [sg g2048 28 (0, 0) [] [p3303.1, p3703.1] [], sg g2042 28 (0, 0) [] [v0x0, v0x1] [], hF, [], p3303.2, [], p3703.2]) (cat_cons (on_ b9 rfl) (cat_cons rfl (cat_cons rfl (cat_cons (on_ b3 rfl) (cat_cons (on_ b3 rfl) (cat_cons (on_ b7 rfl) (cat_cons (on_ b7 rfl) rfl))))))) hm)
 obtain ⟨f3000, ha', z3000x2⟩ : ∃ f' : Nat → Value, a = fr 12 f' ∧ f' 2 = (.pointer (some ⟨g2048, 0, none⟩)) := ⟨_, ha, (sel_no rfl).trans rfl⟩
 subst ha'
 have hm4041 : Mem w0 w (cat [sg g2048 28 (0, 0) [] [p3303.1, p3703.1] [], hF, p3303.2, p3703.2]) := Mem.pick [0, 2, 3, 4] rfl hm4031
 refine nx ?_
 refine wp_ret ?_
 obtain rfl := Option.some.inj he
 refine r_ret (v := (.agg #[p3303.1, p3703.1])) (rv_one rfl (RVs.cell (cs := [p3303.1, p3703.1]) rfl z3000x2 tyN_28 (seg_cells (o' := 0) (j := 0) hm4041 (k := 0) rfl rfl rfl) RVs.nil)) rfl ?_
 exact ⟨p3303.1, p3303.2, p3703.1, p3703.2, rfl, H3304, H3704, Mem.pick [2, 3, 1] rfl hm4041⟩
def impl_PoolStep (F : Nat) (a0 : impl_Pool) (a1 : impl_PoolAct) : Option (impl_Pool × impl_PoolReply × Int) := (impl_PoolOK F a0).bind fun r114 => (bif (!r114) then (some ((impl_Pool.mk ([] : List Int) ([] : List Int)), (impl_PoolReply.mk 0 0), 1)) else (impl_clonePool a0).bind fun r125 => (impl_Pool_act F r125 a1).bind fun r145 => (some (r145.2, r145.1, 0)))
set_option maxHeartbeats 400000 in
set_option maxRecDepth 100000 in
theorem impl_PoolStep_ok (F : Nat) {w0 w : World} {hR hF : Hp} {v0x0 : Value} {v0x1 : Value} (a0 : impl_Pool) (a1 : impl_PoolAct) {r : (impl_Pool × impl_PoolReply × Int)} (H0x0 : RdF w0 (FK.int .i64) v0x0 a0.Free hR) (H0x1 : RdF w0 (FK.int .i64) v0x1 a0.Owner hR) (hs : Sub hR hF) (hm : Mem w0 w (cat [hF])) (he : impl_PoolStep F a0 a1 = some r) :
    Calls Try.prog 14 #[(.agg #[v0x0, v0x1]), (.agg #[(.int .i64 a1.Kind), (.int .i64 a1.Owner), (.int .i64 a1.To), (.int .i64 a1.Buffer)])] w (fun e w' => ∃ (v'0 : Value) (h'0 : Hp) (v'1 : Value) (h'1 : Hp), e = .returned (.tuple #[(.agg #[v'0, v'1]), (.agg #[(.int .i64 r.2.1.Code), (.int .i64 r.2.1.Buffer)]), (.int .i64 r.2.2)]) ∧ OwF 3 (FK.int .i64) v'0 r.1.Free h'0 ∧ OwF 3 (FK.int .i64) v'1 r.1.Owner h'1 ∧ Mem w0 w' (cat [h'0, h'1, hF])) := by
 refine calls_fr (n := 20) Try.func14 rfl rfl rfl ?_
 unfold impl_PoolStep at he
 refine wp_seq ?_
 refine wp_region_lit ?_
 refine s_exv (won rfl) rfl rfl (e_box (vs := [v0x0, v0x1]) rfl (ev (t := 0) rfl rfl) rfl hm) ?_
 rintro g85 w86 hm87
 refine s_exv (won rfl) rfl rfl (e_box (vs := [(.int .i64 a1.Kind), (.int .i64 a1.Owner), (.int .i64 a1.To), (.int .i64 a1.Buffer)]) rfl (ev (t := 1) rfl rfl) rfl hm87) ?_
 rintro g89 w90 hm91
 refine s_exv (won rfl) rfl rfl (e_alloc (vs := [(.slice none 0 0), (.slice none 0 0)]) rfl zt_28 rfl hm91) ?_
 rintro g95 w96 hm97
 refine s_exv (won rfl) rfl rfl (e_alloc (vs := [(.int .i64 0), (.int .i64 0)]) rfl zt_35 rfl hm97) ?_
 rintro g99 w100 hm101
 refine s_val (v := (.int .i64 0)) (won rfl) rfl rfl (x_assign rfl rfl) ?_
 refine wpList_nil ?_
 refine nx ?_
 refine wp_seq ?_
 refine wp_seq ?_
 obtain ⟨r114, hr114, he⟩ := bindE he
 refine wp_region_lit ?_
 refine s_val (v := (.agg #[v0x0, v0x1])) (won rfl) rfl rfl (x_loadN (vs := [v0x0, v0x1]) rfl tyN_28 (ev (t := 2) rfl rfl) (seg_cells (o' := 0) (j := 0) hm101 (k := 3) rfl rfl rfl)) ?_
 refine s_call (won rfl) rfl rfl (x_call rfl rfl cl_17 (map_lit (map_cons (ev (t := 9) rfl rfl) map_nil))) (impl_PoolOK_ok F (hR := (cat [hR])) (hF := cat [sg g99 35 (0, 0) [] [(.int .i64 0), (.int .i64 0)] [], sg g95 28 (0, 0) [] [(.slice none 0 0), (.slice none 0 0)] [], sg g89 39 (0, 0) [] [(.int .i64 a1.Kind), (.int .i64 a1.Owner), (.int .i64 a1.To), (.int .i64 a1.Buffer)] [], sg g85 28 (0, 0) [] [v0x0, v0x1] [], hF]) a0 (H0x0.mono (Sub.at_ (k := 0) rfl)) (H0x1.mono (Sub.at_ (k := 0) rfl)) (subc (Sub.trans hs (Sub.at_ (k := 4) rfl)) subn) (Mem.one hm101) hr114) ?_
 rintro e w115 ⟨rfl, hm116⟩
 refine ⟨_, rfl, ?_⟩
 replace hm116 : Mem w0 w115 (cat [sg g99 35 (0, 0) [] [(.int .i64 0), (.int .i64 0)] [], sg g95 28 (0, 0) [] [(.slice none 0 0), (.slice none 0 0)] [], sg g89 39 (0, 0) [] [(.int .i64 a1.Kind), (.int .i64 a1.Owner), (.int .i64 a1.To), (.int .i64 a1.Buffer)] [], sg g85 28 (0, 0) [] [v0x0, v0x1] [], hF]) := Mem.un hm116
 refine s_val (v := (.bool (!r114))) (won rfl) rfl rfl (x_not rfl (ev (t := 10) rfl rfl)) ?_
 refine wpList_nil ?_
 refine nx ?_
 rcases Bool.eq_false_or_eq_true ((!r114)) with hb117 | hb117
 ·
  replace he := bifT he hb117
  refine c_true rfl (p := (!r114)) rfl rfl hb117 ?_
  refine wp_seq ?_
  refine wp_region_lit ?_
  refine s_val (v := (.agg #[(.slice none 0 0), (.slice none 0 0)])) (won rfl) rfl rfl (x_build (cells := [(.slice none 0 0), (.slice none 0 0)]) (zc := [.slice none 0 0, .slice none 0 0]) (sizes := [(0, 1), (1, 1)]) (ps := []) rfl zt_28 rfl uf_28 ufz_28 (pmap_lit pmap_nil) fill_nil) ?_
  refine s_val (v := (.agg #[(.int .i64 0), (.int .i64 0)])) (won rfl) rfl rfl (x_build (cells := [(.int .i64 0), (.int .i64 0)]) (zc := [.int .i64 0, .int .i64 0]) (sizes := [(0, 1), (1, 1)]) (ps := []) rfl zt_35 rfl uf_35 ufz_35 (pmap_lit pmap_nil) fill_nil) ?_
  refine s_exs (won rfl) rfl (e_store (vs := [(.slice none 0 0), (.slice none 0 0)]) (o' := 0) (j := 0) rfl sz_28 (ev (t := 4) rfl rfl) (ev (t := 12) rfl rfl) rfl rfl hm116 (k := 1) rfl rfl rfl) ?_
  intro w120 hm121
  replace hm121 : Mem w0 w120 (cat [sg g99 35 (0, 0) [] [(.int .i64 0), (.int .i64 0)] [], sg g95 28 (0, 0) [] [(.slice none 0 0), (.slice none 0 0)] [], sg g89 39 (0, 0) [] [(.int .i64 a1.Kind), (.int .i64 a1.Owner), (.int .i64 a1.To), (.int .i64 a1.Buffer)] [], sg g85 28 (0, 0) [] [v0x0, v0x1] [], hF]) := hm121
  refine s_exs (won rfl) rfl (e_store (vs := [(.int .i64 0), (.int .i64 0)]) (o' := 0) (j := 0) rfl sz_35 (ev (t := 5) rfl rfl) (ev (t := 13) rfl rfl) rfl rfl hm121 (k := 0) rfl rfl rfl) ?_
  intro w122 hm123
  replace hm123 : Mem w0 w122 (cat [sg g99 35 (0, 0) [] [(.int .i64 0), (.int .i64 0)] [], sg g95 28 (0, 0) [] [(.slice none 0 0), (.slice none 0 0)] [], sg g89 39 (0, 0) [] [(.int .i64 a1.Kind), (.int .i64 a1.Owner), (.int .i64 a1.To), (.int .i64 a1.Buffer)] [], sg g85 28 (0, 0) [] [v0x0, v0x1] [], hF]) := hm123
  refine s_val (v := (.int .i64 1)) (won rfl) rfl rfl (x_assign rfl rfl) ?_
  refine wpList_nil ?_
  have hm124 : Mem w0 w122 (cat [sg g99 35 (0, 0) [] [(.int .i64 0), (.int .i64 0)] [], sg g95 28 (0, 0) [] [(.slice none 0 0), (.slice none 0 0)] [], hF]) := Mem.pick [0, 1, 4] rfl hm123
  refine nx ?_
  refine wp_ret ?_
  refine xr ?_
  obtain rfl := Option.some.inj he
  refine r_ret (v := (.tuple #[(.agg #[(.slice none 0 0), (.slice none 0 0)]), (.agg #[(.int .i64 0), (.int .i64 0)]), (.int .i64 1)])) (rv_list rfl rfl (RVs.cell (cs := [(.slice none 0 0), (.slice none 0 0)]) rfl rfl tyN_28 (seg_cells (o' := 0) (j := 0) hm124 (k := 1) rfl rfl rfl) (RVs.cell (cs := [(.int .i64 0), (.int .i64 0)]) rfl rfl tyN_35 (seg_cells (o' := 0) (j := 0) hm124 (k := 0) rfl rfl rfl) (RVs.tmp (v := (.int .i64 1)) rfl rfl RVs.nil)))) rfl ?_
  exact ⟨(.slice none 0 0), [], (.slice none 0 0), [], rfl, (OwF.nil 3 (FK.int .i64)), (OwF.nil 3 (FK.int .i64)), Mem.pick [1000, 1001, 2] rfl hm124⟩
 ·
  replace he := bifF he hb117
  refine c_false rfl (p := (!r114)) rfl rfl hb117 ?_
  refine wp_skip ?_
  refine nx ?_
  refine wp_seq ?_
  obtain ⟨r125, hr125, he⟩ := bindE he
  refine wp_region_lit ?_
  refine s_val (v := (.agg #[v0x0, v0x1])) (won rfl) rfl rfl (x_loadN (vs := [v0x0, v0x1]) rfl tyN_28 (ev (t := 2) rfl rfl) (seg_cells (o' := 0) (j := 0) hm116 (k := 3) rfl rfl rfl)) ?_
  refine s_call (won rfl) rfl rfl (x_call rfl rfl cl_63 (map_lit (map_cons (ev (t := 14) rfl rfl) map_nil))) (impl_clonePool_ok (hR := (cat [hR])) (hF := cat [sg g99 35 (0, 0) [] [(.int .i64 0), (.int .i64 0)] [], sg g95 28 (0, 0) [] [(.slice none 0 0), (.slice none 0 0)] [], sg g89 39 (0, 0) [] [(.int .i64 a1.Kind), (.int .i64 a1.Owner), (.int .i64 a1.To), (.int .i64 a1.Buffer)] [], sg g85 28 (0, 0) [] [v0x0, v0x1] [], hF]) a0 (H0x0.mono (Sub.at_ (k := 0) rfl)) (H0x1.mono (Sub.at_ (k := 0) rfl)) (subc (Sub.trans hs (Sub.at_ (k := 4) rfl)) subn) (Mem.one hm116) hr125) ?_
  rintro e w134 ⟨v127, h129, v131, h133, rfl, H128, H132, hm135⟩
  refine ⟨_, rfl, ?_⟩
  replace hm135 : Mem w0 w134 (cat [h129, h133, sg g99 35 (0, 0) [] [(.int .i64 0), (.int .i64 0)] [], sg g95 28 (0, 0) [] [(.slice none 0 0), (.slice none 0 0)] [], sg g89 39 (0, 0) [] [(.int .i64 a1.Kind), (.int .i64 a1.Owner), (.int .i64 a1.To), (.int .i64 a1.Buffer)] [], sg g85 28 (0, 0) [] [v0x0, v0x1] [], hF]) := Mem.ung [h129, h133] [sg g99 35 (0, 0) [] [(.int .i64 0), (.int .i64 0)] [], sg g95 28 (0, 0) [] [(.slice none 0 0), (.slice none 0 0)] [], sg g89 39 (0, 0) [] [(.int .i64 a1.Kind), (.int .i64 a1.Owner), (.int .i64 a1.To), (.int .i64 a1.Buffer)] [], sg g85 28 (0, 0) [] [v0x0, v0x1] [], hF] hm135
  refine s_exv (won rfl) rfl rfl (e_alloc (vs := [(.slice none 0 0), (.slice none 0 0)]) rfl zt_28 rfl hm135) ?_
  rintro g138 w139 hm140
  refine s_exs (won rfl) rfl (e_store (vs := [v127, v131]) (o' := 0) (j := 0) rfl sz_28 (ev (t := 7) rfl rfl) (ev (t := 15) rfl rfl) rfl (one_cons (IsSl.one (H128).sl) (one_cons (IsSl.one (H132).sl) one_nil)) hm140 (k := 0) rfl rfl rfl) ?_
  intro w142 hm143
  replace hm143 : Mem w0 w142 (cat [sg g138 28 (0, 0) [] [v127, v131] [], h129, h133, sg g99 35 (0, 0) [] [(.int .i64 0), (.int .i64 0)] [], sg g95 28 (0, 0) [] [(.slice none 0 0), (.slice none 0 0)] [], sg g89 39 (0, 0) [] [(.int .i64 a1.Kind), (.int .i64 a1.Owner), (.int .i64 a1.To), (.int .i64 a1.Buffer)] [], sg g85 28 (0, 0) [] [v0x0, v0x1] [], hF]) := hm143
  refine wpList_nil ?_
  have hm144 : Mem w0 w142 (cat [sg g138 28 (0, 0) [] [v127, v131] [], h129, h133, sg g99 35 (0, 0) [] [(.int .i64 0), (.int .i64 0)] [], sg g95 28 (0, 0) [] [(.slice none 0 0), (.slice none 0 0)] [], sg g89 39 (0, 0) [] [(.int .i64 a1.Kind), (.int .i64 a1.Owner), (.int .i64 a1.To), (.int .i64 a1.Buffer)] [], hF]) := Mem.pick [0, 1, 2, 3, 4, 5, 7] rfl hm143
  refine nx ?_
  refine wp_seq ?_
  obtain ⟨r145, hr145, he⟩ := bindE he
  refine wp_region_lit ?_
  refine s_val (v := (.agg #[(.int .i64 a1.Kind), (.int .i64 a1.Owner), (.int .i64 a1.To), (.int .i64 a1.Buffer)])) (won rfl) rfl rfl (x_loadN (vs := [(.int .i64 a1.Kind), (.int .i64 a1.Owner), (.int .i64 a1.To), (.int .i64 a1.Buffer)]) rfl tyN_39 (ev (t := 3) rfl rfl) (seg_cells (o' := 0) (j := 0) hm144 (k := 5) rfl rfl rfl)) ?_
  refine s_call (won rfl) rfl rfl (x_call rfl rfl cl_59 (map_lit (map_cons (ev (t := 7) rfl rfl) (map_cons (ev (t := 16) rfl rfl) map_nil)))) (impl_Pool_act_ok F (hR := (cat [])) (hF := cat [sg g99 35 (0, 0) [] [(.int .i64 0), (.int .i64 0)] [], sg g95 28 (0, 0) [] [(.slice none 0 0), (.slice none 0 0)] [], sg g89 39 (0, 0) [] [(.int .i64 a1.Kind), (.int .i64 a1.Owner), (.int .i64 a1.To), (.int .i64 a1.Buffer)] [], hF]) r125 a1 H128 H132 rfl (Mem.grp [sg g138 28 (0, 0) [] [v127, v131] [], h129, h133] [sg g99 35 (0, 0) [] [(.int .i64 0), (.int .i64 0)] [], sg g95 28 (0, 0) [] [(.slice none 0 0), (.slice none 0 0)] [], sg g89 39 (0, 0) [] [(.int .i64 a1.Kind), (.int .i64 a1.Owner), (.int .i64 a1.To), (.int .i64 a1.Buffer)] [], hF] (Mem.pick [0, 1, 2, 3, 4, 5, 6] rfl hm144)) hr145) ?_
  rintro e w154 ⟨v147, h149, v151, h153, rfl, H148, H152, hm155⟩
  refine ⟨_, rfl, ?_⟩
  replace hm155 : Mem w0 w154 (cat [sg g138 28 (0, 0) [] [v147, v151] [], h149, h153, sg g99 35 (0, 0) [] [(.int .i64 0), (.int .i64 0)] [], sg g95 28 (0, 0) [] [(.slice none 0 0), (.slice none 0 0)] [], sg g89 39 (0, 0) [] [(.int .i64 a1.Kind), (.int .i64 a1.Owner), (.int .i64 a1.To), (.int .i64 a1.Buffer)] [], hF]) := Mem.ung [sg g138 28 (0, 0) [] [v147, v151] [], h149, h153] [sg g99 35 (0, 0) [] [(.int .i64 0), (.int .i64 0)] [], sg g95 28 (0, 0) [] [(.slice none 0 0), (.slice none 0 0)] [], sg g89 39 (0, 0) [] [(.int .i64 a1.Kind), (.int .i64 a1.Owner), (.int .i64 a1.To), (.int .i64 a1.Buffer)] [], hF] hm155
  refine s_exv (won rfl) rfl rfl (e_alloc (vs := [(.int .i64 0), (.int .i64 0)]) rfl zt_35 rfl hm155) ?_
  rintro g156 w157 hm158
  refine s_exs (won rfl) rfl (e_store (vs := [(.int .i64 r145.1.Code), (.int .i64 r145.1.Buffer)]) (o' := 0) (j := 0) rfl sz_35 (ev (t := 8) rfl rfl) (ev (t := 17) rfl rfl) rfl rfl hm158 (k := 0) rfl rfl rfl) ?_
  intro w160 hm161
  replace hm161 : Mem w0 w160 (cat [sg g156 35 (0, 0) [] [(.int .i64 r145.1.Code), (.int .i64 r145.1.Buffer)] [], sg g138 28 (0, 0) [] [v147, v151] [], h149, h153, sg g99 35 (0, 0) [] [(.int .i64 0), (.int .i64 0)] [], sg g95 28 (0, 0) [] [(.slice none 0 0), (.slice none 0 0)] [], sg g89 39 (0, 0) [] [(.int .i64 a1.Kind), (.int .i64 a1.Owner), (.int .i64 a1.To), (.int .i64 a1.Buffer)] [], hF]) := hm161
  refine wpList_nil ?_
  have hm162 : Mem w0 w160 (cat [sg g156 35 (0, 0) [] [(.int .i64 r145.1.Code), (.int .i64 r145.1.Buffer)] [], sg g138 28 (0, 0) [] [v147, v151] [], h149, h153, sg g99 35 (0, 0) [] [(.int .i64 0), (.int .i64 0)] [], sg g95 28 (0, 0) [] [(.slice none 0 0), (.slice none 0 0)] [], hF]) := Mem.pick [0, 1, 2, 3, 4, 5, 7] rfl hm161
  refine nx ?_
  refine wp_seq ?_
  refine wp_fit [(0, 1), (1, 0), (2, 2), (3, 2), (4, 1)] (fun w' => Mem w0 w' (cat [sg g156 35 (0, 0) [] [(.int .i64 r145.1.Code), (.int .i64 r145.1.Buffer)] [], sg g138 28 (0, 0) [] [v147, v151] [], h149, h153, hF])) mixed (by kernel_rfl) (Mem.drew (Mem.pick [0, 1, 2, 3, 6] rfl hm162)) ?_
  have hm163 := Mem.drew hm162
  refine z_r (v := (.agg #[v147, v151])) rfl (won rfl) rfl rfl ((x_loadN (vs := [v147, v151]) rfl tyN_28 (ev (t := 7) rfl rfl) (seg_cells (o' := 0) (j := 0) hm163 (k := 1) rfl rfl rfl))) ?_
  refine z_q (v := (.agg #[(.int .i64 r145.1.Code), (.int .i64 r145.1.Buffer)])) rfl (won rfl) rfl rfl (fun wq hq => (x_loadN (vs := [(.int .i64 r145.1.Code), (.int .i64 r145.1.Buffer)]) rfl tyN_35 (ev (t := 8) rfl rfl) (seg_cells (o' := 0) (j := 0) hq (k := 0) rfl rfl rfl))) ?_
  refine z_exs rfl (won rfl) rfl (e_store (vs := [v147, v151]) (o' := 0) (j := 0) rfl sz_28 (ev (t := 4) rfl rfl) (ev (t := 18) rfl rfl) rfl (one_cons (IsSl.one (H148).sl) (one_cons (IsSl.one (H152).sl) one_nil)) hm163 (k := 5) rfl rfl rfl) ?_
  intro w164 hm165
  replace hm165 : Mem w0 w164 (cat [sg g156 35 (0, 0) [] [(.int .i64 r145.1.Code), (.int .i64 r145.1.Buffer)] [], sg g138 28 (0, 0) [] [v147, v151] [], h149, h153, sg g99 35 (0, 0) [] [(.int .i64 0), (.int .i64 0)] [], sg g95 28 (0, 0) [] [v147, v151] [], hF]) := hm165
  refine ⟨Mem.pick [0, 1, 2, 3, 6] rfl hm165, ?_⟩
  refine z_exs rfl (won rfl) rfl (e_store (vs := [(.int .i64 r145.1.Code), (.int .i64 r145.1.Buffer)]) (o' := 0) (j := 0) rfl sz_35 (ev (t := 5) rfl rfl) (ev (t := 19) rfl rfl) rfl rfl hm165 (k := 4) rfl rfl rfl) ?_
  intro w166 hm167
  replace hm167 : Mem w0 w166 (cat [sg g156 35 (0, 0) [] [(.int .i64 r145.1.Code), (.int .i64 r145.1.Buffer)] [], sg g138 28 (0, 0) [] [v147, v151] [], h149, h153, sg g99 35 (0, 0) [] [(.int .i64 r145.1.Code), (.int .i64 r145.1.Buffer)] [], sg g95 28 (0, 0) [] [v147, v151] [], hF]) := hm167
  refine ⟨Mem.pick [0, 1, 2, 3, 6] rfl hm167, ?_⟩
  refine z_r (v := (.int .i64 0)) rfl (won rfl) rfl rfl ((x_assign rfl rfl)) ?_
  refine z_nil ?_
  have hm168 : Mem w0 w166 (cat [h149, h153, sg g99 35 (0, 0) [] [(.int .i64 r145.1.Code), (.int .i64 r145.1.Buffer)] [], sg g95 28 (0, 0) [] [v147, v151] [], hF]) := Mem.pick [2, 3, 4, 5, 6] rfl hm167
  refine nx ?_
  refine wp_ret ?_
  obtain rfl := Option.some.inj he
  refine r_ret (v := (.tuple #[(.agg #[v147, v151]), (.agg #[(.int .i64 r145.1.Code), (.int .i64 r145.1.Buffer)]), (.int .i64 0)])) (rv_list rfl rfl (RVs.cell (cs := [v147, v151]) rfl rfl tyN_28 (seg_cells (o' := 0) (j := 0) hm168 (k := 3) rfl rfl rfl) (RVs.cell (cs := [(.int .i64 r145.1.Code), (.int .i64 r145.1.Buffer)]) rfl rfl tyN_35 (seg_cells (o' := 0) (j := 0) hm168 (k := 2) rfl rfl rfl) (RVs.tmp (v := (.int .i64 0)) rfl rfl RVs.nil)))) rfl ?_
  exact ⟨v147, h149, v151, h153, rfl, H148, H152, Mem.pick [0, 1, 4] rfl hm168⟩
def laws_has_l1 (F : Nat) (a0 : (List Int)) (a1 : Int) : Nat → Int → Option (Fl (Bool) (Unit))
  | 0, _ => none
  | k + 1, s109 => (bif (decide (s109 < (a0.length : Int))) then gd ((0 : Int) ≤ s109 ∧ s109 < (a0.length : Int)) ((bif (decide ((ix a0 s109) = a1)) then (some (Fl.out true)) else laws_has_l1 F a0 a1 k (IntKind.wrap .i64 (s109 + 1)))) else (some (Fl.go ())))
def laws_has (F : Nat) (a0 : (List Int)) (a1 : Int) : Option (Bool) := (laws_has_l1 F a0 a1 F 0 : Option (Fl (Bool) (Unit))).bind fun l95 => l95.on fun (s94 : (Unit)) => (some false)
set_option maxHeartbeats 400000 in
set_option maxRecDepth 100000 in
theorem laws_has_ok (F : Nat) {w0 w : World} {hR hF : Hp} {v0x0 : Value} (a0 : (List Int)) (a1 : Int) {r : (Bool)} (H0x0 : RdF w0 (FK.int .i64) v0x0 a0 hR) (hs : Sub hR hF) (hm : Mem w0 w (cat [hF])) (he : laws_has F a0 a1 = some r) :
    Calls Try.prog 15 #[v0x0, (.int .i64 a1)] w (fun e w' => e = .returned (.bool r) ∧ Mem w0 w' (cat [hF])) := by
 refine calls_fr (n := 18) Try.func15 rfl rfl rfl ?_
 unfold laws_has at he
 refine wp_seq ?_
 refine wp_region_lit ?_
 refine s_val (v := (.bool false)) (won rfl) rfl rfl (x_assign rfl rfl) ?_
 refine wpList_nil ?_
 refine nx ?_
 obtain ⟨l95, hT97, hk96⟩ := bindE he
 replace he := hT97
 refine wp_seqJ (fun a w => ∃ (s94 : (Unit)) (f : Nat → Value), l95 = Fl.go s94 ∧ a = fr 18 f ∧ Mem w0 w (cat [hF])) ?_ ?_
 ·
  refine wp_seq ?_
  refine wp_region_lit ?_
  refine s_val (v := (.int .i64 0)) (won rfl) rfl rfl (x_assign rfl rfl) ?_
  refine wpList_nil ?_
  refine nx ?_
  refine wp_block ?_
  refine wp_fuel (I := fun k => fun a w => ∃ (s109 : Int) (f : Nat → Value), laws_has_l1 F a0 a1 k s109 = some l95 ∧ a = fr 18 f ∧ f 0 = v0x0 ∧ f 1 = (.int .i64 a1) ∧ f 5 = (.int .i64 s109) ∧ Mem w0 w (cat [hF])) F _ _ ⟨0, _, he, rfl, rfl, rfl, rfl, Mem.pick [0] rfl hm⟩ ?_ ?_
  ·
   rintro a w ⟨s109, f, he, rfl, q107, q108, q110, hm118⟩
   rw [laws_has_l1] at he; exact none_no he
  ·
   rintro k a w ⟨s109, f, he, rfl, q107, q108, q110, hm120⟩
   rw [laws_has_l1] at he
   refine wp_seq ?_
   refine wp_seq ?_
   refine wp_region_lit ?_
   refine s_val (v := (.int .i64 s109)) (won rfl) rfl rfl (x_move rfl (ev (t := 5) (v := (.int .i64 s109)) rfl q110)) ?_
   refine s_val (v := v0x0) (won rfl) rfl rfl (x_move rfl (ev (t := 0) (v := v0x0) rfl q107)) ?_
   refine s_val (v := (.int .i64 (a0.length : Int))) (won rfl) rfl rfl (x_len rfl slt_26 (ev (t := 7) rfl rfl) (H0x0).sl) ?_
   refine s_val (v := (.bool (decide (s109 < (a0.length : Int))))) (won rfl) rfl rfl (x_lss rfl (ev (t := 6) rfl rfl) (ev (t := 8) rfl rfl)) ?_
   refine wpList_nil ?_
   refine nx ?_
   rcases Bool.eq_false_or_eq_true ((decide (s109 < (a0.length : Int)))) with hb122 | hb122
   ·
    replace he := bifT he hb122
    refine c_true rfl (p := (decide (s109 < (a0.length : Int)))) rfl rfl hb122 ?_
    refine wp_skip ?_
    refine nx ?_
    refine wp_seq ?_
    refine wp_block ?_
    refine wp_seq ?_
    obtain ⟨hg125, he⟩ := gdE he
    refine wp_region_lit ?_
    refine s_val (v := v0x0) (won rfl) rfl rfl (x_move rfl (ev (t := 0) (v := v0x0) rfl q107)) ?_
    refine s_val (v := (.int .i64 s109)) (won rfl) rfl rfl (x_move rfl (ev (t := 5) (v := (.int .i64 s109)) rfl q110)) ?_
    refine s_val (v := (.pointer (some ((slA v0x0).add (Int.toNat s109 * 1))))) (won rfl) rfl rfl (x_index (d := (FK.int .i64)) rfl slt_26 (ev (t := 12) rfl rfl) (ev (t := 13) rfl rfl) H0x0 hg125.1 hg125.2) ?_
    refine s_val (v := (.int .i64 (ix a0 s109))) (won rfl) rfl rfl (x_load rfl ty1x3 (ev (t := 14) rfl rfl) (RdF.cell0 H0x0 hm120 (Sub.trans hs (Sub.at_ (k := 0) rfl)) hg125.1 hg125.2 rfl)) ?_
    refine s_val (v := (.int .i64 a1)) (won rfl) rfl rfl (x_move rfl (ev (t := 1) (v := (.int .i64 a1)) rfl q108)) ?_
    refine s_val (v := (.bool (decide ((ix a0 s109) = a1)))) (won rfl) rfl rfl (x_eql rfl (ev (t := 15) rfl rfl) (ev (t := 16) rfl rfl)) ?_
    refine wpList_nil ?_
    refine nx ?_
    rcases Bool.eq_false_or_eq_true ((decide ((ix a0 s109) = a1))) with hb126 | hb126
    ·
     replace he := bifT he hb126
     refine c_true rfl (p := (decide ((ix a0 s109) = a1))) rfl rfl hb126 ?_
     refine wp_seq ?_
     refine wp_region_lit ?_
     refine s_val (v := (.bool true)) (won rfl) rfl rfl (x_assign rfl rfl) ?_
     refine wpList_nil ?_
     refine nx ?_
     refine wp_ret ?_
     refine rb ?_
     refine xr ?_
     refine xr ?_
     refine rb ?_
     refine xr ?_
     obtain rfl := Option.some.inj he
     replace he := outE hk96
     obtain rfl := Option.some.inj he
     refine r_ret (v := (.bool true)) (rv_one rfl (RVs.tmp (v := (.bool true)) rfl rfl RVs.nil)) rfl ?_
     exact ⟨rfl, Mem.pick [0] rfl hm120⟩
    ·
     replace he := bifF he hb126
     refine c_false rfl (p := (decide ((ix a0 s109) = a1))) rfl rfl hb126 ?_
     refine wp_skip ?_
     refine nb ?_
     refine nx ?_
     refine wp_region_lit ?_
     refine s_val (v := (.int .i64 s109)) (won rfl) rfl rfl (x_move rfl (ev (t := 5) (v := (.int .i64 s109)) rfl q110)) ?_
     refine s_val (v := (.int .i64 (IntKind.wrap .i64 (s109 + 1)))) (won rfl) rfl rfl (x_add rfl (ev (t := 10) rfl rfl) rfl) ?_
     refine s_val (v := (.int .i64 (IntKind.wrap .i64 (s109 + 1)))) (won rfl) rfl rfl (x_assign rfl (ev (t := 11) rfl rfl)) ?_
     refine wpList_nil ?_
     refine nx ?_
     exact ⟨(IntKind.wrap .i64 (s109 + 1)), _, he, rfl, q107, q108, rfl, Mem.pick [0] rfl hm120⟩
   ·
    replace he := bifF he hb122
    refine c_false rfl (p := (decide (s109 < (a0.length : Int)))) rfl rfl hb122 ?_
    refine wp_exit ?_
    refine xs ?_
    refine xs ?_
    refine xb ?_
    refine nx ?_
    obtain rfl := Option.some.inj he
    exact ⟨(), _, rfl, rfl, Mem.pick [0] rfl hm120⟩
 ·
  rintro a w ⟨s94, f, rfl, rfl, hm128⟩
  replace he := goE hk96
  refine wp_seq ?_
  refine wp_region_lit ?_
  refine s_val (v := (.bool false)) (won rfl) rfl rfl (x_assign rfl rfl) ?_
  refine wpList_nil ?_
  refine nx ?_
  refine wp_ret ?_
  obtain rfl := Option.some.inj he
  refine r_ret (v := (.bool false)) (rv_one rfl (RVs.tmp (v := (.bool false)) rfl rfl RVs.nil)) rfl ?_
  exact ⟨rfl, Mem.pick [0] rfl hm128⟩
def impl_PoolHeld (F : Nat) (a0 : impl_Pool) (a1 : Int) : Option ((List Int) × Int) := (impl_PoolOK F a0).bind fun r49 => (bif (!r49) then (some (([] : List Int), 1)) else (impl_isOwner a1).bind fun r61 => (bif (!r61) then (some (([] : List Int), 4)) else (impl_Pool_held F a0 a1).bind fun r67 => (some (r67, 0))))
set_option maxHeartbeats 400000 in
set_option maxRecDepth 100000 in
theorem impl_PoolHeld_ok (F : Nat) {w0 w : World} {hR hF : Hp} {v0x0 : Value} {v0x1 : Value} (a0 : impl_Pool) (a1 : Int) {r : ((List Int) × Int)} (H0x0 : RdF w0 (FK.int .i64) v0x0 a0.Free hR) (H0x1 : RdF w0 (FK.int .i64) v0x1 a0.Owner hR) (hs : Sub hR hF) (hm : Mem w0 w (cat [hF])) (he : impl_PoolHeld F a0 a1 = some r) :
    Calls Try.prog 16 #[(.agg #[v0x0, v0x1]), (.int .i64 a1)] w (fun e w' => ∃ (v'0 : Value) (h'0 : Hp), e = .returned (.tuple #[v'0, (.int .i64 r.2)]) ∧ OwF 3 (FK.int .i64) v'0 r.1 h'0 ∧ Mem w0 w' (cat [h'0, hF])) := by
 refine calls_fr (n := 14) Try.func16 rfl rfl rfl ?_
 unfold impl_PoolHeld at he
 refine wp_seq ?_
 refine wp_region_lit ?_
 refine s_exv (won rfl) rfl rfl (e_box (vs := [v0x0, v0x1]) rfl (ev (t := 0) rfl rfl) rfl hm) ?_
 rintro g38 w39 hm40
 refine s_val (v := (.slice none 0 0)) (won rfl) rfl rfl (x_assign rfl rfl) ?_
 refine s_val (v := (.int .i64 0)) (won rfl) rfl rfl (x_assign rfl rfl) ?_
 refine wpList_nil ?_
 refine nx ?_
 refine wp_seq ?_
 refine wp_seq ?_
 obtain ⟨r49, hr49, he⟩ := bindE he
 refine wp_region_lit ?_
 refine s_val (v := (.agg #[v0x0, v0x1])) (won rfl) rfl rfl (x_loadN (vs := [v0x0, v0x1]) rfl tyN_28 (ev (t := 2) rfl rfl) (seg_cells (o' := 0) (j := 0) hm40 (k := 0) rfl rfl rfl)) ?_
 refine s_call (won rfl) rfl rfl (x_call rfl rfl cl_17 (map_lit (map_cons (ev (t := 6) rfl rfl) map_nil))) (impl_PoolOK_ok F (hR := (cat [hR])) (hF := cat [sg g38 28 (0, 0) [] [v0x0, v0x1] [], hF]) a0 (H0x0.mono (Sub.at_ (k := 0) rfl)) (H0x1.mono (Sub.at_ (k := 0) rfl)) (subc (Sub.trans hs (Sub.at_ (k := 1) rfl)) subn) (Mem.one hm40) hr49) ?_
 rintro e w50 ⟨rfl, hm51⟩
 refine ⟨_, rfl, ?_⟩
 replace hm51 : Mem w0 w50 (cat [sg g38 28 (0, 0) [] [v0x0, v0x1] [], hF]) := Mem.un hm51
 refine s_val (v := (.bool (!r49))) (won rfl) rfl rfl (x_not rfl (ev (t := 7) rfl rfl)) ?_
 refine wpList_nil ?_
 refine nx ?_
 rcases Bool.eq_false_or_eq_true ((!r49)) with hb52 | hb52
 ·
  replace he := bifT he hb52
  refine c_true rfl (p := (!r49)) rfl rfl hb52 ?_
  refine wp_seq ?_
  refine wp_region_lit ?_
  refine s_val (v := (.slice none 0 0)) (won rfl) rfl rfl (x_assign rfl rfl) ?_
  refine s_val (v := (.int .i64 1)) (won rfl) rfl rfl (x_assign rfl rfl) ?_
  refine wpList_nil ?_
  have hm54 : Mem w0 w50 (cat [hF]) := Mem.pick [1] rfl hm51
  refine nx ?_
  refine wp_ret ?_
  refine xr ?_
  obtain rfl := Option.some.inj he
  refine r_ret (v := (.tuple #[(.slice none 0 0), (.int .i64 1)])) (rv_list rfl rfl (RVs.tmp (v := (.slice none 0 0)) rfl rfl (RVs.tmp (v := (.int .i64 1)) rfl rfl RVs.nil))) rfl ?_
  exact ⟨(.slice none 0 0), [], rfl, (OwF.nil 3 (FK.int .i64)), Mem.pick [1000, 0] rfl hm54⟩
 ·
  replace he := bifF he hb52
  refine c_false rfl (p := (!r49)) rfl rfl hb52 ?_
  refine wp_skip ?_
  refine nx ?_
  refine wp_seq ?_
  refine wp_seq ?_
  obtain ⟨r61, hr61, he⟩ := bindE he
  refine wp_region_lit ?_
  refine s_val (v := (.int .i64 a1)) (won rfl) rfl rfl (x_move rfl (ev (t := 1) rfl rfl)) ?_
  refine s_call (won rfl) rfl rfl (x_call rfl rfl cl_64 (map_lit (map_cons (ev (t := 9) rfl rfl) map_nil))) (impl_isOwner_ok (hR := (cat [])) (hF := cat [sg g38 28 (0, 0) [] [v0x0, v0x1] [], hF]) a1  (Mem.one hm51) hr61) ?_
  rintro e w62 ⟨rfl, hm63⟩
  refine ⟨_, rfl, ?_⟩
  replace hm63 : Mem w0 w62 (cat [sg g38 28 (0, 0) [] [v0x0, v0x1] [], hF]) := Mem.un hm63
  refine s_val (v := (.bool (!r61))) (won rfl) rfl rfl (x_not rfl (ev (t := 10) rfl rfl)) ?_
  refine wpList_nil ?_
  refine nx ?_
  rcases Bool.eq_false_or_eq_true ((!r61)) with hb64 | hb64
  ·
   replace he := bifT he hb64
   refine c_true rfl (p := (!r61)) rfl rfl hb64 ?_
   refine wp_seq ?_
   refine wp_region_lit ?_
   refine s_val (v := (.slice none 0 0)) (won rfl) rfl rfl (x_assign rfl rfl) ?_
   refine s_val (v := (.int .i64 4)) (won rfl) rfl rfl (x_assign rfl rfl) ?_
   refine wpList_nil ?_
   have hm66 : Mem w0 w62 (cat [hF]) := Mem.pick [1] rfl hm63
   refine nx ?_
   refine wp_ret ?_
   refine xr ?_
   obtain rfl := Option.some.inj he
   refine r_ret (v := (.tuple #[(.slice none 0 0), (.int .i64 4)])) (rv_list rfl rfl (RVs.tmp (v := (.slice none 0 0)) rfl rfl (RVs.tmp (v := (.int .i64 4)) rfl rfl RVs.nil))) rfl ?_
   exact ⟨(.slice none 0 0), [], rfl, (OwF.nil 3 (FK.int .i64)), Mem.pick [1000, 0] rfl hm66⟩
  ·
   replace he := bifF he hb64
   refine c_false rfl (p := (!r61)) rfl rfl hb64 ?_
   refine wp_skip ?_
   refine nx ?_
   refine wp_seq ?_
   obtain ⟨r67, hr67, he⟩ := bindE he
   refine wp_region_lit ?_
   refine s_val (v := (.int .i64 a1)) (won rfl) rfl rfl (x_move rfl (ev (t := 1) rfl rfl)) ?_
   refine s_call (won rfl) rfl rfl (x_call rfl rfl cl_65 (map_lit (map_cons (ev (t := 2) rfl rfl) (map_cons (ev (t := 12) rfl rfl) map_nil)))) (impl_Pool_held_ok F (hR := (cat [hR])) (hF := cat [hF]) a0 a1 (H0x0.mono (Sub.at_ (k := 0) rfl)) (H0x1.mono (Sub.at_ (k := 0) rfl)) (subc (Sub.trans hs (Sub.at_ (k := 0) rfl)) subn) rfl (Mem.grp [sg g38 28 (0, 0) [] [v0x0, v0x1] []] [hF] (Mem.pick [0, 1] rfl hm63)) hr67) ?_
   rintro e w72 ⟨v69, h71, rfl, H70, hm73⟩
   refine ⟨_, rfl, ?_⟩
   replace hm73 : Mem w0 w72 (cat [sg g38 28 (0, 0) [] [v0x0, v0x1] [], h71, hF]) := Mem.ung [sg g38 28 (0, 0) [] [v0x0, v0x1] [], h71] [hF] hm73
   refine s_val (v := v69) (won rfl) rfl rfl (x_assign rfl (ev (t := 13) rfl rfl)) ?_
   refine s_val (v := (.int .i64 0)) (won rfl) rfl rfl (x_assign rfl rfl) ?_
   refine wpList_nil ?_
   have hm74 : Mem w0 w72 (cat [h71, hF]) := Mem.pick [1, 2] rfl hm73
   refine nx ?_
   refine wp_ret ?_
   obtain rfl := Option.some.inj he
   refine r_ret (v := (.tuple #[v69, (.int .i64 0)])) (rv_list rfl rfl (RVs.tmp (v := v69) rfl rfl (RVs.tmp (v := (.int .i64 0)) rfl rfl RVs.nil))) rfl ?_
   exact ⟨v69, h71, rfl, H70, Mem.pick [0, 1] rfl hm74⟩
def laws_FnPool_l2 (F : Nat) (r63501 : (impl_Pool × impl_PoolReply × Int)) : Nat → Int → Int → Option (Fl (Fl (Fl (Bool) (Unit)) ((List Int) × (List Int))) (Int))
  | 0, _, _ => none
  | k + 1, s64737, s64739 => (bif (decide (s64739 < 6)) then (impl_PoolHeld F r63501.1 s64739).bind fun r64785 => (bif (!decide (r64785.2 = 0)) then (some (Fl.out (Fl.out (Fl.out false)))) else laws_FnPool_l2 F r63501 k (IntKind.wrap .i64 (s64737 + (r64785.1.length : Int))) (IntKind.wrap .i64 (s64739 + 1))) else (some (Fl.go s64737)))
def laws_FnPool_l1 (F : Nat) (r32810 : (Int)) (r32813 : ((List impl_PoolAct))) (r32839 : (impl_Pool × (List impl_PoolReply) × Int)) (r32863 : (impl_Pool × (List impl_PoolReply) × Int)) : Nat → (List Int) → (List Int) → Int → Option (Fl (Bool) (Unit))
  | 0, _, _, _ => none
  | k + 1, s56808, s56812, s56819 => (bif (decide (s56819 < (r32813.length : Int))) then (gd ((0 : Int) ≤ s56819 ∧ s56819 < (r32813.length : Int)) ((impl_PoolStep F (impl_Pool.mk s56808 s56812) (impl_PoolAct.mk (ix r32813 s56819).Kind (ix r32813 s56819).Owner (ix r32813 s56819).To (ix r32813 s56819).Buffer)).bind fun r63501 => gd ((!(!decide (r63501.2.2 = 0))) = true → (0 : Int) ≤ s56819 ∧ s56819 < (r32839.2.1.length : Int)) (gd ((!((!decide (r63501.2.2 = 0)) || (!(decide (r63501.2.1 = (impl_PoolReply.mk (ix r32839.2.1 s56819).Code (ix r32839.2.1 s56819).Buffer)))))) = true → (0 : Int) ≤ s56819 ∧ s56819 < (r32863.2.1.length : Int)) ((bif (((!decide (r63501.2.2 = 0)) || (!(decide (r63501.2.1 = (impl_PoolReply.mk (ix r32839.2.1 s56819).Code (ix r32839.2.1 s56819).Buffer))))) || (!(decide (r63501.2.1 = (impl_PoolReply.mk (ix r32863.2.1 s56819).Code (ix r32863.2.1 s56819).Buffer))))) then (some (Fl.out (Fl.out false))) else gd ((0 : Int) ≤ s56819 ∧ s56819 < (r32813.length : Int)) ((bif ((decide ((ix r32813 s56819).Kind = 1)) && (decide (r63501.2.1.Code = 0))) then laws_has F s56808 r63501.2.1.Buffer else some false).bind fun r64576 => (bif (((decide ((ix r32813 s56819).Kind = 1)) && (decide (r63501.2.1.Code = 0))) && (!r64576)) then (some (Fl.out (Fl.out false))) else (laws_FnPool_l2 F r63501 F (r63501.1.Free.length : Int) 0 : Option (Fl (Fl (Fl (Bool) (Unit)) ((List Int) × (List Int))) (Int))).bind fun l64694 => l64694.on fun (s64693 : (Int)) => (bif (!(!decide (s64693 = (IntKind.wrap .i64 (1 + r32810))))) then impl_PoolOK F r63501.1 else some false).bind fun r64799 => (bif ((!decide (s64693 = (IntKind.wrap .i64 (1 + r32810)))) || (!r64799)) then (some (Fl.out (Fl.out false))) else (some (Fl.go (r63501.1.Free, r63501.1.Owner)))))))))) : Option (Fl (Fl (Bool) (Unit)) ((List Int) × (List Int)))).bind fun l62821 => l62821.on fun (s62820 : ((List Int) × (List Int))) => laws_FnPool_l1 F r32810 r32813 r32839 r32863 k s62820.1 s62820.2 (IntKind.wrap .i64 (s56819 + 1)) else (some (Fl.go ())))
def laws_FnPool (F : Nat) (a0 : (List Int)) (a1 : (List Int)) : Option (Bool) := (bif ((decide ((1048576 : Int) < (a0.length : Int))) || (decide ((1048576 : Int) < (a1.length : Int)))) then (some true) else (laws_at a1 0 32).bind fun r32810 => (spec_PoolActsOf F a0).bind fun r32813 => (impl_NewPool F (IntKind.wrap .i64 (1 + r32810))).bind fun r32820 => (impl_PoolRun F (IntKind.wrap .i64 (1 + r32810)) r32813).bind fun r32839 => (spec_PoolRun F (IntKind.wrap .i64 (1 + r32810)) r32813).bind fun r32863 => (bif ((((!decide (r32820.2 = 0)) || (!decide (r32839.2.2 = 0))) || (!decide ((r32839.2.1.length : Int) = (r32813.length : Int)))) || (!decide ((r32863.2.1.length : Int) = (r32813.length : Int)))) then (some false) else (laws_FnPool_l1 F r32810 r32813 r32839 r32863 F r32820.1.Free r32820.1.Owner 0 : Option (Fl (Bool) (Unit))).bind fun l48807 => l48807.on fun (s48806 : (Unit)) => (some true)))
set_option maxHeartbeats 400000 in
set_option maxRecDepth 100000 in
theorem laws_FnPool_ok (F : Nat) {w0 w : World} {hR hF : Hp} {v0x0 : Value} {v1x0 : Value} (a0 : (List Int)) (a1 : (List Int)) {r : (Bool)} (H0x0 : RdF w0 (FK.int .u8) v0x0 a0 hR) (H1x0 : RdF w0 (FK.int .u8) v1x0 a1 hR) (hs : Sub hR hF) (hm : Mem w0 w (cat [hF])) (he : laws_FnPool F a0 a1 = some r) :
    Calls Try.prog 3 #[v0x0, v1x0] w (fun e w' => e = .returned (.bool r) ∧ Mem w0 w' (cat [hF])) := by
 refine calls_fr (n := 156) Try.func3 rfl rfl rfl ?_
 unfold laws_FnPool at he
 refine wp_seq ?_
 refine wp_region_lit ?_
 refine s_val (v := (.bool false)) (won rfl) rfl rfl (x_assign rfl rfl) ?_
 refine wpList_nil ?_
 refine nx ?_
 refine wp_seq ?_
 refine wp_seq ?_
 refine wp_region_lit ?_
 refine s_val (v := v0x0) (won rfl) rfl rfl (x_move rfl (ev (t := 0) rfl rfl)) ?_
 refine s_val (v := (.int .i64 (a0.length : Int))) (won rfl) rfl rfl (x_len rfl slt_22 (ev (t := 23) rfl rfl) (H0x0).sl) ?_
 refine s_val (v := (.bool (decide ((1048576 : Int) < (a0.length : Int))))) (won rfl) rfl rfl (x_gtr rfl (ev (t := 24) rfl rfl) rfl) ?_
 refine s_val (v := (.bool (decide ((1048576 : Int) < (a0.length : Int))))) (won rfl) rfl rfl (x_move rfl (ev (t := 25) rfl rfl)) ?_
 refine s_cval (p := (!(decide ((1048576 : Int) < (a0.length : Int))))) (v := v1x0) (won_f (j := 3) (t := 26) (q := (decide ((1048576 : Int) < (a0.length : Int)))) rfl rfl rfl rfl rfl) rfl rfl (fun hp => (x_move rfl (ev (t := 1) rfl rfl))) ?_
 refine s_cval (p := (!(decide ((1048576 : Int) < (a0.length : Int))))) (v := (.int .i64 (a1.length : Int))) (won_f (j := 3) (t := 26) (q := (decide ((1048576 : Int) < (a0.length : Int)))) rfl rfl rfl rfl rfl) rfl rfl (fun hp => (x_len rfl slt_22 (ev (t := 27) rfl (Eq.trans (b := cv (!(decide ((1048576 : Int) < (a0.length : Int)))) v1x0) rfl (on_c hp))) (H1x0).sl)) ?_
 refine s_cval (p := (!(decide ((1048576 : Int) < (a0.length : Int))))) (v := (.bool (decide ((1048576 : Int) < (a1.length : Int))))) (won_f (j := 3) (t := 26) (q := (decide ((1048576 : Int) < (a0.length : Int)))) rfl rfl rfl rfl rfl) rfl rfl (fun hp => (x_gtr rfl (ev (t := 28) rfl (Eq.trans (b := cv (!(decide ((1048576 : Int) < (a0.length : Int)))) (.int .i64 (a1.length : Int))) rfl (on_c hp))) rfl)) ?_
 refine s_val (v := (.bool ((decide ((1048576 : Int) < (a0.length : Int))) || (decide ((1048576 : Int) < (a1.length : Int)))))) (won rfl) rfl rfl (x_pick_or rfl (ev (t := 26) rfl rfl) rfl (fun hq => ev rfl (Eq.trans (b := cv (!(decide ((1048576 : Int) < (a0.length : Int)))) (.bool (decide ((1048576 : Int) < (a1.length : Int))))) rfl (on_c (not_i hq))))) ?_
 refine wpList_nil ?_
 refine nx ?_
 rcases Bool.eq_false_or_eq_true (((decide ((1048576 : Int) < (a0.length : Int))) || (decide ((1048576 : Int) < (a1.length : Int))))) with hb32809 | hb32809
 ·
  replace he := bifT he hb32809
  refine c_true rfl (p := ((decide ((1048576 : Int) < (a0.length : Int))) || (decide ((1048576 : Int) < (a1.length : Int))))) rfl rfl hb32809 ?_
  refine wp_seq ?_
  refine wp_region_lit ?_
  refine s_val (v := (.bool true)) (won rfl) rfl rfl (x_assign rfl rfl) ?_
  refine wpList_nil ?_
  refine nx ?_
  refine wp_ret ?_
  refine xr ?_
  obtain rfl := Option.some.inj he
  refine r_ret (v := (.bool true)) (rv_one rfl (RVs.tmp (v := (.bool true)) rfl rfl RVs.nil)) rfl ?_
  exact ⟨rfl, Mem.pick [0] rfl hm⟩
 ·
  replace he := bifF he hb32809
  refine c_false rfl (p := ((decide ((1048576 : Int) < (a0.length : Int))) || (decide ((1048576 : Int) < (a1.length : Int))))) rfl rfl hb32809 ?_
  refine wp_skip ?_
  refine nx ?_
  refine wp_seq ?_
  obtain ⟨r32810, hr32810, he⟩ := bindE he
  refine wp_region_lit ?_
  refine s_val (v := v1x0) (won rfl) rfl rfl (x_move rfl (ev (t := 1) rfl rfl)) ?_
  refine s_call (won rfl) rfl rfl (x_call rfl rfl cl_9 (map_lit (map_cons (ev (t := 31) rfl rfl) (map_cons rfl (map_cons rfl map_nil))))) (laws_at_ok (hR := (cat [hR])) (hF := cat [hF]) a1 0 32 (H1x0.mono (Sub.at_ (k := 0) rfl)) (subc (Sub.trans hs (Sub.at_ (k := 0) rfl)) subn) (Mem.one hm) hr32810) ?_
  rintro e w32811 ⟨rfl, hm32812⟩
  refine ⟨_, rfl, ?_⟩
  replace hm32812 : Mem w0 w32811 (cat [hF]) := Mem.un hm32812
  refine s_val (v := (.int .i64 (IntKind.wrap .i64 (1 + r32810)))) (won rfl) rfl rfl (x_add rfl rfl (ev (t := 32) rfl rfl)) ?_
  refine s_val (v := (.int .i64 (IntKind.wrap .i64 (1 + r32810)))) (won rfl) rfl rfl (x_assign rfl (ev (t := 33) rfl rfl)) ?_
  refine wpList_nil ?_
  refine nx ?_
  refine wp_seq ?_
  obtain ⟨r32813, hr32813, he⟩ := bindE he
  refine wp_region_lit ?_
  refine s_val (v := v0x0) (won rfl) rfl rfl (x_move rfl (ev (t := 0) rfl rfl)) ?_
  refine s_call (won rfl) rfl rfl (x_call rfl rfl cl_10 (map_lit (map_cons (ev (t := 34) rfl rfl) map_nil))) (spec_PoolActsOf_ok F (hR := (cat [hR])) (hF := cat [hF]) a0 (H0x0.mono (Sub.at_ (k := 0) rfl)) (subc (Sub.trans hs (Sub.at_ (k := 0) rfl)) subn) (Mem.one hm32812) hr32813) ?_
  rintro e w32818 ⟨v32815, h32817, rfl, H32816, hm32819⟩
  refine ⟨_, rfl, ?_⟩
  replace hm32819 : Mem w0 w32818 (cat [h32817, hF]) := Mem.ung [h32817] [hF] hm32819
  refine s_val (v := v32815) (won rfl) rfl rfl (x_assign rfl (ev (t := 35) rfl rfl)) ?_
  refine wpList_nil ?_
  refine nx ?_
  refine wp_seq ?_
  obtain ⟨r32820, hr32820, he⟩ := bindE he
  refine wp_region_lit ?_
  refine s_val (v := (.int .i64 (IntKind.wrap .i64 (1 + r32810)))) (won rfl) rfl rfl (x_move rfl (ev (t := 5) rfl rfl)) ?_
  refine s_call (won rfl) rfl rfl (x_call rfl rfl cl_11 (map_lit (map_cons (ev (t := 37) rfl rfl) map_nil))) (impl_NewPool_ok F (hR := (cat [])) (hF := cat [h32817, hF]) (IntKind.wrap .i64 (1 + r32810))  (Mem.one hm32819) hr32820) ?_
  rintro e w32829 ⟨v32822, h32824, v32826, h32828, rfl, H32823, H32827, hm32830⟩
  refine ⟨_, rfl, ?_⟩
  replace hm32830 : Mem w0 w32829 (cat [h32824, h32828, h32817, hF]) := Mem.ung [h32824, h32828] [h32817, hF] hm32830
  refine s_val (v := (.tuple #[(.agg #[v32822, v32826]), (.int .i64 r32820.2)])) (won rfl) rfl rfl (x_move rfl (ev (t := 38) rfl rfl)) ?_
  refine s_val (v := (.agg #[v32822, v32826])) (won rfl) rfl rfl (x_extract rfl (ev (t := 36) rfl rfl) rfl) ?_
  refine s_val (v := (.int .i64 r32820.2)) (won rfl) rfl rfl (x_extract rfl (ev (t := 36) rfl rfl) rfl) ?_
  refine s_exv (won rfl) rfl rfl (e_alloc (vs := [(.slice none 0 0), (.slice none 0 0)]) rfl zt_28 rfl hm32830) ?_
  rintro g32833 w32834 hm32835
  refine s_exs (won rfl) rfl (e_store (vs := [v32822, v32826]) (o' := 0) (j := 0) rfl sz_28 (ev (t := 7) rfl rfl) (ev (t := 39) rfl rfl) rfl (one_cons (IsSl.one (H32823).sl) (one_cons (IsSl.one (H32827).sl) one_nil)) hm32835 (k := 0) rfl rfl rfl) ?_
  intro w32837 hm32838
  replace hm32838 : Mem w0 w32837 (cat [sg g32833 28 (0, 0) [] [v32822, v32826] [], h32824, h32828, h32817, hF]) := hm32838
  refine s_val (v := (.int .i64 r32820.2)) (won rfl) rfl rfl (x_assign rfl (ev (t := 40) rfl rfl)) ?_
  refine wpList_nil ?_
  refine nx ?_
  refine wp_seq ?_
  obtain ⟨r32839, hr32839, he⟩ := bindE he
  refine wp_region_lit ?_
  refine s_val (v := (.int .i64 (IntKind.wrap .i64 (1 + r32810)))) (won rfl) rfl rfl (x_move rfl (ev (t := 5) rfl rfl)) ?_
  refine s_val (v := v32815) (won rfl) rfl rfl (x_move rfl (ev (t := 6) rfl rfl)) ?_
  refine s_call (won rfl) rfl rfl (x_call rfl rfl cl_12 (map_lit (map_cons (ev (t := 42) rfl rfl) (map_cons (ev (t := 43) rfl rfl) map_nil)))) (impl_PoolRun_ok F (hR := (cat [h32817])) (hF := cat [sg g32833 28 (0, 0) [] [v32822, v32826] [], h32824, h32828, h32817, hF]) (IntKind.wrap .i64 (1 + r32810)) r32813 ((H32816.rd w0).mono (Sub.at_ (k := 0) rfl)) (subc (Sub.at_ (k := 3) rfl) subn) (Mem.one hm32838) hr32839) ?_
  rintro e w32852 ⟨v32841, h32843, v32845, h32847, v32849, h32851, rfl, H32842, H32846, H32850, hm32853⟩
  refine ⟨_, rfl, ?_⟩
  replace hm32853 : Mem w0 w32852 (cat [h32843, h32847, h32851, sg g32833 28 (0, 0) [] [v32822, v32826] [], h32824, h32828, h32817, hF]) := Mem.ung [h32843, h32847, h32851] [sg g32833 28 (0, 0) [] [v32822, v32826] [], h32824, h32828, h32817, hF] hm32853
  refine s_val (v := (.tuple #[(.agg #[v32841, v32845]), v32849, (.int .i64 r32839.2.2)])) (won rfl) rfl rfl (x_move rfl (ev (t := 44) rfl rfl)) ?_
  refine s_val (v := (.agg #[v32841, v32845])) (won rfl) rfl rfl (x_extract rfl (ev (t := 41) rfl rfl) rfl) ?_
  refine s_val (v := v32849) (won rfl) rfl rfl (x_extract rfl (ev (t := 41) rfl rfl) rfl) ?_
  refine s_val (v := (.int .i64 r32839.2.2)) (won rfl) rfl rfl (x_extract rfl (ev (t := 41) rfl rfl) rfl) ?_
  refine s_exv (won rfl) rfl rfl (e_alloc (vs := [(.slice none 0 0), (.slice none 0 0)]) rfl zt_28 rfl hm32853) ?_
  rintro g32856 w32857 hm32858
  refine s_exs (won rfl) rfl (e_store (vs := [v32841, v32845]) (o' := 0) (j := 0) rfl sz_28 (ev (t := 9) rfl rfl) (ev (t := 45) rfl rfl) rfl (one_cons (IsSl.one (H32842).sl) (one_cons (IsSl.one (H32846).sl) one_nil)) hm32858 (k := 0) rfl rfl rfl) ?_
  intro w32860 hm32861
  replace hm32861 : Mem w0 w32860 (cat [sg g32856 28 (0, 0) [] [v32841, v32845] [], h32843, h32847, h32851, sg g32833 28 (0, 0) [] [v32822, v32826] [], h32824, h32828, h32817, hF]) := hm32861
  refine s_val (v := v32849) (won rfl) rfl rfl (x_assign rfl (ev (t := 46) rfl rfl)) ?_
  refine s_val (v := (.int .i64 r32839.2.2)) (won rfl) rfl rfl (x_assign rfl (ev (t := 47) rfl rfl)) ?_
  refine wpList_nil ?_
  have hm32862 : Mem w0 w32860 (cat [h32851, sg g32833 28 (0, 0) [] [v32822, v32826] [], h32824, h32828, h32817, hF]) := Mem.pick [3, 4, 5, 6, 7, 8] rfl hm32861
  refine nx ?_
  refine wp_seq ?_
  obtain ⟨r32863, hr32863, he⟩ := bindE he
  refine wp_region_lit ?_
  refine s_val (v := (.int .i64 (IntKind.wrap .i64 (1 + r32810)))) (won rfl) rfl rfl (x_move rfl (ev (t := 5) rfl rfl)) ?_
  refine s_val (v := v32815) (won rfl) rfl rfl (x_move rfl (ev (t := 6) rfl rfl)) ?_
  refine s_call (won rfl) rfl rfl (x_call rfl rfl cl_13 (map_lit (map_cons (ev (t := 49) rfl rfl) (map_cons (ev (t := 50) rfl rfl) map_nil)))) (spec_PoolRun_ok F (hR := (cat [h32817])) (hF := cat [h32851, sg g32833 28 (0, 0) [] [v32822, v32826] [], h32824, h32828, h32817, hF]) (IntKind.wrap .i64 (1 + r32810)) r32813 ((H32816.rd w0).mono (Sub.at_ (k := 0) rfl)) (subc (Sub.at_ (k := 4) rfl) subn) (Mem.one hm32862) hr32863) ?_
  rintro e w32876 ⟨v32865, h32867, v32869, h32871, v32873, h32875, rfl, H32866, H32870, H32874, hm32877⟩
  refine ⟨_, rfl, ?_⟩
  replace hm32877 : Mem w0 w32876 (cat [h32867, h32871, h32875, h32851, sg g32833 28 (0, 0) [] [v32822, v32826] [], h32824, h32828, h32817, hF]) := Mem.ung [h32867, h32871, h32875] [h32851, sg g32833 28 (0, 0) [] [v32822, v32826] [], h32824, h32828, h32817, hF] hm32877
  refine s_val (v := (.tuple #[(.agg #[v32865, v32869]), v32873, (.int .i64 r32863.2.2)])) (won rfl) rfl rfl (x_move rfl (ev (t := 51) rfl rfl)) ?_
  refine s_val (v := (.agg #[v32865, v32869])) (won rfl) rfl rfl (x_extract rfl (ev (t := 48) rfl rfl) rfl) ?_
  refine s_val (v := v32873) (won rfl) rfl rfl (x_extract rfl (ev (t := 48) rfl rfl) rfl) ?_
  refine s_val (v := (.int .i64 r32863.2.2)) (won rfl) rfl rfl (x_extract rfl (ev (t := 48) rfl rfl) rfl) ?_
  refine s_exv (won rfl) rfl rfl (e_alloc (vs := [(.slice none 0 0), (.slice none 0 0)]) rfl zt_28 rfl hm32877) ?_
  rintro g32880 w32881 hm32882
  refine s_exs (won rfl) rfl (e_store (vs := [v32865, v32869]) (o' := 0) (j := 0) rfl sz_28 (ev (t := 12) rfl rfl) (ev (t := 52) rfl rfl) rfl (one_cons (IsSl.one (H32866).sl) (one_cons (IsSl.one (H32870).sl) one_nil)) hm32882 (k := 0) rfl rfl rfl) ?_
  intro w32884 hm32885
  replace hm32885 : Mem w0 w32884 (cat [sg g32880 28 (0, 0) [] [v32865, v32869] [], h32867, h32871, h32875, h32851, sg g32833 28 (0, 0) [] [v32822, v32826] [], h32824, h32828, h32817, hF]) := hm32885
  refine s_val (v := v32873) (won rfl) rfl rfl (x_assign rfl (ev (t := 53) rfl rfl)) ?_
  refine s_val (v := (.int .i64 r32863.2.2)) (won rfl) rfl rfl (x_assign rfl (ev (t := 54) rfl rfl)) ?_
  refine wpList_nil ?_
  have hm32886 : Mem w0 w32884 (cat [h32875, h32851, sg g32833 28 (0, 0) [] [v32822, v32826] [], h32824, h32828, h32817, hF]) := Mem.pick [3, 4, 5, 6, 7, 8, 9] rfl hm32885
  refine nx ?_
  refine wp_seq ?_
  refine wp_seq ?_
  refine wp_region_lit ?_
  refine s_val (v := (.int .i64 r32820.2)) (won rfl) rfl rfl (x_move rfl (ev (t := 8) rfl rfl)) ?_
  refine s_val (v := (.bool (!decide (r32820.2 = 0)))) (won rfl) rfl rfl (x_neq rfl (ev (t := 55) rfl rfl) rfl) ?_
  refine s_val (v := (.bool (!decide (r32820.2 = 0)))) (won rfl) rfl rfl (x_move rfl (ev (t := 56) rfl rfl)) ?_
  refine s_cval (p := (!(!decide (r32820.2 = 0)))) (v := (.int .i64 r32839.2.2)) (won_f (j := 2) (t := 57) (q := (!decide (r32820.2 = 0))) rfl rfl rfl rfl rfl) rfl rfl (fun hp => (x_move rfl (ev (t := 11) rfl rfl))) ?_
  refine s_cval (p := (!(!decide (r32820.2 = 0)))) (v := (.bool (!decide (r32839.2.2 = 0)))) (won_f (j := 2) (t := 57) (q := (!decide (r32820.2 = 0))) rfl rfl rfl rfl rfl) rfl rfl (fun hp => (x_neq rfl (ev (t := 58) rfl (Eq.trans (b := cv (!(!decide (r32820.2 = 0))) (.int .i64 r32839.2.2)) rfl (on_c hp))) rfl)) ?_
  refine s_val (v := (.bool ((!decide (r32820.2 = 0)) || (!decide (r32839.2.2 = 0))))) (won rfl) rfl rfl (x_pick_or rfl (ev (t := 57) rfl rfl) rfl (fun hq => ev rfl (Eq.trans (b := cv (!(!decide (r32820.2 = 0))) (.bool (!decide (r32839.2.2 = 0)))) rfl (on_c (not_i hq))))) ?_
  refine s_val (v := (.bool ((!decide (r32820.2 = 0)) || (!decide (r32839.2.2 = 0))))) (won rfl) rfl rfl (x_move rfl (ev (t := 60) rfl rfl)) ?_
  refine s_cval (p := (!((!decide (r32820.2 = 0)) || (!decide (r32839.2.2 = 0))))) (v := v32849) (won_f (j := 6) (t := 61) (q := ((!decide (r32820.2 = 0)) || (!decide (r32839.2.2 = 0)))) rfl rfl rfl rfl rfl) rfl rfl (fun hp => (x_move rfl (ev (t := 10) rfl rfl))) ?_
  refine s_cval (p := (!((!decide (r32820.2 = 0)) || (!decide (r32839.2.2 = 0))))) (v := (.int .i64 (r32839.2.1.length : Int))) (won_f (j := 6) (t := 61) (q := ((!decide (r32820.2 = 0)) || (!decide (r32839.2.2 = 0)))) rfl rfl rfl rfl rfl) rfl rfl (fun hp => (x_len rfl slt_31 (ev (t := 62) rfl (Eq.trans (b := cv (!((!decide (r32820.2 = 0)) || (!decide (r32839.2.2 = 0)))) v32849) rfl (on_c hp))) (H32850).sl)) ?_
  refine s_cval (p := (!((!decide (r32820.2 = 0)) || (!decide (r32839.2.2 = 0))))) (v := v32815) (won_f (j := 6) (t := 61) (q := ((!decide (r32820.2 = 0)) || (!decide (r32839.2.2 = 0)))) rfl rfl rfl rfl rfl) rfl rfl (fun hp => (x_move rfl (ev (t := 6) rfl rfl))) ?_
  refine s_cval (p := (!((!decide (r32820.2 = 0)) || (!decide (r32839.2.2 = 0))))) (v := (.int .i64 (r32813.length : Int))) (won_f (j := 6) (t := 61) (q := ((!decide (r32820.2 = 0)) || (!decide (r32839.2.2 = 0)))) rfl rfl rfl rfl rfl) rfl rfl (fun hp => (x_len rfl slt_24 (ev (t := 64) rfl (Eq.trans (b := cv (!((!decide (r32820.2 = 0)) || (!decide (r32839.2.2 = 0)))) v32815) rfl (on_c hp))) (H32816).sl)) ?_
  refine s_cval (p := (!((!decide (r32820.2 = 0)) || (!decide (r32839.2.2 = 0))))) (v := (.bool (!decide ((r32839.2.1.length : Int) = (r32813.length : Int))))) (won_f (j := 6) (t := 61) (q := ((!decide (r32820.2 = 0)) || (!decide (r32839.2.2 = 0)))) rfl rfl rfl rfl rfl) rfl rfl (fun hp => (x_neq rfl (ev (t := 63) rfl (Eq.trans (b := cv (!((!decide (r32820.2 = 0)) || (!decide (r32839.2.2 = 0)))) (.int .i64 (r32839.2.1.length : Int))) rfl (on_c hp))) (ev (t := 65) rfl (Eq.trans (b := cv (!((!decide (r32820.2 = 0)) || (!decide (r32839.2.2 = 0)))) (.int .i64 (r32813.length : Int))) rfl (on_c hp))))) ?_
  refine s_val (v := (.bool (((!decide (r32820.2 = 0)) || (!decide (r32839.2.2 = 0))) || (!decide ((r32839.2.1.length : Int) = (r32813.length : Int)))))) (won rfl) rfl rfl (x_pick_or rfl (ev (t := 61) rfl rfl) rfl (fun hq => ev rfl (Eq.trans (b := cv (!((!decide (r32820.2 = 0)) || (!decide (r32839.2.2 = 0)))) (.bool (!decide ((r32839.2.1.length : Int) = (r32813.length : Int))))) rfl (on_c (not_i hq))))) ?_
  refine s_val (v := (.bool (((!decide (r32820.2 = 0)) || (!decide (r32839.2.2 = 0))) || (!decide ((r32839.2.1.length : Int) = (r32813.length : Int)))))) (won rfl) rfl rfl (x_move rfl (ev (t := 67) rfl rfl)) ?_
  refine s_cval (p := (!(((!decide (r32820.2 = 0)) || (!decide (r32839.2.2 = 0))) || (!decide ((r32839.2.1.length : Int) = (r32813.length : Int)))))) (v := v32873) (won_f (j := 13) (t := 68) (q := (((!decide (r32820.2 = 0)) || (!decide (r32839.2.2 = 0))) || (!decide ((r32839.2.1.length : Int) = (r32813.length : Int))))) rfl rfl rfl rfl rfl) rfl rfl (fun hp => (x_move rfl (ev (t := 13) rfl rfl))) ?_
  refine s_cval (p := (!(((!decide (r32820.2 = 0)) || (!decide (r32839.2.2 = 0))) || (!decide ((r32839.2.1.length : Int) = (r32813.length : Int)))))) (v := (.int .i64 (r32863.2.1.length : Int))) (won_f (j := 13) (t := 68) (q := (((!decide (r32820.2 = 0)) || (!decide (r32839.2.2 = 0))) || (!decide ((r32839.2.1.length : Int) = (r32813.length : Int))))) rfl rfl rfl rfl rfl) rfl rfl (fun hp => (x_len rfl slt_31 (ev (t := 69) rfl (Eq.trans (b := cv (!(((!decide (r32820.2 = 0)) || (!decide (r32839.2.2 = 0))) || (!decide ((r32839.2.1.length : Int) = (r32813.length : Int))))) v32873) rfl (on_c hp))) (H32874).sl)) ?_
  refine s_cval (p := (!(((!decide (r32820.2 = 0)) || (!decide (r32839.2.2 = 0))) || (!decide ((r32839.2.1.length : Int) = (r32813.length : Int)))))) (v := v32815) (won_f (j := 13) (t := 68) (q := (((!decide (r32820.2 = 0)) || (!decide (r32839.2.2 = 0))) || (!decide ((r32839.2.1.length : Int) = (r32813.length : Int))))) rfl rfl rfl rfl rfl) rfl rfl (fun hp => (x_move rfl (ev (t := 6) rfl rfl))) ?_
  refine s_cval (p := (!(((!decide (r32820.2 = 0)) || (!decide (r32839.2.2 = 0))) || (!decide ((r32839.2.1.length : Int) = (r32813.length : Int)))))) (v := (.int .i64 (r32813.length : Int))) (won_f (j := 13) (t := 68) (q := (((!decide (r32820.2 = 0)) || (!decide (r32839.2.2 = 0))) || (!decide ((r32839.2.1.length : Int) = (r32813.length : Int))))) rfl rfl rfl rfl rfl) rfl rfl (fun hp => (x_len rfl slt_24 (ev (t := 71) rfl (Eq.trans (b := cv (!(((!decide (r32820.2 = 0)) || (!decide (r32839.2.2 = 0))) || (!decide ((r32839.2.1.length : Int) = (r32813.length : Int))))) v32815) rfl (on_c hp))) (H32816).sl)) ?_
  refine s_cval (p := (!(((!decide (r32820.2 = 0)) || (!decide (r32839.2.2 = 0))) || (!decide ((r32839.2.1.length : Int) = (r32813.length : Int)))))) (v := (.bool (!decide ((r32863.2.1.length : Int) = (r32813.length : Int))))) (won_f (j := 13) (t := 68) (q := (((!decide (r32820.2 = 0)) || (!decide (r32839.2.2 = 0))) || (!decide ((r32839.2.1.length : Int) = (r32813.length : Int))))) rfl rfl rfl rfl rfl) rfl rfl (fun hp => (x_neq rfl (ev (t := 70) rfl (Eq.trans (b := cv (!(((!decide (r32820.2 = 0)) || (!decide (r32839.2.2 = 0))) || (!decide ((r32839.2.1.length : Int) = (r32813.length : Int))))) (.int .i64 (r32863.2.1.length : Int))) rfl (on_c hp))) (ev (t := 72) rfl (Eq.trans (b := cv (!(((!decide (r32820.2 = 0)) || (!decide (r32839.2.2 = 0))) || (!decide ((r32839.2.1.length : Int) = (r32813.length : Int))))) (.int .i64 (r32813.length : Int))) rfl (on_c hp))))) ?_
  refine s_val (v := (.bool ((((!decide (r32820.2 = 0)) || (!decide (r32839.2.2 = 0))) || (!decide ((r32839.2.1.length : Int) = (r32813.length : Int)))) || (!decide ((r32863.2.1.length : Int) = (r32813.length : Int)))))) (won rfl) rfl rfl (x_pick_or rfl (ev (t := 68) rfl rfl) rfl (fun hq => ev rfl (Eq.trans (b := cv (!(((!decide (r32820.2 = 0)) || (!decide (r32839.2.2 = 0))) || (!decide ((r32839.2.1.length : Int) = (r32813.length : Int))))) (.bool (!decide ((r32863.2.1.length : Int) = (r32813.length : Int))))) rfl (on_c (not_i hq))))) ?_
  refine wpList_nil ?_
  refine nx ?_
  rcases Bool.eq_false_or_eq_true (((((!decide (r32820.2 = 0)) || (!decide (r32839.2.2 = 0))) || (!decide ((r32839.2.1.length : Int) = (r32813.length : Int)))) || (!decide ((r32863.2.1.length : Int) = (r32813.length : Int))))) with hb32889 | hb32889
  ·
   replace he := bifT he hb32889
   refine c_true rfl (p := ((((!decide (r32820.2 = 0)) || (!decide (r32839.2.2 = 0))) || (!decide ((r32839.2.1.length : Int) = (r32813.length : Int)))) || (!decide ((r32863.2.1.length : Int) = (r32813.length : Int))))) rfl rfl hb32889 ?_
   refine wp_seq ?_
   refine wp_region_lit ?_
   refine s_val (v := (.bool false)) (won rfl) rfl rfl (x_assign rfl rfl) ?_
   refine wpList_nil ?_
   have hm32890 : Mem w0 w32884 (cat [hF]) := Mem.pick [6] rfl hm32886
   refine nx ?_
   refine wp_ret ?_
   refine xr ?_
   obtain rfl := Option.some.inj he
   refine r_ret (v := (.bool false)) (rv_one rfl (RVs.tmp (v := (.bool false)) rfl rfl RVs.nil)) rfl ?_
   exact ⟨rfl, Mem.pick [0] rfl hm32890⟩
  ·
   replace he := bifF he hb32889
   refine c_false rfl (p := ((((!decide (r32820.2 = 0)) || (!decide (r32839.2.2 = 0))) || (!decide ((r32839.2.1.length : Int) = (r32813.length : Int)))) || (!decide ((r32863.2.1.length : Int) = (r32813.length : Int))))) rfl rfl hb32889 ?_
   refine wp_skip ?_
   refine nx ?_
   obtain ⟨l48807, hT48809, hk48808⟩ := bindE he
   replace he := hT48809
   refine wp_seqJ (fun a w => ∃ (s48806 : (Unit)) (f : Nat → Value), l48807 = Fl.go s48806 ∧ a = fr 156 f ∧ Mem w0 w (cat [hF])) ?_ ?_
   ·
    refine wp_seq ?_
    refine wp_region_lit ?_
    refine s_val (v := (.int .i64 0)) (won rfl) rfl rfl (x_assign rfl rfl) ?_
    refine wpList_nil ?_
    refine nx ?_
    refine wp_block ?_
    refine wp_fuel (I := fun k => fun a w => ∃ (s56808 : (List Int)) (s56812 : (List Int)) (s56819 : Int) (v56809 : Value) (h56810 : Hp) (v56813 : Value) (h56814 : Hp) (f : Nat → Value), laws_FnPool_l1 F r32810 r32813 r32839 r32863 k s56808 s56812 s56819 = some l48807 ∧ a = fr 156 f ∧ f 5 = (.int .i64 (IntKind.wrap .i64 (1 + r32810))) ∧ f 6 = v32815 ∧ f 7 = (.pointer (some ⟨g32833, 0, none⟩)) ∧ f 10 = v32849 ∧ f 13 = v32873 ∧ f 15 = (.int .i64 s56819) ∧ OwF 3 (FK.int .i64) v56809 s56808 h56810 ∧ OwF 3 (FK.int .i64) v56813 s56812 h56814 ∧ Mem w0 w (cat [sg g32833 28 (0, 0) [] [v56809, v56813] [], h32817, h56810, h56814, h32851, h32875, hF])) F _ _ ⟨r32820.1.Free, r32820.1.Owner, 0, v32822, h32824, v32826, h32828, _, he, rfl, rfl, rfl, rfl, rfl, rfl, rfl, H32823, H32827, Mem.pick [2, 5, 3, 4, 1, 0, 6] rfl hm32886⟩ ?_ ?_
    ·
     rintro a w ⟨s56808, s56812, s56819, v56809, h56810, v56813, h56814, f, he, rfl, q56806, q56807, q56816, q56817, q56818, q56820, H56811, H56815, hm60807⟩
     rw [laws_FnPool_l1] at he; exact none_no he
    ·
     rintro k a w ⟨s56808, s56812, s56819, v56809, h56810, v56813, h56814, f, he, rfl, q56806, q56807, q56816, q56817, q56818, q56820, H56811, H56815, hm60809⟩
     rw [laws_FnPool_l1] at he
     refine wp_seq ?_
     refine wp_seq ?_
     refine wp_region_lit ?_
     refine s_val (v := (.int .i64 s56819)) (won rfl) rfl rfl (x_move rfl (ev (t := 15) (v := (.int .i64 s56819)) rfl q56820)) ?_
     refine s_val (v := v32815) (won rfl) rfl rfl (x_move rfl (ev (t := 6) (v := v32815) rfl q56807)) ?_
     refine s_val (v := (.int .i64 (r32813.length : Int))) (won rfl) rfl rfl (x_len rfl slt_24 (ev (t := 76) rfl rfl) (H32816).sl) ?_
     refine s_val (v := (.bool (decide (s56819 < (r32813.length : Int))))) (won rfl) rfl rfl (x_lss rfl (ev (t := 75) rfl rfl) (ev (t := 77) rfl rfl)) ?_
     refine wpList_nil ?_
     refine nx ?_
     rcases Bool.eq_false_or_eq_true ((decide (s56819 < (r32813.length : Int)))) with hb60811 | hb60811
     ·
      replace he := bifT he hb60811
      refine c_true rfl (p := (decide (s56819 < (r32813.length : Int)))) rfl rfl hb60811 ?_
      refine wp_skip ?_
      refine nx ?_
      obtain ⟨l62821, hT62823, hk62822⟩ := bindE he
      replace he := hT62823
      refine wp_seqJ (fun a w => ∃ (s62820 : ((List Int) × (List Int))) (v62808 : Value) (h62809 : Hp) (v62813 : Value) (h62814 : Hp) (f : Nat → Value), l62821 = Fl.go s62820 ∧ a = fr 156 f ∧ f 5 = (.int .i64 (IntKind.wrap .i64 (1 + r32810))) ∧ f 6 = v32815 ∧ f 7 = (.pointer (some ⟨g32833, 0, none⟩)) ∧ f 10 = v32849 ∧ f 13 = v32873 ∧ f 15 = (.int .i64 s56819) ∧ OwF 3 (FK.int .i64) v62808 s62820.1 h62809 ∧ OwF 3 (FK.int .i64) v62813 s62820.2 h62814 ∧ Mem w0 w (cat [sg g32833 28 (0, 0) [] [v62808, v62813] [], h32817, h62809, h62814, h32851, h32875, hF])) ?_ ?_
      ·
       refine wp_block ?_
       refine wp_seq ?_
       obtain ⟨hg63301, he⟩ := gdE he
       obtain ⟨r63501, hr63501, he⟩ := bindE he
       obtain ⟨hz63000, hze63000⟩ : ∃ hz : Hp, hz = cat [h32851, h32875, hF] := ⟨_, rfl⟩
       have hm63000 : Mem w0 w (cat [sg g32833 28 (0, 0) [] [v56809, v56813] [], h32817, h56810, h56814, hz63000]) := by rw [hze63000]; exact Mem.grp [sg g32833 28 (0, 0) [] [v56809, v56813] [], h32817, h56810, h56814] [h32851, h32875, hF] (Mem.pick [0, 1, 2, 3, 4, 5, 6] rfl hm60809)
       refine wp_drawF (I := fun f b a w => ∃ (vs : Nat → Value) (v63503 : Value) (h63505 : Hp) (v63507 : Value) (h63509 : Hp) (g64003 : Nat) (g64101 : Nat), a = fr 156 (sel b [(0, 82), (1, 83), (2, 84), (3, 85), (4, 86), (5, 87), (6, 81), (7, 88), (8, 89), (9, 90), (10, 16), (11, 17), (14, 18)] vs f) ∧ (b 0 = true → vs 0 = (.agg #[v56809, v56813])) ∧ (b 1 = true → vs 1 = v32815) ∧ (b 2 = true → vs 2 = (.int .i64 s56819)) ∧ (b 3 = true → vs 3 = (.pointer (some ((slA v32815).add (Int.toNat s56819 * 4))))) ∧ (b 4 = true → vs 4 = (.agg #[(.int .i64 (ix r32813 s56819).Kind), (.int .i64 (ix r32813 s56819).Owner), (.int .i64 (ix r32813 s56819).To), (.int .i64 (ix r32813 s56819).Buffer)])) ∧ (b 5 = true → vs 5 = (.tuple #[(.agg #[v63503, v63507]), (.agg #[(.int .i64 r63501.2.1.Code), (.int .i64 r63501.2.1.Buffer)]), (.int .i64 r63501.2.2)])) ∧ (b 6 = true → vs 6 = (.tuple #[(.agg #[v63503, v63507]), (.agg #[(.int .i64 r63501.2.1.Code), (.int .i64 r63501.2.1.Buffer)]), (.int .i64 r63501.2.2)])) ∧ (b 7 = true → vs 7 = (.agg #[v63503, v63507])) ∧ (b 8 = true → vs 8 = (.agg #[(.int .i64 r63501.2.1.Code), (.int .i64 r63501.2.1.Buffer)])) ∧ (b 9 = true → vs 9 = (.int .i64 r63501.2.2)) ∧ (b 10 = true → vs 10 = (.pointer (some ⟨g64003, 0, none⟩))) ∧ (b 11 = true → vs 11 = (.pointer (some ⟨g64101, 0, none⟩))) ∧ (b 14 = true → vs 14 = (.int .i64 r63501.2.2)) ∧ (b 5 = true → OwF 3 (FK.int .i64) v63503 r63501.1.Free h63505) ∧ (b 5 = true → OwF 3 (FK.int .i64) v63507 r63501.1.Owner h63509) ∧ Mem w0 w (cat [sg g32833 28 (0, 0) [] [v56809, v56813] [], h32817, h56810, h56814, hz63000, (bif b 5 then h63505 else []), (bif b 5 then h63509 else []), (bif b 12 then sg g64003 28 (0, 0) [] [v63503, v63507] [] else (bif b 10 then sg g64003 28 (0, 0) [] [(.slice none 0 0), (.slice none 0 0)] [] else [])), (bif b 13 then sg g64101 35 (0, 0) [] [(.int .i64 r63501.2.1.Code), (.int .i64 r63501.2.1.Buffer)] [] else (bif b 11 then sg g64101 35 (0, 0) [] [(.int .i64 0), (.int .i64 0)] [] else []))])) mixed (by kernel_rfl) ⟨fun _ => undef, undef, [], undef, [], 0, 0, (by rw [sel_false]), fun h => fno h, fun h => fno h, fun h => fno h, fun h => fno h, fun h => fno h, fun h => fno h, fun h => fno h, fun h => fno h, fun h => fno h, fun h => fno h, fun h => fno h, fun h => fno h, fun h => fno h, fun h => fno h, fun h => fno h, Mem.drew (Mem.pick [0, 1, 2, 3, 4, 1000, 1001, 1002, 1003] rfl hm63000)⟩ (steps_cons (i := 0) ?_ (steps_cons (i := 1) ?_ (steps_cons (i := 2) ?_ (steps_cons (i := 3) ?_ (steps_cons (i := 4) ?_ (steps_cons (i := 5) ?_ (steps_cons (i := 6) ?_ (steps_cons (i := 7) ?_ (steps_cons (i := 8) ?_ (steps_cons (i := 9) ?_ (steps_cons (i := 10) ?_ (steps_cons (i := 11) ?_ (steps_cons (i := 12) ?_ (steps_cons (i := 13) ?_ (steps_cons (i := 14) ?_ steps_nil))))))))))))))) ?_
       ·
        intro b a w hI hbi hn hc K hK
        obtain ⟨vs, v63503, h63505, v63507, h63509, g64003, g64101, ha, y0, y1, y2, y3, y4, y5, y6, y7, y8, y9, y10, y11, y14, H63504, H63508, hm⟩ := hI
        subst ha
        have b5 : b 5 = false := later (j := 5) hc rfl (i := 0) (da rfl) hbi
        have b6 : b 6 = false := later (j := 6) hc rfl (i := 5) (da rfl) b5
        have b7 : b 7 = false := later (j := 7) hc rfl (i := 6) (da rfl) b6
        have b8 : b 8 = false := later (j := 8) hc rfl (i := 6) (da rfl) b6
        have b9 : b 9 = false := later (j := 9) hc rfl (i := 6) (da rfl) b6
        have b12 : b 12 = false := later (j := 12) hc rfl (i := 0) (da rfl) hbi
        have b13 : b 13 = false := later (j := 13) hc rfl (i := 0) (da rfl) hbi
        have b14 : b 14 = false := later (j := 14) hc rfl (i := 0) (da rfl) hbi
        have hm64501 : Mem w0 w (cat [sg g32833 28 (0, 0) [] [v56809, v56813] [], h32817, h56810, h56814, hz63000, (bif b 10 then sg g64003 28 (0, 0) [] [(.slice none 0 0), (.slice none 0 0)] [] else []), (bif b 11 then sg g64101 35 (0, 0) [] [(.int .i64 0), (.int .i64 0)] [] else [])]) := Mem.pick [0, 1, 2, 3, 4, 7, 8] rfl (Mem.cg (B := [sg g32833 28 (0, 0) [] [v56809, v56813] [], h32817, h56810, h56814, hz63000, [], [], (bif b 10 then sg g64003 28 (0, 0) [] [(.slice none 0 0), (.slice none 0 0)] [] else []), (bif b 11 then sg g64101 35 (0, 0) [] [(.int .i64 0), (.int .i64 0)] [] else [])]) (cat_cons rfl (cat_cons rfl (cat_cons rfl (cat_cons rfl (cat_cons rfl (cat_cons (off_ b5 rfl) (cat_cons (off_ b5 rfl) (cat_cons (off_ b12 rfl) (cat_cons (off_ b13 rfl) rfl))))))))) hm)
        refine e_val (i := 0) hbi rfl rfl (v := (.agg #[v56809, v56813])) (won rfl) rfl rfl (x_loadN (vs := [v56809, v56813]) rfl tyN_28 (ev (t := 7) (v := (.pointer (some ⟨g32833, 0, none⟩))) rfl ((sel_no rfl).trans q56816)) (seg_cells (o' := 0) (j := 0) hm64501 (k := 0) rfl rfl rfl)) ?_
        exact hK _ _ ⟨_, v63503, h63505, v63507, h63509, g64003, g64101, rfl, fun _ => rfl, y1, y2, y3, y4, y5, y6, y7, y8, y9, y10, y11, y14, H63504, H63508, Mem.gc (A := [sg g32833 28 (0, 0) [] [v56809, v56813] [], h32817, h56810, h56814, hz63000, [], [], (bif b 10 then sg g64003 28 (0, 0) [] [(.slice none 0 0), (.slice none 0 0)] [] else []), (bif b 11 then sg g64101 35 (0, 0) [] [(.int .i64 0), (.int .i64 0)] [] else [])]) (cat_cons rfl (cat_cons rfl (cat_cons rfl (cat_cons rfl (cat_cons rfl (cat_cons (off_ b5 rfl) (cat_cons (off_ b5 rfl) (cat_cons (off_ b12 rfl) (cat_cons (off_ b13 rfl) rfl))))))))) (Mem.pick [0, 1, 2, 3, 4, 1005, 1006, 5, 6] rfl hm64501)⟩
       ·
        intro b a w hI hbi hn hc K hK
        obtain ⟨vs, v63503, h63505, v63507, h63509, g64003, g64101, ha, y0, y1, y2, y3, y4, y5, y6, y7, y8, y9, y10, y11, y14, H63504, H63508, hm⟩ := hI
        subst ha
        have b3 : b 3 = false := later (j := 3) hc rfl (i := 1) (da rfl) hbi
        have b4 : b 4 = false := later (j := 4) hc rfl (i := 3) (da rfl) b3
        have b5 : b 5 = false := later (j := 5) hc rfl (i := 4) (da rfl) b4
        have b6 : b 6 = false := later (j := 6) hc rfl (i := 5) (da rfl) b5
        have b7 : b 7 = false := later (j := 7) hc rfl (i := 6) (da rfl) b6
        have b8 : b 8 = false := later (j := 8) hc rfl (i := 6) (da rfl) b6
        have b9 : b 9 = false := later (j := 9) hc rfl (i := 6) (da rfl) b6
        have b12 : b 12 = false := later (j := 12) hc rfl (i := 1) (da rfl) hbi
        have b13 : b 13 = false := later (j := 13) hc rfl (i := 1) (da rfl) hbi
        have b14 : b 14 = false := later (j := 14) hc rfl (i := 1) (da rfl) hbi
        have hm64504 : Mem w0 w (cat [sg g32833 28 (0, 0) [] [v56809, v56813] [], h32817, h56810, h56814, hz63000, (bif b 10 then sg g64003 28 (0, 0) [] [(.slice none 0 0), (.slice none 0 0)] [] else []), (bif b 11 then sg g64101 35 (0, 0) [] [(.int .i64 0), (.int .i64 0)] [] else [])]) := Mem.pick [0, 1, 2, 3, 4, 7, 8] rfl (Mem.cg (B := [sg g32833 28 (0, 0) [] [v56809, v56813] [], h32817, h56810, h56814, hz63000, [], [], (bif b 10 then sg g64003 28 (0, 0) [] [(.slice none 0 0), (.slice none 0 0)] [] else []), (bif b 11 then sg g64101 35 (0, 0) [] [(.int .i64 0), (.int .i64 0)] [] else [])]) (cat_cons rfl (cat_cons rfl (cat_cons rfl (cat_cons rfl (cat_cons rfl (cat_cons (off_ b5 rfl) (cat_cons (off_ b5 rfl) (cat_cons (off_ b12 rfl) (cat_cons (off_ b13 rfl) rfl))))))))) hm)
        refine e_val (i := 1) hbi rfl rfl (v := v32815) (won rfl) rfl rfl (x_move rfl (ev (t := 6) (v := v32815) rfl ((sel_no rfl).trans q56807))) ?_
        exact hK _ _ ⟨_, v63503, h63505, v63507, h63509, g64003, g64101, rfl, y0, fun _ => rfl, y2, y3, y4, y5, y6, y7, y8, y9, y10, y11, y14, H63504, H63508, Mem.gc (A := [sg g32833 28 (0, 0) [] [v56809, v56813] [], h32817, h56810, h56814, hz63000, [], [], (bif b 10 then sg g64003 28 (0, 0) [] [(.slice none 0 0), (.slice none 0 0)] [] else []), (bif b 11 then sg g64101 35 (0, 0) [] [(.int .i64 0), (.int .i64 0)] [] else [])]) (cat_cons rfl (cat_cons rfl (cat_cons rfl (cat_cons rfl (cat_cons rfl (cat_cons (off_ b5 rfl) (cat_cons (off_ b5 rfl) (cat_cons (off_ b12 rfl) (cat_cons (off_ b13 rfl) rfl))))))))) (Mem.pick [0, 1, 2, 3, 4, 1005, 1006, 5, 6] rfl hm64504)⟩
       ·
        intro b a w hI hbi hn hc K hK
        obtain ⟨vs, v63503, h63505, v63507, h63509, g64003, g64101, ha, y0, y1, y2, y3, y4, y5, y6, y7, y8, y9, y10, y11, y14, H63504, H63508, hm⟩ := hI
        subst ha
        have b3 : b 3 = false := later (j := 3) hc rfl (i := 2) (da rfl) hbi
        have b4 : b 4 = false := later (j := 4) hc rfl (i := 3) (da rfl) b3
        have b5 : b 5 = false := later (j := 5) hc rfl (i := 4) (da rfl) b4
        have b6 : b 6 = false := later (j := 6) hc rfl (i := 5) (da rfl) b5
        have b7 : b 7 = false := later (j := 7) hc rfl (i := 6) (da rfl) b6
        have b8 : b 8 = false := later (j := 8) hc rfl (i := 6) (da rfl) b6
        have b9 : b 9 = false := later (j := 9) hc rfl (i := 6) (da rfl) b6
        have b12 : b 12 = false := later (j := 12) hc rfl (i := 2) (da rfl) hbi
        have b13 : b 13 = false := later (j := 13) hc rfl (i := 2) (da rfl) hbi
        have b14 : b 14 = false := later (j := 14) hc rfl (i := 2) (da rfl) hbi
        have hm64507 : Mem w0 w (cat [sg g32833 28 (0, 0) [] [v56809, v56813] [], h32817, h56810, h56814, hz63000, (bif b 10 then sg g64003 28 (0, 0) [] [(.slice none 0 0), (.slice none 0 0)] [] else []), (bif b 11 then sg g64101 35 (0, 0) [] [(.int .i64 0), (.int .i64 0)] [] else [])]) := Mem.pick [0, 1, 2, 3, 4, 7, 8] rfl (Mem.cg (B := [sg g32833 28 (0, 0) [] [v56809, v56813] [], h32817, h56810, h56814, hz63000, [], [], (bif b 10 then sg g64003 28 (0, 0) [] [(.slice none 0 0), (.slice none 0 0)] [] else []), (bif b 11 then sg g64101 35 (0, 0) [] [(.int .i64 0), (.int .i64 0)] [] else [])]) (cat_cons rfl (cat_cons rfl (cat_cons rfl (cat_cons rfl (cat_cons rfl (cat_cons (off_ b5 rfl) (cat_cons (off_ b5 rfl) (cat_cons (off_ b12 rfl) (cat_cons (off_ b13 rfl) rfl))))))))) hm)
        refine e_val (i := 2) hbi rfl rfl (v := (.int .i64 s56819)) (won rfl) rfl rfl (x_move rfl (ev (t := 15) (v := (.int .i64 s56819)) rfl ((sel_no rfl).trans q56820))) ?_
        exact hK _ _ ⟨_, v63503, h63505, v63507, h63509, g64003, g64101, rfl, y0, y1, fun _ => rfl, y3, y4, y5, y6, y7, y8, y9, y10, y11, y14, H63504, H63508, Mem.gc (A := [sg g32833 28 (0, 0) [] [v56809, v56813] [], h32817, h56810, h56814, hz63000, [], [], (bif b 10 then sg g64003 28 (0, 0) [] [(.slice none 0 0), (.slice none 0 0)] [] else []), (bif b 11 then sg g64101 35 (0, 0) [] [(.int .i64 0), (.int .i64 0)] [] else [])]) (cat_cons rfl (cat_cons rfl (cat_cons rfl (cat_cons rfl (cat_cons rfl (cat_cons (off_ b5 rfl) (cat_cons (off_ b5 rfl) (cat_cons (off_ b12 rfl) (cat_cons (off_ b13 rfl) rfl))))))))) (Mem.pick [0, 1, 2, 3, 4, 1005, 1006, 5, 6] rfl hm64507)⟩
       ·
        intro b a w hI hbi hn hc K hK
        obtain ⟨vs, v63503, h63505, v63507, h63509, g64003, g64101, ha, y0, y1, y2, y3, y4, y5, y6, y7, y8, y9, y10, y11, y14, H63504, H63508, hm⟩ := hI
        subst ha
        have b1 : b 1 = true := hn 1 (da rfl)
        have b2 : b 2 = true := hn 2 (da rfl)
        have b4 : b 4 = false := later (j := 4) hc rfl (i := 3) (da rfl) hbi
        have b5 : b 5 = false := later (j := 5) hc rfl (i := 4) (da rfl) b4
        have b6 : b 6 = false := later (j := 6) hc rfl (i := 5) (da rfl) b5
        have b7 : b 7 = false := later (j := 7) hc rfl (i := 6) (da rfl) b6
        have b8 : b 8 = false := later (j := 8) hc rfl (i := 6) (da rfl) b6
        have b9 : b 9 = false := later (j := 9) hc rfl (i := 6) (da rfl) b6
        have b12 : b 12 = false := later (j := 12) hc rfl (i := 3) (da rfl) hbi
        have b13 : b 13 = false := later (j := 13) hc rfl (i := 3) (da rfl) hbi
        have b14 : b 14 = false := later (j := 14) hc rfl (i := 3) (da rfl) hbi
        have hm64510 : Mem w0 w (cat [sg g32833 28 (0, 0) [] [v56809, v56813] [], h32817, h56810, h56814, hz63000, (bif b 10 then sg g64003 28 (0, 0) [] [(.slice none 0 0), (.slice none 0 0)] [] else []), (bif b 11 then sg g64101 35 (0, 0) [] [(.int .i64 0), (.int .i64 0)] [] else [])]) := Mem.pick [0, 1, 2, 3, 4, 7, 8] rfl (Mem.cg (B := [sg g32833 28 (0, 0) [] [v56809, v56813] [], h32817, h56810, h56814, hz63000, [], [], (bif b 10 then sg g64003 28 (0, 0) [] [(.slice none 0 0), (.slice none 0 0)] [] else []), (bif b 11 then sg g64101 35 (0, 0) [] [(.int .i64 0), (.int .i64 0)] [] else [])]) (cat_cons rfl (cat_cons rfl (cat_cons rfl (cat_cons rfl (cat_cons rfl (cat_cons (off_ b5 rfl) (cat_cons (off_ b5 rfl) (cat_cons (off_ b12 rfl) (cat_cons (off_ b13 rfl) rfl))))))))) hm)
        refine e_val (i := 3) hbi rfl rfl (v := (.pointer (some ((slA v32815).add (Int.toNat s56819 * 4))))) (won rfl) rfl rfl (x_index (d := impl_PoolAct.K) rfl slt_24 (ev (t := 83) (v := v32815) rfl ((sel_on (p := (1, 83)) rfl b1).trans (y1 b1))) (ev (t := 84) (v := (.int .i64 s56819)) rfl ((sel_on (p := (2, 84)) rfl b2).trans (y2 b2))) (H32816.rd w0) hg63301.1 hg63301.2) ?_
        exact hK _ _ ⟨_, v63503, h63505, v63507, h63509, g64003, g64101, rfl, y0, y1, y2, fun _ => rfl, y4, y5, y6, y7, y8, y9, y10, y11, y14, H63504, H63508, Mem.gc (A := [sg g32833 28 (0, 0) [] [v56809, v56813] [], h32817, h56810, h56814, hz63000, [], [], (bif b 10 then sg g64003 28 (0, 0) [] [(.slice none 0 0), (.slice none 0 0)] [] else []), (bif b 11 then sg g64101 35 (0, 0) [] [(.int .i64 0), (.int .i64 0)] [] else [])]) (cat_cons rfl (cat_cons rfl (cat_cons rfl (cat_cons rfl (cat_cons rfl (cat_cons (off_ b5 rfl) (cat_cons (off_ b5 rfl) (cat_cons (off_ b12 rfl) (cat_cons (off_ b13 rfl) rfl))))))))) (Mem.pick [0, 1, 2, 3, 4, 1005, 1006, 5, 6] rfl hm64510)⟩
       ·
        intro b a w hI hbi hn hc K hK
        obtain ⟨vs, v63503, h63505, v63507, h63509, g64003, g64101, ha, y0, y1, y2, y3, y4, y5, y6, y7, y8, y9, y10, y11, y14, H63504, H63508, hm⟩ := hI
        subst ha
        have b3 : b 3 = true := hn 3 (da rfl)
        have b1 : b 1 = true := hc 3 _ rfl b3 1 (da rfl)
        have b2 : b 2 = true := hc 3 _ rfl b3 2 (da rfl)
        have b5 : b 5 = false := later (j := 5) hc rfl (i := 4) (da rfl) hbi
        have b6 : b 6 = false := later (j := 6) hc rfl (i := 5) (da rfl) b5
        have b7 : b 7 = false := later (j := 7) hc rfl (i := 6) (da rfl) b6
        have b8 : b 8 = false := later (j := 8) hc rfl (i := 6) (da rfl) b6
        have b9 : b 9 = false := later (j := 9) hc rfl (i := 6) (da rfl) b6
        have b12 : b 12 = false := later (j := 12) hc rfl (i := 4) (da rfl) hbi
        have b13 : b 13 = false := later (j := 13) hc rfl (i := 4) (da rfl) hbi
        have b14 : b 14 = false := later (j := 14) hc rfl (i := 4) (da rfl) hbi
        have hm64513 : Mem w0 w (cat [sg g32833 28 (0, 0) [] [v56809, v56813] [], h32817, h56810, h56814, hz63000, (bif b 10 then sg g64003 28 (0, 0) [] [(.slice none 0 0), (.slice none 0 0)] [] else []), (bif b 11 then sg g64101 35 (0, 0) [] [(.int .i64 0), (.int .i64 0)] [] else [])]) := Mem.pick [0, 1, 2, 3, 4, 7, 8] rfl (Mem.cg (B := [sg g32833 28 (0, 0) [] [v56809, v56813] [], h32817, h56810, h56814, hz63000, [], [], (bif b 10 then sg g64003 28 (0, 0) [] [(.slice none 0 0), (.slice none 0 0)] [] else []), (bif b 11 then sg g64101 35 (0, 0) [] [(.int .i64 0), (.int .i64 0)] [] else [])]) (cat_cons rfl (cat_cons rfl (cat_cons rfl (cat_cons rfl (cat_cons rfl (cat_cons (off_ b5 rfl) (cat_cons (off_ b5 rfl) (cat_cons (off_ b12 rfl) (cat_cons (off_ b13 rfl) rfl))))))))) hm)
        refine e_val (i := 4) hbi rfl rfl (v := (.agg #[(.int .i64 (ix r32813 s56819).Kind), (.int .i64 (ix r32813 s56819).Owner), (.int .i64 (ix r32813 s56819).To), (.int .i64 (ix r32813 s56819).Buffer)])) (won rfl) rfl rfl (x_loadN (vs := [(.int .i64 (ix r32813 s56819).Kind), (.int .i64 (ix r32813 s56819).Owner), (.int .i64 (ix r32813 s56819).To), (.int .i64 (ix r32813 s56819).Buffer)]) rfl tyN_39 (ev (t := 85) (v := (.pointer (some ((slA v32815).add (Int.toNat s56819 * 4))))) rfl ((sel_on (p := (3, 85)) rfl b3).trans (y3 b3))) (RdF.cells (H32816.rd w0) hm64513 (Sub.at_ (k := 1) rfl) hg63301.1 hg63301.2)) ?_
        exact hK _ _ ⟨_, v63503, h63505, v63507, h63509, g64003, g64101, rfl, y0, y1, y2, y3, fun _ => rfl, y5, y6, y7, y8, y9, y10, y11, y14, H63504, H63508, Mem.gc (A := [sg g32833 28 (0, 0) [] [v56809, v56813] [], h32817, h56810, h56814, hz63000, [], [], (bif b 10 then sg g64003 28 (0, 0) [] [(.slice none 0 0), (.slice none 0 0)] [] else []), (bif b 11 then sg g64101 35 (0, 0) [] [(.int .i64 0), (.int .i64 0)] [] else [])]) (cat_cons rfl (cat_cons rfl (cat_cons rfl (cat_cons rfl (cat_cons rfl (cat_cons (off_ b5 rfl) (cat_cons (off_ b5 rfl) (cat_cons (off_ b12 rfl) (cat_cons (off_ b13 rfl) rfl))))))))) (Mem.pick [0, 1, 2, 3, 4, 1005, 1006, 5, 6] rfl hm64513)⟩
       ·
        intro b a w hI hbi hn hc K hK
        obtain ⟨vs, v63503, h63505, v63507, h63509, g64003, g64101, ha, y0, y1, y2, y3, y4, y5, y6, y7, y8, y9, y10, y11, y14, H63504, H63508, hm⟩ := hI
        subst ha
        have b0 : b 0 = true := hn 0 (da rfl)
        have b4 : b 4 = true := hn 4 (da rfl)
        have b3 : b 3 = true := hc 4 _ rfl b4 3 (da rfl)
        have b1 : b 1 = true := hc 3 _ rfl b3 1 (da rfl)
        have b2 : b 2 = true := hc 3 _ rfl b3 2 (da rfl)
        have b6 : b 6 = false := later (j := 6) hc rfl (i := 5) (da rfl) hbi
        have b7 : b 7 = false := later (j := 7) hc rfl (i := 6) (da rfl) b6
        have b8 : b 8 = false := later (j := 8) hc rfl (i := 6) (da rfl) b6
        have b9 : b 9 = false := later (j := 9) hc rfl (i := 6) (da rfl) b6
        have b12 : b 12 = false := later (j := 12) hc rfl (i := 5) (da rfl) hbi
        have b13 : b 13 = false := later (j := 13) hc rfl (i := 5) (da rfl) hbi
        have b14 : b 14 = false := later (j := 14) hc rfl (i := 5) (da rfl) hbi
        have hm64516 : Mem w0 w (cat [sg g32833 28 (0, 0) [] [v56809, v56813] [], h32817, h56810, h56814, hz63000, (bif b 10 then sg g64003 28 (0, 0) [] [(.slice none 0 0), (.slice none 0 0)] [] else []), (bif b 11 then sg g64101 35 (0, 0) [] [(.int .i64 0), (.int .i64 0)] [] else [])]) := Mem.pick [0, 1, 2, 3, 4, 7, 8] rfl (Mem.cg (B := [sg g32833 28 (0, 0) [] [v56809, v56813] [], h32817, h56810, h56814, hz63000, [], [], (bif b 10 then sg g64003 28 (0, 0) [] [(.slice none 0 0), (.slice none 0 0)] [] else []), (bif b 11 then sg g64101 35 (0, 0) [] [(.int .i64 0), (.int .i64 0)] [] else [])]) (cat_cons rfl (cat_cons rfl (cat_cons rfl (cat_cons rfl (cat_cons rfl (cat_cons (off_ hbi rfl) (cat_cons (off_ hbi rfl) (cat_cons (off_ b12 rfl) (cat_cons (off_ b13 rfl) rfl))))))))) hm)
        refine e_call (i := 5) hbi rfl rfl (won rfl) rfl rfl (x_call rfl rfl cl_14 (map_lit (map_cons (ev (t := 82) (v := (.agg #[v56809, v56813])) rfl ((sel_on (p := (0, 82)) rfl b0).trans (y0 b0))) (map_cons (ev (t := 86) (v := (.agg #[(.int .i64 (ix r32813 s56819).Kind), (.int .i64 (ix r32813 s56819).Owner), (.int .i64 (ix r32813 s56819).To), (.int .i64 (ix r32813 s56819).Buffer)])) rfl ((sel_on (p := (4, 86)) rfl b4).trans (y4 b4))) map_nil)))) (impl_PoolStep_ok F (hR := (cat [h56810, h56814])) (hF := cat [sg g32833 28 (0, 0) [] [v56809, v56813] [], h32817, h56810, h56814, hz63000, (bif b 10 then sg g64003 28 (0, 0) [] [(.slice none 0 0), (.slice none 0 0)] [] else []), (bif b 11 then sg g64101 35 (0, 0) [] [(.int .i64 0), (.int .i64 0)] [] else [])]) (impl_Pool.mk s56808 s56812) (impl_PoolAct.mk (ix r32813 s56819).Kind (ix r32813 s56819).Owner (ix r32813 s56819).To (ix r32813 s56819).Buffer) ((H56811.rd w0).mono (Sub.at_ (k := 0) rfl)) ((H56815.rd w0).mono (Sub.at_ (k := 1) rfl)) (subc (Sub.at_ (k := 2) rfl) (subc (Sub.at_ (k := 3) rfl) subn)) (Mem.one hm64516) hr63501) ?_
        rintro e w63510 ⟨v63503, h63505, v63507, h63509, rfl, H63504, H63508, hm63511⟩
        refine ⟨_, rfl, ?_⟩
        replace hm63511 : Mem w0 w63510 (cat [h63505, h63509, sg g32833 28 (0, 0) [] [v56809, v56813] [], h32817, h56810, h56814, hz63000, (bif b 10 then sg g64003 28 (0, 0) [] [(.slice none 0 0), (.slice none 0 0)] [] else []), (bif b 11 then sg g64101 35 (0, 0) [] [(.int .i64 0), (.int .i64 0)] [] else [])]) := Mem.ung [h63505, h63509] [sg g32833 28 (0, 0) [] [v56809, v56813] [], h32817, h56810, h56814, hz63000, (bif b 10 then sg g64003 28 (0, 0) [] [(.slice none 0 0), (.slice none 0 0)] [] else []), (bif b 11 then sg g64101 35 (0, 0) [] [(.int .i64 0), (.int .i64 0)] [] else [])] hm63511
        exact hK _ _ ⟨_, v63503, h63505, v63507, h63509, g64003, g64101, rfl, y0, y1, y2, y3, y4, fun _ => rfl, fun hb => ab b6 hb, fun hb => ab b7 hb, y8, y9, y10, y11, y14, fun _ => H63504, fun _ => H63508, Mem.gc (A := [sg g32833 28 (0, 0) [] [v56809, v56813] [], h32817, h56810, h56814, hz63000, h63505, h63509, (bif b 10 then sg g64003 28 (0, 0) [] [(.slice none 0 0), (.slice none 0 0)] [] else []), (bif b 11 then sg g64101 35 (0, 0) [] [(.int .i64 0), (.int .i64 0)] [] else [])]) (cat_cons rfl (cat_cons rfl (cat_cons rfl (cat_cons rfl (cat_cons rfl (cat_cons (on_ rfl rfl) (cat_cons (on_ rfl rfl) (cat_cons (off_ b12 rfl) (cat_cons (off_ b13 rfl) rfl))))))))) (Mem.pick [2, 3, 4, 5, 6, 0, 1, 7, 8] rfl hm63511)⟩
       ·
        intro b a w hI hbi hn hc K hK
        obtain ⟨vs, v63503, h63505, v63507, h63509, g64003, g64101, ha, y0, y1, y2, y3, y4, y5, y6, y7, y8, y9, y10, y11, y14, H63504, H63508, hm⟩ := hI
        subst ha
        have b5 : b 5 = true := hn 5 (da rfl)
        have b0 : b 0 = true := hc 5 _ rfl b5 0 (da rfl)
        have b4 : b 4 = true := hc 5 _ rfl b5 4 (da rfl)
        have b3 : b 3 = true := hc 4 _ rfl b4 3 (da rfl)
        have b1 : b 1 = true := hc 3 _ rfl b3 1 (da rfl)
        have b2 : b 2 = true := hc 3 _ rfl b3 2 (da rfl)
        have b7 : b 7 = false := later (j := 7) hc rfl (i := 6) (da rfl) hbi
        have b8 : b 8 = false := later (j := 8) hc rfl (i := 6) (da rfl) hbi
        have b9 : b 9 = false := later (j := 9) hc rfl (i := 6) (da rfl) hbi
        have b12 : b 12 = false := later (j := 12) hc rfl (i := 6) (da rfl) hbi
        have b13 : b 13 = false := later (j := 13) hc rfl (i := 6) (da rfl) hbi
        have b14 : b 14 = false := later (j := 14) hc rfl (i := 6) (da rfl) hbi
        have H63504 := H63504 b5
        have H63508 := H63508 b5
        have hm64519 : Mem w0 w (cat [sg g32833 28 (0, 0) [] [v56809, v56813] [], h32817, h56810, h56814, hz63000, h63505, h63509, (bif b 10 then sg g64003 28 (0, 0) [] [(.slice none 0 0), (.slice none 0 0)] [] else []), (bif b 11 then sg g64101 35 (0, 0) [] [(.int .i64 0), (.int .i64 0)] [] else [])]) := Mem.pick [0, 1, 2, 3, 4, 5, 6, 7, 8] rfl (Mem.cg (B := [sg g32833 28 (0, 0) [] [v56809, v56813] [], h32817, h56810, h56814, hz63000, h63505, h63509, (bif b 10 then sg g64003 28 (0, 0) [] [(.slice none 0 0), (.slice none 0 0)] [] else []), (bif b 11 then sg g64101 35 (0, 0) [] [(.int .i64 0), (.int .i64 0)] [] else [])]) (cat_cons rfl (cat_cons rfl (cat_cons rfl (cat_cons rfl (cat_cons rfl (cat_cons (on_ b5 rfl) (cat_cons (on_ b5 rfl) (cat_cons (off_ b12 rfl) (cat_cons (off_ b13 rfl) rfl))))))))) hm)
        refine e_val (i := 6) hbi rfl rfl (v := (.tuple #[(.agg #[v63503, v63507]), (.agg #[(.int .i64 r63501.2.1.Code), (.int .i64 r63501.2.1.Buffer)]), (.int .i64 r63501.2.2)])) (won rfl) rfl rfl (x_move rfl (ev (t := 87) (v := (.tuple #[(.agg #[v63503, v63507]), (.agg #[(.int .i64 r63501.2.1.Code), (.int .i64 r63501.2.1.Buffer)]), (.int .i64 r63501.2.2)])) rfl ((sel_on (p := (5, 87)) rfl b5).trans (y5 b5)))) ?_
        exact hK _ _ ⟨_, v63503, h63505, v63507, h63509, g64003, g64101, rfl, y0, y1, y2, y3, y4, y5, fun _ => rfl, y7, y8, y9, y10, y11, y14, fun _ => H63504, fun _ => H63508, Mem.gc (A := [sg g32833 28 (0, 0) [] [v56809, v56813] [], h32817, h56810, h56814, hz63000, h63505, h63509, (bif b 10 then sg g64003 28 (0, 0) [] [(.slice none 0 0), (.slice none 0 0)] [] else []), (bif b 11 then sg g64101 35 (0, 0) [] [(.int .i64 0), (.int .i64 0)] [] else [])]) (cat_cons rfl (cat_cons rfl (cat_cons rfl (cat_cons rfl (cat_cons rfl (cat_cons (on_ b5 rfl) (cat_cons (on_ b5 rfl) (cat_cons (off_ b12 rfl) (cat_cons (off_ b13 rfl) rfl))))))))) (Mem.pick [0, 1, 2, 3, 4, 5, 6, 7, 8] rfl hm64519)⟩
       ·
        intro b a w hI hbi hn hc K hK
        obtain ⟨vs, v63503, h63505, v63507, h63509, g64003, g64101, ha, y0, y1, y2, y3, y4, y5, y6, y7, y8, y9, y10, y11, y14, H63504, H63508, hm⟩ := hI
        subst ha
        have b6 : b 6 = true := hn 6 (da rfl)
        have b5 : b 5 = true := hc 6 _ rfl b6 5 (da rfl)
        have b0 : b 0 = true := hc 5 _ rfl b5 0 (da rfl)
        have b4 : b 4 = true := hc 5 _ rfl b5 4 (da rfl)
        have b3 : b 3 = true := hc 4 _ rfl b4 3 (da rfl)
        have b1 : b 1 = true := hc 3 _ rfl b3 1 (da rfl)
        have b2 : b 2 = true := hc 3 _ rfl b3 2 (da rfl)
        have b12 : b 12 = false := later (j := 12) hc rfl (i := 7) (da rfl) hbi
        have b13 : b 13 = false := later (j := 13) hc rfl (i := 7) (da rfl) hbi
        have b14 : b 14 = false := later (j := 14) hc rfl (i := 7) (da rfl) hbi
        have H63504 := H63504 b5
        have H63508 := H63508 b5
        have hm64522 : Mem w0 w (cat [sg g32833 28 (0, 0) [] [v56809, v56813] [], h32817, h56810, h56814, hz63000, h63505, h63509, (bif b 10 then sg g64003 28 (0, 0) [] [(.slice none 0 0), (.slice none 0 0)] [] else []), (bif b 11 then sg g64101 35 (0, 0) [] [(.int .i64 0), (.int .i64 0)] [] else [])]) := Mem.pick [0, 1, 2, 3, 4, 5, 6, 7, 8] rfl (Mem.cg (B := [sg g32833 28 (0, 0) [] [v56809, v56813] [], h32817, h56810, h56814, hz63000, h63505, h63509, (bif b 10 then sg g64003 28 (0, 0) [] [(.slice none 0 0), (.slice none 0 0)] [] else []), (bif b 11 then sg g64101 35 (0, 0) [] [(.int .i64 0), (.int .i64 0)] [] else [])]) (cat_cons rfl (cat_cons rfl (cat_cons rfl (cat_cons rfl (cat_cons rfl (cat_cons (on_ b5 rfl) (cat_cons (on_ b5 rfl) (cat_cons (off_ b12 rfl) (cat_cons (off_ b13 rfl) rfl))))))))) hm)
        refine e_val (i := 7) hbi rfl rfl (v := (.agg #[v63503, v63507])) (won rfl) rfl rfl (x_extract rfl (ev (t := 81) (v := (.tuple #[(.agg #[v63503, v63507]), (.agg #[(.int .i64 r63501.2.1.Code), (.int .i64 r63501.2.1.Buffer)]), (.int .i64 r63501.2.2)])) rfl ((sel_on (p := (6, 81)) rfl b6).trans (y6 b6))) rfl) ?_
        exact hK _ _ ⟨_, v63503, h63505, v63507, h63509, g64003, g64101, rfl, y0, y1, y2, y3, y4, y5, y6, fun _ => rfl, y8, y9, y10, y11, y14, fun _ => H63504, fun _ => H63508, Mem.gc (A := [sg g32833 28 (0, 0) [] [v56809, v56813] [], h32817, h56810, h56814, hz63000, h63505, h63509, (bif b 10 then sg g64003 28 (0, 0) [] [(.slice none 0 0), (.slice none 0 0)] [] else []), (bif b 11 then sg g64101 35 (0, 0) [] [(.int .i64 0), (.int .i64 0)] [] else [])]) (cat_cons rfl (cat_cons rfl (cat_cons rfl (cat_cons rfl (cat_cons rfl (cat_cons (on_ b5 rfl) (cat_cons (on_ b5 rfl) (cat_cons (off_ b12 rfl) (cat_cons (off_ b13 rfl) rfl))))))))) (Mem.pick [0, 1, 2, 3, 4, 5, 6, 7, 8] rfl hm64522)⟩
       ·
        intro b a w hI hbi hn hc K hK
        obtain ⟨vs, v63503, h63505, v63507, h63509, g64003, g64101, ha, y0, y1, y2, y3, y4, y5, y6, y7, y8, y9, y10, y11, y14, H63504, H63508, hm⟩ := hI
        subst ha
        have b6 : b 6 = true := hn 6 (da rfl)
        have b5 : b 5 = true := hc 6 _ rfl b6 5 (da rfl)
        have b0 : b 0 = true := hc 5 _ rfl b5 0 (da rfl)
        have b4 : b 4 = true := hc 5 _ rfl b5 4 (da rfl)
        have b3 : b 3 = true := hc 4 _ rfl b4 3 (da rfl)
        have b1 : b 1 = true := hc 3 _ rfl b3 1 (da rfl)
        have b2 : b 2 = true := hc 3 _ rfl b3 2 (da rfl)
        have b13 : b 13 = false := later (j := 13) hc rfl (i := 8) (da rfl) hbi
        have b14 : b 14 = false := later (j := 14) hc rfl (i := 8) (da rfl) hbi
        have H63504 := H63504 b5
        have H63508 := H63508 b5
        have hm64525 : Mem w0 w (cat [sg g32833 28 (0, 0) [] [v56809, v56813] [], h32817, h56810, h56814, hz63000, h63505, h63509, (bif b 12 then sg g64003 28 (0, 0) [] [v63503, v63507] [] else (bif b 10 then sg g64003 28 (0, 0) [] [(.slice none 0 0), (.slice none 0 0)] [] else [])), (bif b 11 then sg g64101 35 (0, 0) [] [(.int .i64 0), (.int .i64 0)] [] else [])]) := Mem.pick [0, 1, 2, 3, 4, 5, 6, 7, 8] rfl (Mem.cg (B := [sg g32833 28 (0, 0) [] [v56809, v56813] [], h32817, h56810, h56814, hz63000, h63505, h63509, (bif b 12 then sg g64003 28 (0, 0) [] [v63503, v63507] [] else (bif b 10 then sg g64003 28 (0, 0) [] [(.slice none 0 0), (.slice none 0 0)] [] else [])), (bif b 11 then sg g64101 35 (0, 0) [] [(.int .i64 0), (.int .i64 0)] [] else [])]) (cat_cons rfl (cat_cons rfl (cat_cons rfl (cat_cons rfl (cat_cons rfl (cat_cons (on_ b5 rfl) (cat_cons (on_ b5 rfl) (cat_cons rfl (cat_cons (off_ b13 rfl) rfl))))))))) hm)
        refine e_val (i := 8) hbi rfl rfl (v := (.agg #[(.int .i64 r63501.2.1.Code), (.int .i64 r63501.2.1.Buffer)])) (won rfl) rfl rfl (x_extract rfl (ev (t := 81) (v := (.tuple #[(.agg #[v63503, v63507]), (.agg #[(.int .i64 r63501.2.1.Code), (.int .i64 r63501.2.1.Buffer)]), (.int .i64 r63501.2.2)])) rfl ((sel_on (p := (6, 81)) rfl b6).trans (y6 b6))) rfl) ?_
        exact hK _ _ ⟨_, v63503, h63505, v63507, h63509, g64003, g64101, rfl, y0, y1, y2, y3, y4, y5, y6, y7, fun _ => rfl, y9, y10, y11, y14, fun _ => H63504, fun _ => H63508, Mem.gc (A := [sg g32833 28 (0, 0) [] [v56809, v56813] [], h32817, h56810, h56814, hz63000, h63505, h63509, (bif b 12 then sg g64003 28 (0, 0) [] [v63503, v63507] [] else (bif b 10 then sg g64003 28 (0, 0) [] [(.slice none 0 0), (.slice none 0 0)] [] else [])), (bif b 11 then sg g64101 35 (0, 0) [] [(.int .i64 0), (.int .i64 0)] [] else [])]) (cat_cons rfl (cat_cons rfl (cat_cons rfl (cat_cons rfl (cat_cons rfl (cat_cons (on_ b5 rfl) (cat_cons (on_ b5 rfl) (cat_cons rfl (cat_cons (off_ b13 rfl) rfl))))))))) (Mem.pick [0, 1, 2, 3, 4, 5, 6, 7, 8] rfl hm64525)⟩
       ·
        intro b a w hI hbi hn hc K hK
        obtain ⟨vs, v63503, h63505, v63507, h63509, g64003, g64101, ha, y0, y1, y2, y3, y4, y5, y6, y7, y8, y9, y10, y11, y14, H63504, H63508, hm⟩ := hI
        subst ha
        have b6 : b 6 = true := hn 6 (da rfl)
        have b5 : b 5 = true := hc 6 _ rfl b6 5 (da rfl)
        have b0 : b 0 = true := hc 5 _ rfl b5 0 (da rfl)
        have b4 : b 4 = true := hc 5 _ rfl b5 4 (da rfl)
        have b3 : b 3 = true := hc 4 _ rfl b4 3 (da rfl)
        have b1 : b 1 = true := hc 3 _ rfl b3 1 (da rfl)
        have b2 : b 2 = true := hc 3 _ rfl b3 2 (da rfl)
        have b14 : b 14 = false := later (j := 14) hc rfl (i := 9) (da rfl) hbi
        have H63504 := H63504 b5
        have H63508 := H63508 b5
        have hm64528 : Mem w0 w (cat [sg g32833 28 (0, 0) [] [v56809, v56813] [], h32817, h56810, h56814, hz63000, h63505, h63509, (bif b 12 then sg g64003 28 (0, 0) [] [v63503, v63507] [] else (bif b 10 then sg g64003 28 (0, 0) [] [(.slice none 0 0), (.slice none 0 0)] [] else [])), (bif b 13 then sg g64101 35 (0, 0) [] [(.int .i64 r63501.2.1.Code), (.int .i64 r63501.2.1.Buffer)] [] else (bif b 11 then sg g64101 35 (0, 0) [] [(.int .i64 0), (.int .i64 0)] [] else []))]) := Mem.pick [0, 1, 2, 3, 4, 5, 6, 7, 8] rfl (Mem.cg (B := [sg g32833 28 (0, 0) [] [v56809, v56813] [], h32817, h56810, h56814, hz63000, h63505, h63509, (bif b 12 then sg g64003 28 (0, 0) [] [v63503, v63507] [] else (bif b 10 then sg g64003 28 (0, 0) [] [(.slice none 0 0), (.slice none 0 0)] [] else [])), (bif b 13 then sg g64101 35 (0, 0) [] [(.int .i64 r63501.2.1.Code), (.int .i64 r63501.2.1.Buffer)] [] else (bif b 11 then sg g64101 35 (0, 0) [] [(.int .i64 0), (.int .i64 0)] [] else []))]) (cat_cons rfl (cat_cons rfl (cat_cons rfl (cat_cons rfl (cat_cons rfl (cat_cons (on_ b5 rfl) (cat_cons (on_ b5 rfl) (cat_cons rfl (cat_cons rfl rfl))))))))) hm)
        refine e_val (i := 9) hbi rfl rfl (v := (.int .i64 r63501.2.2)) (won rfl) rfl rfl (x_extract rfl (ev (t := 81) (v := (.tuple #[(.agg #[v63503, v63507]), (.agg #[(.int .i64 r63501.2.1.Code), (.int .i64 r63501.2.1.Buffer)]), (.int .i64 r63501.2.2)])) rfl ((sel_on (p := (6, 81)) rfl b6).trans (y6 b6))) rfl) ?_
        exact hK _ _ ⟨_, v63503, h63505, v63507, h63509, g64003, g64101, rfl, y0, y1, y2, y3, y4, y5, y6, y7, y8, fun _ => rfl, y10, y11, y14, fun _ => H63504, fun _ => H63508, Mem.gc (A := [sg g32833 28 (0, 0) [] [v56809, v56813] [], h32817, h56810, h56814, hz63000, h63505, h63509, (bif b 12 then sg g64003 28 (0, 0) [] [v63503, v63507] [] else (bif b 10 then sg g64003 28 (0, 0) [] [(.slice none 0 0), (.slice none 0 0)] [] else [])), (bif b 13 then sg g64101 35 (0, 0) [] [(.int .i64 r63501.2.1.Code), (.int .i64 r63501.2.1.Buffer)] [] else (bif b 11 then sg g64101 35 (0, 0) [] [(.int .i64 0), (.int .i64 0)] [] else []))]) (cat_cons rfl (cat_cons rfl (cat_cons rfl (cat_cons rfl (cat_cons rfl (cat_cons (on_ b5 rfl) (cat_cons (on_ b5 rfl) (cat_cons rfl (cat_cons rfl rfl))))))))) (Mem.pick [0, 1, 2, 3, 4, 5, 6, 7, 8] rfl hm64528)⟩
       ·
        intro b a w hI hbi hn hc K hK
        obtain ⟨vs, v63503, h63505, v63507, h63509, g64003, g64101, ha, y0, y1, y2, y3, y4, y5, y6, y7, y8, y9, y10, y11, y14, H63504, H63508, hm⟩ := hI
        subst ha
        have b12 : b 12 = false := later (j := 12) hc rfl (i := 10) (da rfl) hbi
        have b13 : b 13 = false := later (j := 13) hc rfl (i := 10) (da rfl) hbi
        have b14 : b 14 = false := later (j := 14) hc rfl (i := 10) (da rfl) hbi
        have hm64531 : Mem w0 w (cat [sg g32833 28 (0, 0) [] [v56809, v56813] [], h32817, h56810, h56814, hz63000, (bif b 5 then h63505 else []), (bif b 5 then h63509 else []), (bif b 11 then sg g64101 35 (0, 0) [] [(.int .i64 0), (.int .i64 0)] [] else [])]) := Mem.pick [0, 1, 2, 3, 4, 5, 6, 8] rfl (Mem.cg (B := [sg g32833 28 (0, 0) [] [v56809, v56813] [], h32817, h56810, h56814, hz63000, (bif b 5 then h63505 else []), (bif b 5 then h63509 else []), [], (bif b 11 then sg g64101 35 (0, 0) [] [(.int .i64 0), (.int .i64 0)] [] else [])]) (cat_cons rfl (cat_cons rfl (cat_cons rfl (cat_cons rfl (cat_cons rfl (cat_cons rfl (cat_cons rfl (cat_cons (off_ b12 (off_ hbi rfl)) (cat_cons (off_ b13 rfl) rfl))))))))) hm)
        refine e_exv (i := 10) hbi rfl rfl (won rfl) rfl rfl (e_alloc (vs := [(.slice none 0 0), (.slice none 0 0)]) rfl zt_28 rfl hm64531) ?_
        rintro g64003 w64004 hm64005
        exact hK _ _ ⟨_, v63503, h63505, v63507, h63509, g64003, g64101, rfl, y0, y1, y2, y3, y4, y5, y6, y7, y8, y9, fun _ => rfl, y11, y14, H63504, H63508, Mem.gc (A := [sg g32833 28 (0, 0) [] [v56809, v56813] [], h32817, h56810, h56814, hz63000, (bif b 5 then h63505 else []), (bif b 5 then h63509 else []), sg g64003 28 (0, 0) [] [(.slice none 0 0), (.slice none 0 0)] [], (bif b 11 then sg g64101 35 (0, 0) [] [(.int .i64 0), (.int .i64 0)] [] else [])]) (cat_cons rfl (cat_cons rfl (cat_cons rfl (cat_cons rfl (cat_cons rfl (cat_cons rfl (cat_cons rfl (cat_cons (off_ b12 (on_ rfl rfl)) (cat_cons (off_ b13 rfl) rfl))))))))) (Mem.pick [1, 2, 3, 4, 5, 6, 7, 0, 8] rfl hm64005)⟩
       ·
        intro b a w hI hbi hn hc K hK
        obtain ⟨vs, v63503, h63505, v63507, h63509, g64003, g64101, ha, y0, y1, y2, y3, y4, y5, y6, y7, y8, y9, y10, y11, y14, H63504, H63508, hm⟩ := hI
        subst ha
        have b12 : b 12 = false := later (j := 12) hc rfl (i := 11) (da rfl) hbi
        have b13 : b 13 = false := later (j := 13) hc rfl (i := 11) (da rfl) hbi
        have b14 : b 14 = false := later (j := 14) hc rfl (i := 11) (da rfl) hbi
        have hm64534 : Mem w0 w (cat [sg g32833 28 (0, 0) [] [v56809, v56813] [], h32817, h56810, h56814, hz63000, (bif b 5 then h63505 else []), (bif b 5 then h63509 else []), (bif b 10 then sg g64003 28 (0, 0) [] [(.slice none 0 0), (.slice none 0 0)] [] else [])]) := Mem.pick [0, 1, 2, 3, 4, 5, 6, 7] rfl (Mem.cg (B := [sg g32833 28 (0, 0) [] [v56809, v56813] [], h32817, h56810, h56814, hz63000, (bif b 5 then h63505 else []), (bif b 5 then h63509 else []), (bif b 10 then sg g64003 28 (0, 0) [] [(.slice none 0 0), (.slice none 0 0)] [] else []), []]) (cat_cons rfl (cat_cons rfl (cat_cons rfl (cat_cons rfl (cat_cons rfl (cat_cons rfl (cat_cons rfl (cat_cons (off_ b12 rfl) (cat_cons (off_ b13 (off_ hbi rfl)) rfl))))))))) hm)
        refine e_exv (i := 11) hbi rfl rfl (won rfl) rfl rfl (e_alloc (vs := [(.int .i64 0), (.int .i64 0)]) rfl zt_35 rfl hm64534) ?_
        rintro g64101 w64102 hm64103
        exact hK _ _ ⟨_, v63503, h63505, v63507, h63509, g64003, g64101, rfl, y0, y1, y2, y3, y4, y5, y6, y7, y8, y9, y10, fun _ => rfl, y14, H63504, H63508, Mem.gc (A := [sg g32833 28 (0, 0) [] [v56809, v56813] [], h32817, h56810, h56814, hz63000, (bif b 5 then h63505 else []), (bif b 5 then h63509 else []), (bif b 10 then sg g64003 28 (0, 0) [] [(.slice none 0 0), (.slice none 0 0)] [] else []), sg g64101 35 (0, 0) [] [(.int .i64 0), (.int .i64 0)] []]) (cat_cons rfl (cat_cons rfl (cat_cons rfl (cat_cons rfl (cat_cons rfl (cat_cons rfl (cat_cons rfl (cat_cons (off_ b12 rfl) (cat_cons (off_ b13 (on_ rfl rfl)) rfl))))))))) (Mem.pick [1, 2, 3, 4, 5, 6, 7, 8, 0] rfl hm64103)⟩
       ·
        intro b a w hI hbi hn hc K hK
        obtain ⟨vs, v63503, h63505, v63507, h63509, g64003, g64101, ha, y0, y1, y2, y3, y4, y5, y6, y7, y8, y9, y10, y11, y14, H63504, H63508, hm⟩ := hI
        subst ha
        have b0 : b 0 = true := hn 0 (da rfl)
        have b1 : b 1 = true := hn 1 (da rfl)
        have b2 : b 2 = true := hn 2 (da rfl)
        have b3 : b 3 = true := hn 3 (da rfl)
        have b4 : b 4 = true := hn 4 (da rfl)
        have b5 : b 5 = true := hn 5 (da rfl)
        have b6 : b 6 = true := hn 6 (da rfl)
        have b7 : b 7 = true := hn 7 (da rfl)
        have b10 : b 10 = true := hn 10 (da rfl)
        have b11 : b 11 = true := hn 11 (da rfl)
        have b13 : b 13 = false := later (j := 13) hc rfl (i := 12) (da rfl) hbi
        have b14 : b 14 = false := later (j := 14) hc rfl (i := 12) (da rfl) hbi
        have H63504 := H63504 b5
        have H63508 := H63508 b5
        have hm64537 : Mem w0 w (cat [sg g32833 28 (0, 0) [] [v56809, v56813] [], h32817, h56810, h56814, hz63000, h63505, h63509, sg g64003 28 (0, 0) [] [(.slice none 0 0), (.slice none 0 0)] [], sg g64101 35 (0, 0) [] [(.int .i64 0), (.int .i64 0)] []]) := Mem.pick [0, 1, 2, 3, 4, 5, 6, 7, 8] rfl (Mem.cg (B := [sg g32833 28 (0, 0) [] [v56809, v56813] [], h32817, h56810, h56814, hz63000, h63505, h63509, sg g64003 28 (0, 0) [] [(.slice none 0 0), (.slice none 0 0)] [], sg g64101 35 (0, 0) [] [(.int .i64 0), (.int .i64 0)] []]) (cat_cons rfl (cat_cons rfl (cat_cons rfl (cat_cons rfl (cat_cons rfl (cat_cons (on_ b5 rfl) (cat_cons (on_ b5 rfl) (cat_cons (off_ hbi (on_ b10 rfl)) (cat_cons (off_ b13 (on_ b11 rfl)) rfl))))))))) hm)
        refine e_exs (i := 12) hbi rfl (won rfl) rfl (e_store (vs := [v63503, v63507]) (o' := 0) (j := 0) rfl sz_28 (ev (t := 16) (v := (.pointer (some ⟨g64003, 0, none⟩))) rfl ((sel_on (p := (10, 16)) rfl b10).trans (y10 b10))) (ev (t := 88) (v := (.agg #[v63503, v63507])) rfl ((sel_on (p := (7, 88)) rfl b7).trans (y7 b7))) rfl (one_cons (IsSl.one (H63504).sl) (one_cons (IsSl.one (H63508).sl) one_nil)) hm64537 (k := 7) rfl rfl rfl) ?_
        intro w64201 hm64202
        replace hm64202 : Mem w0 w64201 (cat [sg g32833 28 (0, 0) [] [v56809, v56813] [], h32817, h56810, h56814, hz63000, h63505, h63509, sg g64003 28 (0, 0) [] [v63503, v63507] [], sg g64101 35 (0, 0) [] [(.int .i64 0), (.int .i64 0)] []]) := hm64202
        exact hK _ _ ⟨_, v63503, h63505, v63507, h63509, g64003, g64101, rfl, y0, y1, y2, y3, y4, y5, y6, y7, y8, y9, y10, y11, y14, fun _ => H63504, fun _ => H63508, Mem.gc (A := [sg g32833 28 (0, 0) [] [v56809, v56813] [], h32817, h56810, h56814, hz63000, h63505, h63509, sg g64003 28 (0, 0) [] [v63503, v63507] [], sg g64101 35 (0, 0) [] [(.int .i64 0), (.int .i64 0)] []]) (cat_cons rfl (cat_cons rfl (cat_cons rfl (cat_cons rfl (cat_cons rfl (cat_cons (on_ b5 rfl) (cat_cons (on_ b5 rfl) (cat_cons (on_ rfl rfl) (cat_cons (off_ b13 (on_ b11 rfl)) rfl))))))))) (Mem.pick [0, 1, 2, 3, 4, 5, 6, 7, 8] rfl hm64202)⟩
       ·
        intro b a w hI hbi hn hc K hK
        obtain ⟨vs, v63503, h63505, v63507, h63509, g64003, g64101, ha, y0, y1, y2, y3, y4, y5, y6, y7, y8, y9, y10, y11, y14, H63504, H63508, hm⟩ := hI
        subst ha
        have b0 : b 0 = true := hn 0 (da rfl)
        have b1 : b 1 = true := hn 1 (da rfl)
        have b2 : b 2 = true := hn 2 (da rfl)
        have b3 : b 3 = true := hn 3 (da rfl)
        have b4 : b 4 = true := hn 4 (da rfl)
        have b5 : b 5 = true := hn 5 (da rfl)
        have b6 : b 6 = true := hn 6 (da rfl)
        have b7 : b 7 = true := hn 7 (da rfl)
        have b8 : b 8 = true := hn 8 (da rfl)
        have b10 : b 10 = true := hn 10 (da rfl)
        have b11 : b 11 = true := hn 11 (da rfl)
        have b12 : b 12 = true := hn 12 (da rfl)
        have b14 : b 14 = false := later (j := 14) hc rfl (i := 13) (da rfl) hbi
        have H63504 := H63504 b5
        have H63508 := H63508 b5
        have hm64540 : Mem w0 w (cat [sg g32833 28 (0, 0) [] [v56809, v56813] [], h32817, h56810, h56814, hz63000, h63505, h63509, sg g64003 28 (0, 0) [] [v63503, v63507] [], sg g64101 35 (0, 0) [] [(.int .i64 0), (.int .i64 0)] []]) := Mem.pick [0, 1, 2, 3, 4, 5, 6, 7, 8] rfl (Mem.cg (B := [sg g32833 28 (0, 0) [] [v56809, v56813] [], h32817, h56810, h56814, hz63000, h63505, h63509, sg g64003 28 (0, 0) [] [v63503, v63507] [], sg g64101 35 (0, 0) [] [(.int .i64 0), (.int .i64 0)] []]) (cat_cons rfl (cat_cons rfl (cat_cons rfl (cat_cons rfl (cat_cons rfl (cat_cons (on_ b5 rfl) (cat_cons (on_ b5 rfl) (cat_cons (on_ b12 rfl) (cat_cons (off_ hbi (on_ b11 rfl)) rfl))))))))) hm)
        refine e_exs (i := 13) hbi rfl (won rfl) rfl (e_store (vs := [(.int .i64 r63501.2.1.Code), (.int .i64 r63501.2.1.Buffer)]) (o' := 0) (j := 0) rfl sz_35 (ev (t := 17) (v := (.pointer (some ⟨g64101, 0, none⟩))) rfl ((sel_on (p := (11, 17)) rfl b11).trans (y11 b11))) (ev (t := 89) (v := (.agg #[(.int .i64 r63501.2.1.Code), (.int .i64 r63501.2.1.Buffer)])) rfl ((sel_on (p := (8, 89)) rfl b8).trans (y8 b8))) rfl rfl hm64540 (k := 8) rfl rfl rfl) ?_
        intro w64301 hm64302
        replace hm64302 : Mem w0 w64301 (cat [sg g32833 28 (0, 0) [] [v56809, v56813] [], h32817, h56810, h56814, hz63000, h63505, h63509, sg g64003 28 (0, 0) [] [v63503, v63507] [], sg g64101 35 (0, 0) [] [(.int .i64 r63501.2.1.Code), (.int .i64 r63501.2.1.Buffer)] []]) := hm64302
        exact hK _ _ ⟨_, v63503, h63505, v63507, h63509, g64003, g64101, rfl, y0, y1, y2, y3, y4, y5, y6, y7, y8, y9, y10, y11, y14, fun _ => H63504, fun _ => H63508, Mem.gc (A := [sg g32833 28 (0, 0) [] [v56809, v56813] [], h32817, h56810, h56814, hz63000, h63505, h63509, sg g64003 28 (0, 0) [] [v63503, v63507] [], sg g64101 35 (0, 0) [] [(.int .i64 r63501.2.1.Code), (.int .i64 r63501.2.1.Buffer)] []]) (cat_cons rfl (cat_cons rfl (cat_cons rfl (cat_cons rfl (cat_cons rfl (cat_cons (on_ b5 rfl) (cat_cons (on_ b5 rfl) (cat_cons (on_ b12 rfl) (cat_cons (on_ rfl rfl) rfl))))))))) (Mem.pick [0, 1, 2, 3, 4, 5, 6, 7, 8] rfl hm64302)⟩
       ·
        intro b a w hI hbi hn hc K hK
        obtain ⟨vs, v63503, h63505, v63507, h63509, g64003, g64101, ha, y0, y1, y2, y3, y4, y5, y6, y7, y8, y9, y10, y11, y14, H63504, H63508, hm⟩ := hI
        subst ha
        have b0 : b 0 = true := hn 0 (da rfl)
        have b1 : b 1 = true := hn 1 (da rfl)
        have b2 : b 2 = true := hn 2 (da rfl)
        have b3 : b 3 = true := hn 3 (da rfl)
        have b4 : b 4 = true := hn 4 (da rfl)
        have b5 : b 5 = true := hn 5 (da rfl)
        have b6 : b 6 = true := hn 6 (da rfl)
        have b7 : b 7 = true := hn 7 (da rfl)
        have b8 : b 8 = true := hn 8 (da rfl)
        have b9 : b 9 = true := hn 9 (da rfl)
        have b10 : b 10 = true := hn 10 (da rfl)
        have b11 : b 11 = true := hn 11 (da rfl)
        have b12 : b 12 = true := hn 12 (da rfl)
        have b13 : b 13 = true := hn 13 (da rfl)
        have H63504 := H63504 b5
        have H63508 := H63508 b5
        have hm64543 : Mem w0 w (cat [sg g32833 28 (0, 0) [] [v56809, v56813] [], h32817, h56810, h56814, hz63000, h63505, h63509, sg g64003 28 (0, 0) [] [v63503, v63507] [], sg g64101 35 (0, 0) [] [(.int .i64 r63501.2.1.Code), (.int .i64 r63501.2.1.Buffer)] []]) := Mem.pick [0, 1, 2, 3, 4, 5, 6, 7, 8] rfl (Mem.cg (B := [sg g32833 28 (0, 0) [] [v56809, v56813] [], h32817, h56810, h56814, hz63000, h63505, h63509, sg g64003 28 (0, 0) [] [v63503, v63507] [], sg g64101 35 (0, 0) [] [(.int .i64 r63501.2.1.Code), (.int .i64 r63501.2.1.Buffer)] []]) (cat_cons rfl (cat_cons rfl (cat_cons rfl (cat_cons rfl (cat_cons rfl (cat_cons (on_ b5 rfl) (cat_cons (on_ b5 rfl) (cat_cons (on_ b12 rfl) (cat_cons (on_ b13 rfl) rfl))))))))) hm)
        refine e_val (i := 14) hbi rfl rfl (v := (.int .i64 r63501.2.2)) (won rfl) rfl rfl (x_assign rfl (ev (t := 90) (v := (.int .i64 r63501.2.2)) rfl ((sel_on (p := (9, 90)) rfl b9).trans (y9 b9)))) ?_
        exact hK _ _ ⟨_, v63503, h63505, v63507, h63509, g64003, g64101, rfl, y0, y1, y2, y3, y4, y5, y6, y7, y8, y9, y10, y11, fun _ => rfl, fun _ => H63504, fun _ => H63508, Mem.gc (A := [sg g32833 28 (0, 0) [] [v56809, v56813] [], h32817, h56810, h56814, hz63000, h63505, h63509, sg g64003 28 (0, 0) [] [v63503, v63507] [], sg g64101 35 (0, 0) [] [(.int .i64 r63501.2.1.Code), (.int .i64 r63501.2.1.Buffer)] []]) (cat_cons rfl (cat_cons rfl (cat_cons rfl (cat_cons rfl (cat_cons rfl (cat_cons (on_ b5 rfl) (cat_cons (on_ b5 rfl) (cat_cons (on_ b12 rfl) (cat_cons (on_ b13 rfl) rfl))))))))) (Mem.pick [0, 1, 2, 3, 4, 5, 6, 7, 8] rfl hm64543)⟩
       intro b a w hall hI
       obtain ⟨vs, v63503, h63505, v63507, h63509, g64003, g64101, ha, y0, y1, y2, y3, y4, y5, y6, y7, y8, y9, y10, y11, y14, H63504, H63508, hm⟩ := hI
       have b0 : b 0 = true := hall 0 rfl
       have b1 : b 1 = true := hall 1 rfl
       have b2 : b 2 = true := hall 2 rfl
       have b3 : b 3 = true := hall 3 rfl
       have b4 : b 4 = true := hall 4 rfl
       have b5 : b 5 = true := hall 5 rfl
       have b6 : b 6 = true := hall 6 rfl
       have b7 : b 7 = true := hall 7 rfl
       have b8 : b 8 = true := hall 8 rfl
       have b9 : b 9 = true := hall 9 rfl
       have b10 : b 10 = true := hall 10 rfl
       have b11 : b 11 = true := hall 11 rfl
       have b12 : b 12 = true := hall 12 rfl
       have b13 : b 13 = true := hall 13 rfl
       have b14 : b 14 = true := hall 14 rfl
       replace H63504 := H63504 b5
       replace H63508 := H63508 b5
       have hm64546 : Mem w0 w (cat [sg g32833 28 (0, 0) [] [v56809, v56813] [], h32817, h56810, h56814, h63505, h63509, sg g64003 28 (0, 0) [] [v63503, v63507] [], sg g64101 35 (0, 0) [] [(.int .i64 r63501.2.1.Code), (.int .i64 r63501.2.1.Buffer)] [], hz63000]) := Mem.pick [0, 1, 2, 3, 5, 6, 7, 8, 4] rfl (Mem.cg (B := [sg g32833 28 (0, 0) [] [v56809, v56813] [], h32817, h56810, h56814, hz63000, h63505, h63509, sg g64003 28 (0, 0) [] [v63503, v63507] [], sg g64101 35 (0, 0) [] [(.int .i64 r63501.2.1.Code), (.int .i64 r63501.2.1.Buffer)] []]) (cat_cons rfl (cat_cons rfl (cat_cons rfl (cat_cons rfl (cat_cons rfl (cat_cons (on_ b5 rfl) (cat_cons (on_ b5 rfl) (cat_cons (on_ b12 rfl) (cat_cons (on_ b13 rfl) rfl))))))))) hm)
       obtain ⟨f63000, ha', z63000x5, z63000x6, z63000x7, z63000x10, z63000x13, z63000x15, z63000x16, z63000x17, z63000x18⟩ : ∃ f' : Nat → Value, a = fr 156 f' ∧ f' 5 = (.int .i64 (IntKind.wrap .i64 (1 + r32810))) ∧ f' 6 = v32815 ∧ f' 7 = (.pointer (some ⟨g32833, 0, none⟩)) ∧ f' 10 = v32849 ∧ f' 13 = v32873 ∧ f' 15 = (.int .i64 s56819) ∧ f' 16 = (.pointer (some ⟨g64003, 0, none⟩)) ∧ f' 17 = (.pointer (some ⟨g64101, 0, none⟩)) ∧ f' 18 = (.int .i64 r63501.2.2) := ⟨_, ha, (sel_no rfl).trans q56806, (sel_no rfl).trans q56807, (sel_no rfl).trans q56816, (sel_no rfl).trans q56817, (sel_no rfl).trans q56818, (sel_no rfl).trans q56820, (sel_on (p := (10, 16)) rfl b10).trans (y10 b10), (sel_on (p := (11, 17)) rfl b11).trans (y11 b11), (sel_on (p := (14, 18)) rfl b14).trans (y14 b14)⟩
       subst ha'
       subst hze63000
       replace hm64546 : Mem w0 w (cat [sg g32833 28 (0, 0) [] [v56809, v56813] [], h32817, h56810, h56814, h63505, h63509, sg g64003 28 (0, 0) [] [v63503, v63507] [], sg g64101 35 (0, 0) [] [(.int .i64 r63501.2.1.Code), (.int .i64 r63501.2.1.Buffer)] [], h32851, h32875, hF]) := Mem.ung [sg g32833 28 (0, 0) [] [v56809, v56813] [], h32817, h56810, h56814, h63505, h63509, sg g64003 28 (0, 0) [] [v63503, v63507] [], sg g64101 35 (0, 0) [] [(.int .i64 r63501.2.1.Code), (.int .i64 r63501.2.1.Buffer)] []] [h32851, h32875, hF] hm64546
       refine nx ?_
       refine wp_seq ?_
       refine wp_seq ?_
       obtain ⟨hg64562, he⟩ := gdE he
       obtain ⟨hg64563, he⟩ := gdE he
       refine wp_qregion (cat [sg g32833 28 (0, 0) [] [v56809, v56813] [], h32817, h56810, h56814, h63505, h63509, sg g64003 28 (0, 0) [] [v63503, v63507] [], sg g64101 35 (0, 0) [] [(.int .i64 r63501.2.1.Code), (.int .i64 r63501.2.1.Buffer)] [], h32851, h32875, hF]) mixed (by kernel_rfl) hm64546 ?_
       refine q_val (v := (.int .i64 r63501.2.2)) (won rfl) rfl rfl (fun wq hq => (x_move rfl (ev (t := 18) (v := (.int .i64 r63501.2.2)) rfl z63000x18))) ?_
       refine q_val (v := (.bool (!decide (r63501.2.2 = 0)))) (won rfl) rfl rfl (fun wq hq => (x_neq rfl (ev (t := 91) rfl rfl) rfl)) ?_
       refine q_val (v := (.bool (!decide (r63501.2.2 = 0)))) (won rfl) rfl rfl (fun wq hq => (x_move rfl (ev (t := 92) rfl rfl))) ?_
       refine q_cval (p := (!(!decide (r63501.2.2 = 0)))) (v := (.agg #[(.int .i64 r63501.2.1.Code), (.int .i64 r63501.2.1.Buffer)])) (won_f (j := 2) (t := 93) (q := (!decide (r63501.2.2 = 0))) rfl rfl rfl rfl rfl) rfl rfl (fun hp wq hq => (x_loadN (vs := [(.int .i64 r63501.2.1.Code), (.int .i64 r63501.2.1.Buffer)]) rfl tyN_35 (ev (t := 17) (v := (.pointer (some ⟨g64101, 0, none⟩))) rfl z63000x17) (seg_cells (o' := 0) (j := 0) hq (k := 7) rfl rfl rfl))) ?_
       refine q_cval (p := (!(!decide (r63501.2.2 = 0)))) (v := v32849) (won_f (j := 2) (t := 93) (q := (!decide (r63501.2.2 = 0))) rfl rfl rfl rfl rfl) rfl rfl (fun hp wq hq => (x_move rfl (ev (t := 10) (v := v32849) rfl z63000x10))) ?_
       refine q_cval (p := (!(!decide (r63501.2.2 = 0)))) (v := (.int .i64 s56819)) (won_f (j := 2) (t := 93) (q := (!decide (r63501.2.2 = 0))) rfl rfl rfl rfl rfl) rfl rfl (fun hp wq hq => (x_move rfl (ev (t := 15) (v := (.int .i64 s56819)) rfl z63000x15))) ?_
       refine q_cval (p := (!(!decide (r63501.2.2 = 0)))) (v := (.pointer (some ((slA v32849).add (Int.toNat s56819 * 2))))) (won_f (j := 2) (t := 93) (q := (!decide (r63501.2.2 = 0))) rfl rfl rfl rfl rfl) rfl rfl (fun hp wq hq => (x_index (d := impl_PoolReply.K) rfl slt_31 (ev (t := 95) rfl (Eq.trans (b := cv (!(!decide (r63501.2.2 = 0))) v32849) rfl (on_c hp))) (ev (t := 96) rfl (Eq.trans (b := cv (!(!decide (r63501.2.2 = 0))) (.int .i64 s56819)) rfl (on_c hp))) (H32850.rd w0) (hg64562 hp).1 (hg64562 hp).2)) ?_
       refine q_cval (p := (!(!decide (r63501.2.2 = 0)))) (v := (.agg #[(.int .i64 (ix r32839.2.1 s56819).Code), (.int .i64 (ix r32839.2.1 s56819).Buffer)])) (won_f (j := 2) (t := 93) (q := (!decide (r63501.2.2 = 0))) rfl rfl rfl rfl rfl) rfl rfl (fun hp wq hq => (x_loadN (vs := [(.int .i64 (ix r32839.2.1 s56819).Code), (.int .i64 (ix r32839.2.1 s56819).Buffer)]) rfl tyN_35 (ev (t := 97) rfl (Eq.trans (b := cv (!(!decide (r63501.2.2 = 0))) (.pointer (some ((slA v32849).add (Int.toNat s56819 * 2))))) rfl (on_c hp))) (RdF.cells (H32850.rd w0) hq (Sub.at_ (k := 8) rfl) (hg64562 hp).1 (hg64562 hp).2))) ?_
       refine q_cval (p := (!(!decide (r63501.2.2 = 0)))) (v := (.bool (!(decide (r63501.2.1 = (impl_PoolReply.mk (ix r32839.2.1 s56819).Code (ix r32839.2.1 s56819).Buffer)))))) (won_f (j := 2) (t := 93) (q := (!decide (r63501.2.2 = 0))) rfl rfl rfl rfl rfl) rfl rfl (fun hp wq hq => (x_eqb (congrArg (!·) (ae_35 r63501.2.1 (impl_PoolReply.mk (ix r32839.2.1 s56819).Code (ix r32839.2.1 s56819).Buffer))) (x_aneq (ks := [1, 1]) (a := [(.int .i64 r63501.2.1.Code), (.int .i64 r63501.2.1.Buffer)]) (b := [(.int .i64 (ix r32839.2.1 s56819).Code), (.int .i64 (ix r32839.2.1 s56819).Buffer)]) rfl uf_35 st_35 eg_35 pf_35 (ev (t := 94) rfl (Eq.trans (b := cv (!(!decide (r63501.2.2 = 0))) (.agg #[(.int .i64 r63501.2.1.Code), (.int .i64 r63501.2.1.Buffer)])) rfl (on_c hp))) (ev (t := 98) rfl (Eq.trans (b := cv (!(!decide (r63501.2.2 = 0))) (.agg #[(.int .i64 (ix r32839.2.1 s56819).Code), (.int .i64 (ix r32839.2.1 s56819).Buffer)])) rfl (on_c hp))) rfl))) ?_
       refine q_val (v := (.bool ((!decide (r63501.2.2 = 0)) || (!(decide (r63501.2.1 = (impl_PoolReply.mk (ix r32839.2.1 s56819).Code (ix r32839.2.1 s56819).Buffer))))))) (won rfl) rfl rfl (fun wq hq => (x_pick_or rfl (ev (t := 93) rfl rfl) rfl (fun hq => ev rfl (Eq.trans (b := cv (!(!decide (r63501.2.2 = 0))) (.bool (!(decide (r63501.2.1 = (impl_PoolReply.mk (ix r32839.2.1 s56819).Code (ix r32839.2.1 s56819).Buffer)))))) rfl (on_c (not_i hq)))))) ?_
       refine q_val (v := (.bool ((!decide (r63501.2.2 = 0)) || (!(decide (r63501.2.1 = (impl_PoolReply.mk (ix r32839.2.1 s56819).Code (ix r32839.2.1 s56819).Buffer))))))) (won rfl) rfl rfl (fun wq hq => (x_move rfl (ev (t := 100) rfl rfl))) ?_
       refine q_cval (p := (!((!decide (r63501.2.2 = 0)) || (!(decide (r63501.2.1 = (impl_PoolReply.mk (ix r32839.2.1 s56819).Code (ix r32839.2.1 s56819).Buffer))))))) (v := (.agg #[(.int .i64 r63501.2.1.Code), (.int .i64 r63501.2.1.Buffer)])) (won_f (j := 10) (t := 101) (q := ((!decide (r63501.2.2 = 0)) || (!(decide (r63501.2.1 = (impl_PoolReply.mk (ix r32839.2.1 s56819).Code (ix r32839.2.1 s56819).Buffer)))))) rfl rfl rfl rfl rfl) rfl rfl (fun hp wq hq => (x_loadN (vs := [(.int .i64 r63501.2.1.Code), (.int .i64 r63501.2.1.Buffer)]) rfl tyN_35 (ev (t := 17) (v := (.pointer (some ⟨g64101, 0, none⟩))) rfl z63000x17) (seg_cells (o' := 0) (j := 0) hq (k := 7) rfl rfl rfl))) ?_
       refine q_cval (p := (!((!decide (r63501.2.2 = 0)) || (!(decide (r63501.2.1 = (impl_PoolReply.mk (ix r32839.2.1 s56819).Code (ix r32839.2.1 s56819).Buffer))))))) (v := v32873) (won_f (j := 10) (t := 101) (q := ((!decide (r63501.2.2 = 0)) || (!(decide (r63501.2.1 = (impl_PoolReply.mk (ix r32839.2.1 s56819).Code (ix r32839.2.1 s56819).Buffer)))))) rfl rfl rfl rfl rfl) rfl rfl (fun hp wq hq => (x_move rfl (ev (t := 13) (v := v32873) rfl z63000x13))) ?_
       refine q_cval (p := (!((!decide (r63501.2.2 = 0)) || (!(decide (r63501.2.1 = (impl_PoolReply.mk (ix r32839.2.1 s56819).Code (ix r32839.2.1 s56819).Buffer))))))) (v := (.int .i64 s56819)) (won_f (j := 10) (t := 101) (q := ((!decide (r63501.2.2 = 0)) || (!(decide (r63501.2.1 = (impl_PoolReply.mk (ix r32839.2.1 s56819).Code (ix r32839.2.1 s56819).Buffer)))))) rfl rfl rfl rfl rfl) rfl rfl (fun hp wq hq => (x_move rfl (ev (t := 15) (v := (.int .i64 s56819)) rfl z63000x15))) ?_
       refine q_cval (p := (!((!decide (r63501.2.2 = 0)) || (!(decide (r63501.2.1 = (impl_PoolReply.mk (ix r32839.2.1 s56819).Code (ix r32839.2.1 s56819).Buffer))))))) (v := (.pointer (some ((slA v32873).add (Int.toNat s56819 * 2))))) (won_f (j := 10) (t := 101) (q := ((!decide (r63501.2.2 = 0)) || (!(decide (r63501.2.1 = (impl_PoolReply.mk (ix r32839.2.1 s56819).Code (ix r32839.2.1 s56819).Buffer)))))) rfl rfl rfl rfl rfl) rfl rfl (fun hp wq hq => (x_index (d := impl_PoolReply.K) rfl slt_31 (ev (t := 103) rfl (Eq.trans (b := cv (!((!decide (r63501.2.2 = 0)) || (!(decide (r63501.2.1 = (impl_PoolReply.mk (ix r32839.2.1 s56819).Code (ix r32839.2.1 s56819).Buffer)))))) v32873) rfl (on_c hp))) (ev (t := 104) rfl (Eq.trans (b := cv (!((!decide (r63501.2.2 = 0)) || (!(decide (r63501.2.1 = (impl_PoolReply.mk (ix r32839.2.1 s56819).Code (ix r32839.2.1 s56819).Buffer)))))) (.int .i64 s56819)) rfl (on_c hp))) (H32874.rd w0) (hg64563 hp).1 (hg64563 hp).2)) ?_
       refine q_cval (p := (!((!decide (r63501.2.2 = 0)) || (!(decide (r63501.2.1 = (impl_PoolReply.mk (ix r32839.2.1 s56819).Code (ix r32839.2.1 s56819).Buffer))))))) (v := (.agg #[(.int .i64 (ix r32863.2.1 s56819).Code), (.int .i64 (ix r32863.2.1 s56819).Buffer)])) (won_f (j := 10) (t := 101) (q := ((!decide (r63501.2.2 = 0)) || (!(decide (r63501.2.1 = (impl_PoolReply.mk (ix r32839.2.1 s56819).Code (ix r32839.2.1 s56819).Buffer)))))) rfl rfl rfl rfl rfl) rfl rfl (fun hp wq hq => (x_loadN (vs := [(.int .i64 (ix r32863.2.1 s56819).Code), (.int .i64 (ix r32863.2.1 s56819).Buffer)]) rfl tyN_35 (ev (t := 105) rfl (Eq.trans (b := cv (!((!decide (r63501.2.2 = 0)) || (!(decide (r63501.2.1 = (impl_PoolReply.mk (ix r32839.2.1 s56819).Code (ix r32839.2.1 s56819).Buffer)))))) (.pointer (some ((slA v32873).add (Int.toNat s56819 * 2))))) rfl (on_c hp))) (RdF.cells (H32874.rd w0) hq (Sub.at_ (k := 9) rfl) (hg64563 hp).1 (hg64563 hp).2))) ?_
       refine q_cval (p := (!((!decide (r63501.2.2 = 0)) || (!(decide (r63501.2.1 = (impl_PoolReply.mk (ix r32839.2.1 s56819).Code (ix r32839.2.1 s56819).Buffer))))))) (v := (.bool (!(decide (r63501.2.1 = (impl_PoolReply.mk (ix r32863.2.1 s56819).Code (ix r32863.2.1 s56819).Buffer)))))) (won_f (j := 10) (t := 101) (q := ((!decide (r63501.2.2 = 0)) || (!(decide (r63501.2.1 = (impl_PoolReply.mk (ix r32839.2.1 s56819).Code (ix r32839.2.1 s56819).Buffer)))))) rfl rfl rfl rfl rfl) rfl rfl (fun hp wq hq => (x_eqb (congrArg (!·) (ae_35 r63501.2.1 (impl_PoolReply.mk (ix r32863.2.1 s56819).Code (ix r32863.2.1 s56819).Buffer))) (x_aneq (ks := [1, 1]) (a := [(.int .i64 r63501.2.1.Code), (.int .i64 r63501.2.1.Buffer)]) (b := [(.int .i64 (ix r32863.2.1 s56819).Code), (.int .i64 (ix r32863.2.1 s56819).Buffer)]) rfl uf_35 st_35 eg_35 pf_35 (ev (t := 102) rfl (Eq.trans (b := cv (!((!decide (r63501.2.2 = 0)) || (!(decide (r63501.2.1 = (impl_PoolReply.mk (ix r32839.2.1 s56819).Code (ix r32839.2.1 s56819).Buffer)))))) (.agg #[(.int .i64 r63501.2.1.Code), (.int .i64 r63501.2.1.Buffer)])) rfl (on_c hp))) (ev (t := 106) rfl (Eq.trans (b := cv (!((!decide (r63501.2.2 = 0)) || (!(decide (r63501.2.1 = (impl_PoolReply.mk (ix r32839.2.1 s56819).Code (ix r32839.2.1 s56819).Buffer)))))) (.agg #[(.int .i64 (ix r32863.2.1 s56819).Code), (.int .i64 (ix r32863.2.1 s56819).Buffer)])) rfl (on_c hp))) rfl))) ?_
       refine q_val (v := (.bool (((!decide (r63501.2.2 = 0)) || (!(decide (r63501.2.1 = (impl_PoolReply.mk (ix r32839.2.1 s56819).Code (ix r32839.2.1 s56819).Buffer))))) || (!(decide (r63501.2.1 = (impl_PoolReply.mk (ix r32863.2.1 s56819).Code (ix r32863.2.1 s56819).Buffer))))))) (won rfl) rfl rfl (fun wq hq => (x_pick_or rfl (ev (t := 101) rfl rfl) rfl (fun hq => ev rfl (Eq.trans (b := cv (!((!decide (r63501.2.2 = 0)) || (!(decide (r63501.2.1 = (impl_PoolReply.mk (ix r32839.2.1 s56819).Code (ix r32839.2.1 s56819).Buffer)))))) (.bool (!(decide (r63501.2.1 = (impl_PoolReply.mk (ix r32863.2.1 s56819).Code (ix r32863.2.1 s56819).Buffer)))))) rfl (on_c (not_i hq)))))) ?_
       refine wpQuiet_nil ?_
       intro w64564 hm64565
       refine nx ?_
       rcases Bool.eq_false_or_eq_true ((((!decide (r63501.2.2 = 0)) || (!(decide (r63501.2.1 = (impl_PoolReply.mk (ix r32839.2.1 s56819).Code (ix r32839.2.1 s56819).Buffer))))) || (!(decide (r63501.2.1 = (impl_PoolReply.mk (ix r32863.2.1 s56819).Code (ix r32863.2.1 s56819).Buffer)))))) with hb64566 | hb64566
       ·
        replace he := bifT he hb64566
        refine c_true rfl (p := (((!decide (r63501.2.2 = 0)) || (!(decide (r63501.2.1 = (impl_PoolReply.mk (ix r32839.2.1 s56819).Code (ix r32839.2.1 s56819).Buffer))))) || (!(decide (r63501.2.1 = (impl_PoolReply.mk (ix r32863.2.1 s56819).Code (ix r32863.2.1 s56819).Buffer)))))) rfl rfl hb64566 ?_
        refine wp_seq ?_
        refine wp_region_lit ?_
        refine s_val (v := (.bool false)) (won rfl) rfl rfl (x_assign rfl rfl) ?_
        refine wpList_nil ?_
        have hm64567 : Mem w0 w64564 (cat [hF]) := Mem.pick [10] rfl hm64565
        refine nx ?_
        refine wp_ret ?_
        refine xr ?_
        refine rb ?_
        refine xr ?_
        refine xr ?_
        refine rb ?_
        refine xr ?_
        obtain rfl := Option.some.inj he
        replace he := outE hk62822
        obtain rfl := Option.some.inj he
        replace he := outE hk48808
        obtain rfl := Option.some.inj he
        refine r_ret (v := (.bool false)) (rv_one rfl (RVs.tmp (v := (.bool false)) rfl rfl RVs.nil)) rfl ?_
        exact ⟨rfl, Mem.pick [0] rfl hm64567⟩
       ·
        replace he := bifF he hb64566
        refine c_false rfl (p := (((!decide (r63501.2.2 = 0)) || (!(decide (r63501.2.1 = (impl_PoolReply.mk (ix r32839.2.1 s56819).Code (ix r32839.2.1 s56819).Buffer))))) || (!(decide (r63501.2.1 = (impl_PoolReply.mk (ix r32863.2.1 s56819).Code (ix r32863.2.1 s56819).Buffer)))))) rfl rfl hb64566 ?_
        refine wp_skip ?_
        refine nx ?_
        refine wp_seq ?_
        refine wp_seq ?_
        obtain ⟨hg64575, he⟩ := gdE he
        obtain ⟨r64576, hr64576, he⟩ := bindE he
        refine wp_region_lit ?_
        refine s_val (v := v32815) (won rfl) rfl rfl (x_move rfl (ev (t := 6) (v := v32815) rfl z63000x6)) ?_
        refine s_val (v := (.int .i64 s56819)) (won rfl) rfl rfl (x_move rfl (ev (t := 15) (v := (.int .i64 s56819)) rfl z63000x15)) ?_
        refine s_val (v := (.pointer (some ((slA v32815).add (Int.toNat s56819 * 4))))) (won rfl) rfl rfl (x_index (d := impl_PoolAct.K) rfl slt_24 (ev (t := 109) rfl rfl) (ev (t := 110) rfl rfl) (H32816.rd w0) hg64575.1 hg64575.2) ?_
        refine s_val (v := (.pointer (some (((slA v32815).add (Int.toNat s56819 * 4)).add 0)))) (won rfl) rfl rfl (x_fielda rfl fa_39x0 (ev (t := 111) rfl rfl)) ?_
        refine s_val (v := (.int .i64 (ix r32813 s56819).Kind)) (won rfl) rfl rfl (x_load rfl ty1x3 (ev (t := 112) rfl rfl) (RdF.cells (H32816.rd w0) hm64565 (Sub.at_ (k := 1) rfl) hg64575.1 hg64575.2 0 _ rfl)) ?_
        refine s_val (v := (.bool (decide ((ix r32813 s56819).Kind = 1)))) (won rfl) rfl rfl (x_eql rfl (ev (t := 113) rfl rfl) rfl) ?_
        refine s_val (v := (.bool (decide ((ix r32813 s56819).Kind = 1)))) (won rfl) rfl rfl (x_move rfl (ev (t := 114) rfl rfl)) ?_
        refine s_cval (p := (decide ((ix r32813 s56819).Kind = 1))) (v := (.pointer (some ⟨g64101, 0, none⟩))) (won_t (j := 6) (t := 115) (q := (decide ((ix r32813 s56819).Kind = 1))) rfl rfl rfl rfl rfl) rfl rfl (fun hp => (x_field rfl fa_35x0 (ev (t := 17) (v := (.pointer (some ⟨g64101, 0, none⟩))) rfl z63000x17))) ?_
        refine s_cval (p := (decide ((ix r32813 s56819).Kind = 1))) (v := (.int .i64 r63501.2.1.Code)) (won_t (j := 6) (t := 115) (q := (decide ((ix r32813 s56819).Kind = 1))) rfl rfl rfl rfl rfl) rfl rfl (fun hp => (x_load rfl ty1x3 (ev (t := 116) rfl (Eq.trans (b := cv (decide ((ix r32813 s56819).Kind = 1)) (.pointer (some ⟨g64101, 0, none⟩))) rfl (on_c hp))) (seg_cell (o' := 0) (j := 0) hm64565 (k := 7) rfl rfl rfl))) ?_
        refine s_cval (p := (decide ((ix r32813 s56819).Kind = 1))) (v := (.bool (decide (r63501.2.1.Code = 0)))) (won_t (j := 6) (t := 115) (q := (decide ((ix r32813 s56819).Kind = 1))) rfl rfl rfl rfl rfl) rfl rfl (fun hp => (x_eql rfl (ev (t := 117) rfl (Eq.trans (b := cv (decide ((ix r32813 s56819).Kind = 1)) (.int .i64 r63501.2.1.Code)) rfl (on_c hp))) rfl)) ?_
        refine s_val (v := (.bool ((decide ((ix r32813 s56819).Kind = 1)) && (decide (r63501.2.1.Code = 0))))) (won rfl) rfl rfl (x_pick_and rfl (ev (t := 115) rfl rfl) (fun hq => ev rfl (Eq.trans (b := cv (decide ((ix r32813 s56819).Kind = 1)) (.bool (decide (r63501.2.1.Code = 0)))) rfl (on_c hq))) rfl) ?_
        refine s_val (v := (.bool ((decide ((ix r32813 s56819).Kind = 1)) && (decide (r63501.2.1.Code = 0))))) (won rfl) rfl rfl (x_move rfl (ev (t := 119) rfl rfl)) ?_
        refine s_cval (p := ((decide ((ix r32813 s56819).Kind = 1)) && (decide (r63501.2.1.Code = 0)))) (v := (.pointer (some ⟨g32833, 0, none⟩))) (won_t (j := 11) (t := 120) (q := ((decide ((ix r32813 s56819).Kind = 1)) && (decide (r63501.2.1.Code = 0)))) rfl rfl rfl rfl rfl) rfl rfl (fun hp => (x_field rfl fa_28x0 (ev (t := 7) (v := (.pointer (some ⟨g32833, 0, none⟩))) rfl z63000x7))) ?_
        refine s_cval (p := ((decide ((ix r32813 s56819).Kind = 1)) && (decide (r63501.2.1.Code = 0)))) (v := v56809) (won_t (j := 11) (t := 120) (q := ((decide ((ix r32813 s56819).Kind = 1)) && (decide (r63501.2.1.Code = 0)))) rfl rfl rfl rfl rfl) rfl rfl (fun hp => (x_load rfl ty1x26 (ev (t := 121) rfl (Eq.trans (b := cv ((decide ((ix r32813 s56819).Kind = 1)) && (decide (r63501.2.1.Code = 0))) (.pointer (some ⟨g32833, 0, none⟩))) rfl (on_c hp))) (seg_cell (o' := 0) (j := 0) hm64565 (k := 0) rfl rfl rfl))) ?_
        refine s_cval (p := ((decide ((ix r32813 s56819).Kind = 1)) && (decide (r63501.2.1.Code = 0)))) (v := (.pointer (some ⟨g64101, 1, none⟩))) (won_t (j := 11) (t := 120) (q := ((decide ((ix r32813 s56819).Kind = 1)) && (decide (r63501.2.1.Code = 0)))) rfl rfl rfl rfl rfl) rfl rfl (fun hp => (x_field rfl fa_35x1 (ev (t := 17) (v := (.pointer (some ⟨g64101, 0, none⟩))) rfl z63000x17))) ?_
        refine s_cval (p := ((decide ((ix r32813 s56819).Kind = 1)) && (decide (r63501.2.1.Code = 0)))) (v := (.int .i64 r63501.2.1.Buffer)) (won_t (j := 11) (t := 120) (q := ((decide ((ix r32813 s56819).Kind = 1)) && (decide (r63501.2.1.Code = 0)))) rfl rfl rfl rfl rfl) rfl rfl (fun hp => (x_load rfl ty1x3 (ev (t := 123) rfl (Eq.trans (b := cv ((decide ((ix r32813 s56819).Kind = 1)) && (decide (r63501.2.1.Code = 0))) (.pointer (some ⟨g64101, 1, none⟩))) rfl (on_c hp))) (seg_cell (o' := 0) (j := 1) hm64565 (k := 7) rfl rfl rfl))) ?_
        refine s_ccall (p := ((decide ((ix r32813 s56819).Kind = 1)) && (decide (r63501.2.1.Code = 0)))) (v := (.bool r64576)) (J := fun w' => Mem w0 w' (cat [sg g32833 28 (0, 0) [] [v56809, v56813] [], h32817, h56810, h56814, h63505, h63509, sg g64003 28 (0, 0) [] [v63503, v63507] [], sg g64101 35 (0, 0) [] [(.int .i64 r63501.2.1.Code), (.int .i64 r63501.2.1.Buffer)] [], h32851, h32875, hF])) (won_t (j := 11) (t := 120) (q := ((decide ((ix r32813 s56819).Kind = 1)) && (decide (r63501.2.1.Code = 0)))) rfl rfl rfl rfl rfl) rfl rfl (fun hp => (x_call rfl rfl cl_15 (map_lit (map_cons (ev (t := 122) rfl (Eq.trans (b := cv ((decide ((ix r32813 s56819).Kind = 1)) && (decide (r63501.2.1.Code = 0))) v56809) rfl (on_c hp))) (map_cons (ev (t := 124) rfl (Eq.trans (b := cv ((decide ((ix r32813 s56819).Kind = 1)) && (decide (r63501.2.1.Code = 0))) (.int .i64 r63501.2.1.Buffer)) rfl (on_c hp))) map_nil))))) (fun hp => ((laws_has_ok F (hR := (cat [h56810])) (hF := cat [sg g32833 28 (0, 0) [] [v56809, v56813] [], h32817, h56810, h56814, h63505, h63509, sg g64003 28 (0, 0) [] [v63503, v63507] [], sg g64101 35 (0, 0) [] [(.int .i64 r63501.2.1.Code), (.int .i64 r63501.2.1.Buffer)] [], h32851, h32875, hF]) s56808 r63501.2.1.Buffer ((H56811.rd w0).mono (Sub.at_ (k := 0) rfl)) (subc (Sub.at_ (k := 2) rfl) subn) (Mem.one hm64565) (bifT hr64576 hp))).mono fun e w2 h => ⟨h.1, Mem.un h.2⟩) hm64565 ?_
        intro w64577 hm64578
        refine s_cval (p := ((decide ((ix r32813 s56819).Kind = 1)) && (decide (r63501.2.1.Code = 0)))) (v := (.bool (!r64576))) (won_t (j := 11) (t := 120) (q := ((decide ((ix r32813 s56819).Kind = 1)) && (decide (r63501.2.1.Code = 0)))) rfl rfl rfl rfl rfl) rfl rfl (fun hp => (x_not rfl (ev (t := 125) rfl (Eq.trans (b := cv ((decide ((ix r32813 s56819).Kind = 1)) && (decide (r63501.2.1.Code = 0))) (.bool r64576)) rfl (on_c hp))))) ?_
        refine s_val (v := (.bool (((decide ((ix r32813 s56819).Kind = 1)) && (decide (r63501.2.1.Code = 0))) && (!r64576)))) (won rfl) rfl rfl (x_pick_and rfl (ev (t := 120) rfl rfl) (fun hq => ev rfl (Eq.trans (b := cv ((decide ((ix r32813 s56819).Kind = 1)) && (decide (r63501.2.1.Code = 0))) (.bool (!r64576))) rfl (on_c hq))) rfl) ?_
        refine wpList_nil ?_
        have hm64579 : Mem w0 w64577 (cat [sg g32833 28 (0, 0) [] [v56809, v56813] [], h32817, h56810, h56814, h63505, h63509, sg g64003 28 (0, 0) [] [v63503, v63507] [], h32851, h32875, hF]) := Mem.pick [0, 1, 2, 3, 4, 5, 6, 8, 9, 10] rfl hm64578
        refine nx ?_
        rcases Bool.eq_false_or_eq_true ((((decide ((ix r32813 s56819).Kind = 1)) && (decide (r63501.2.1.Code = 0))) && (!r64576))) with hb64580 | hb64580
        ·
         replace he := bifT he hb64580
         refine c_true rfl (p := (((decide ((ix r32813 s56819).Kind = 1)) && (decide (r63501.2.1.Code = 0))) && (!r64576))) rfl rfl hb64580 ?_
         refine wp_seq ?_
         refine wp_region_lit ?_
         refine s_val (v := (.bool false)) (won rfl) rfl rfl (x_assign rfl rfl) ?_
         refine wpList_nil ?_
         have hm64581 : Mem w0 w64577 (cat [hF]) := Mem.pick [9] rfl hm64579
         refine nx ?_
         refine wp_ret ?_
         refine xr ?_
         refine rb ?_
         refine xr ?_
         refine xr ?_
         refine rb ?_
         refine xr ?_
         obtain rfl := Option.some.inj he
         replace he := outE hk62822
         obtain rfl := Option.some.inj he
         replace he := outE hk48808
         obtain rfl := Option.some.inj he
         refine r_ret (v := (.bool false)) (rv_one rfl (RVs.tmp (v := (.bool false)) rfl rfl RVs.nil)) rfl ?_
         exact ⟨rfl, Mem.pick [0] rfl hm64581⟩
        ·
         replace he := bifF he hb64580
         refine c_false rfl (p := (((decide ((ix r32813 s56819).Kind = 1)) && (decide (r63501.2.1.Code = 0))) && (!r64576))) rfl rfl hb64580 ?_
         refine wp_skip ?_
         refine nx ?_
         refine wp_seq ?_
         refine wp_region_lit ?_
         refine s_val (v := (.agg #[v63503, v63507])) (won rfl) rfl rfl (x_loadN (vs := [v63503, v63507]) rfl tyN_28 (ev (t := 16) (v := (.pointer (some ⟨g64003, 0, none⟩))) rfl z63000x16) (seg_cells (o' := 0) (j := 0) hm64579 (k := 6) rfl rfl rfl)) ?_
         refine s_exs (won rfl) rfl (e_store (vs := [v63503, v63507]) (o' := 0) (j := 0) rfl sz_28 (ev (t := 7) (v := (.pointer (some ⟨g32833, 0, none⟩))) rfl z63000x7) (ev (t := 128) rfl rfl) rfl (one_cons (IsSl.one (H63504).sl) (one_cons (IsSl.one (H63508).sl) one_nil)) hm64579 (k := 0) rfl rfl rfl) ?_
         intro w64582 hm64583
         replace hm64583 : Mem w0 w64582 (cat [sg g32833 28 (0, 0) [] [v63503, v63507] [], h32817, h56810, h56814, h63505, h63509, sg g64003 28 (0, 0) [] [v63503, v63507] [], h32851, h32875, hF]) := hm64583
         refine wpList_nil ?_
         have hm64584 : Mem w0 w64582 (cat [sg g32833 28 (0, 0) [] [v63503, v63507] [], h32817, h63505, h63509, h32851, h32875, hF]) := Mem.pick [0, 1, 4, 5, 7, 8, 9] rfl hm64583
         refine nx ?_
         refine wp_seq ?_
         refine wp_region_lit ?_
         refine s_val (v := (.pointer (some ⟨g32833, 0, none⟩))) (won rfl) rfl rfl (x_field rfl fa_28x0 (ev (t := 7) (v := (.pointer (some ⟨g32833, 0, none⟩))) rfl z63000x7)) ?_
         refine s_val (v := v63503) (won rfl) rfl rfl (x_load rfl ty1x26 (ev (t := 129) rfl rfl) (seg_cell (o' := 0) (j := 0) hm64584 (k := 0) rfl rfl rfl)) ?_
         refine s_val (v := (.int .i64 (r63501.1.Free.length : Int))) (won rfl) rfl rfl (x_len rfl slt_26 (ev (t := 130) rfl rfl) (H63504).sl) ?_
         refine s_val (v := (.int .i64 (r63501.1.Free.length : Int))) (won rfl) rfl rfl (x_assign rfl (ev (t := 131) rfl rfl)) ?_
         refine wpList_nil ?_
         refine nx ?_
         obtain ⟨l64694, hT64696, hk64695⟩ := bindE he
         replace he := hT64696
         refine wp_seqJ (fun a w => ∃ (s64693 : (Int)) (f : Nat → Value), l64694 = Fl.go s64693 ∧ a = fr 156 f ∧ f 5 = (.int .i64 (IntKind.wrap .i64 (1 + r32810))) ∧ f 6 = v32815 ∧ f 7 = (.pointer (some ⟨g32833, 0, none⟩)) ∧ f 10 = v32849 ∧ f 13 = v32873 ∧ f 15 = (.int .i64 s56819) ∧ f 19 = (.int .i64 s64693) ∧ Mem w0 w (cat [sg g32833 28 (0, 0) [] [v63503, v63507] [], h32817, h63505, h63509, h32851, h32875, hF])) ?_ ?_
         ·
          refine wp_seq ?_
          refine wp_region_lit ?_
          refine s_val (v := (.int .i64 0)) (won rfl) rfl rfl (x_assign rfl rfl) ?_
          refine wpList_nil ?_
          refine nx ?_
          refine wp_block ?_
          refine wp_fuel (I := fun k => fun a w => ∃ (s64737 : Int) (s64739 : Int) (f : Nat → Value), laws_FnPool_l2 F r63501 k s64737 s64739 = some l64694 ∧ a = fr 156 f ∧ f 5 = (.int .i64 (IntKind.wrap .i64 (1 + r32810))) ∧ f 6 = v32815 ∧ f 7 = (.pointer (some ⟨g32833, 0, none⟩)) ∧ f 10 = v32849 ∧ f 13 = v32873 ∧ f 15 = (.int .i64 s56819) ∧ f 19 = (.int .i64 s64737) ∧ f 20 = (.int .i64 s64739) ∧ Mem w0 w (cat [sg g32833 28 (0, 0) [] [v63503, v63507] [], h32817, h63505, h63509, h32851, h32875, hF])) F _ _ ⟨(r63501.1.Free.length : Int), 0, _, he, rfl, z63000x5, z63000x6, z63000x7, z63000x10, z63000x13, z63000x15, rfl, rfl, Mem.pick [0, 1, 2, 3, 4, 5, 6] rfl hm64584⟩ ?_ ?_
          ·
           rintro a w ⟨s64737, s64739, f, he, rfl, q64731, q64732, q64733, q64734, q64735, q64736, q64738, q64740, hm64768⟩
           rw [laws_FnPool_l2] at he; exact none_no he
          ·
           rintro k a w ⟨s64737, s64739, f, he, rfl, q64731, q64732, q64733, q64734, q64735, q64736, q64738, q64740, hm64770⟩
           rw [laws_FnPool_l2] at he
           refine wp_seq ?_
           refine wp_seq ?_
           refine wp_region_lit ?_
           refine s_val (v := (.int .i64 s64739)) (won rfl) rfl rfl (x_move rfl (ev (t := 20) (v := (.int .i64 s64739)) rfl q64740)) ?_
           refine s_val (v := (.bool (decide (s64739 < 6)))) (won rfl) rfl rfl (x_lss rfl (ev (t := 132) rfl rfl) rfl) ?_
           refine wpList_nil ?_
           refine nx ?_
           rcases Bool.eq_false_or_eq_true ((decide (s64739 < 6))) with hb64772 | hb64772
           ·
            replace he := bifT he hb64772
            refine c_true rfl (p := (decide (s64739 < 6))) rfl rfl hb64772 ?_
            refine wp_skip ?_
            refine nx ?_
            refine wp_seq ?_
            refine wp_block ?_
            refine wp_seq ?_
            obtain ⟨r64785, hr64785, he⟩ := bindE he
            refine wp_region_lit ?_
            refine s_val (v := (.agg #[v63503, v63507])) (won rfl) rfl rfl (x_loadN (vs := [v63503, v63507]) rfl tyN_28 (ev (t := 7) (v := (.pointer (some ⟨g32833, 0, none⟩))) rfl q64733) (seg_cells (o' := 0) (j := 0) hm64770 (k := 0) rfl rfl rfl)) ?_
            refine s_val (v := (.int .i64 s64739)) (won rfl) rfl rfl (x_move rfl (ev (t := 20) (v := (.int .i64 s64739)) rfl q64740)) ?_
            refine s_call (won rfl) rfl rfl (x_call rfl rfl cl_16 (map_lit (map_cons (ev (t := 137) rfl rfl) (map_cons (ev (t := 138) rfl rfl) map_nil)))) (impl_PoolHeld_ok F (hR := (cat [h63505, h63509])) (hF := cat [sg g32833 28 (0, 0) [] [v63503, v63507] [], h32817, h63505, h63509, h32851, h32875, hF]) r63501.1 s64739 ((H63504.rd w0).mono (Sub.at_ (k := 0) rfl)) ((H63508.rd w0).mono (Sub.at_ (k := 1) rfl)) (subc (Sub.at_ (k := 2) rfl) (subc (Sub.at_ (k := 3) rfl) subn)) (Mem.one hm64770) hr64785) ?_
            rintro e w64790 ⟨v64787, h64789, rfl, H64788, hm64791⟩
            refine ⟨_, rfl, ?_⟩
            replace hm64791 : Mem w0 w64790 (cat [h64789, sg g32833 28 (0, 0) [] [v63503, v63507] [], h32817, h63505, h63509, h32851, h32875, hF]) := Mem.ung [h64789] [sg g32833 28 (0, 0) [] [v63503, v63507] [], h32817, h63505, h63509, h32851, h32875, hF] hm64791
            refine s_val (v := (.tuple #[v64787, (.int .i64 r64785.2)])) (won rfl) rfl rfl (x_move rfl (ev (t := 139) rfl rfl)) ?_
            refine s_val (v := v64787) (won rfl) rfl rfl (x_extract rfl (ev (t := 136) rfl rfl) rfl) ?_
            refine s_val (v := (.int .i64 r64785.2)) (won rfl) rfl rfl (x_extract rfl (ev (t := 136) rfl rfl) rfl) ?_
            refine s_val (v := v64787) (won rfl) rfl rfl (x_assign rfl (ev (t := 140) rfl rfl)) ?_
            refine s_val (v := (.int .i64 r64785.2)) (won rfl) rfl rfl (x_assign rfl (ev (t := 141) rfl rfl)) ?_
            refine wpList_nil ?_
            refine nx ?_
            refine wp_seq ?_
            refine wp_seq ?_
            refine wp_region_lit ?_
            refine s_val (v := (.int .i64 r64785.2)) (won rfl) rfl rfl (x_move rfl (ev (t := 22) rfl rfl)) ?_
            refine s_val (v := (.bool (!decide (r64785.2 = 0)))) (won rfl) rfl rfl (x_neq rfl (ev (t := 142) rfl rfl) rfl) ?_
            refine wpList_nil ?_
            refine nx ?_
            rcases Bool.eq_false_or_eq_true ((!decide (r64785.2 = 0))) with hb64794 | hb64794
            ·
             replace he := bifT he hb64794
             refine c_true rfl (p := (!decide (r64785.2 = 0))) rfl rfl hb64794 ?_
             refine wp_seq ?_
             refine wp_region_lit ?_
             refine s_val (v := (.bool false)) (won rfl) rfl rfl (x_assign rfl rfl) ?_
             refine wpList_nil ?_
             have hm64795 : Mem w0 w64790 (cat [hF]) := Mem.pick [7] rfl hm64791
             refine nx ?_
             refine wp_ret ?_
             refine xr ?_
             refine rb ?_
             refine xr ?_
             refine xr ?_
             refine rb ?_
             refine xr ?_
             refine rb ?_
             refine xr ?_
             refine xr ?_
             refine rb ?_
             refine xr ?_
             obtain rfl := Option.some.inj he
             replace he := outE hk64695
             obtain rfl := Option.some.inj he
             replace he := outE hk62822
             obtain rfl := Option.some.inj he
             replace he := outE hk48808
             obtain rfl := Option.some.inj he
             refine r_ret (v := (.bool false)) (rv_one rfl (RVs.tmp (v := (.bool false)) rfl rfl RVs.nil)) rfl ?_
             exact ⟨rfl, Mem.pick [0] rfl hm64795⟩
            ·
             replace he := bifF he hb64794
             refine c_false rfl (p := (!decide (r64785.2 = 0))) rfl rfl hb64794 ?_
             refine wp_skip ?_
             refine nx ?_
             refine wp_region_lit ?_
             refine s_val (v := (.int .i64 s64737)) (won rfl) rfl rfl (x_move rfl (ev (t := 19) (v := (.int .i64 s64737)) rfl q64738)) ?_
             refine s_val (v := v64787) (won rfl) rfl rfl (x_move rfl (ev (t := 21) rfl rfl)) ?_
             refine s_val (v := (.int .i64 (r64785.1.length : Int))) (won rfl) rfl rfl (x_len rfl slt_26 (ev (t := 145) rfl rfl) (H64788).sl) ?_
             refine s_val (v := (.int .i64 (IntKind.wrap .i64 (s64737 + (r64785.1.length : Int))))) (won rfl) rfl rfl (x_add rfl (ev (t := 144) rfl rfl) (ev (t := 146) rfl rfl)) ?_
             refine s_val (v := (.int .i64 (IntKind.wrap .i64 (s64737 + (r64785.1.length : Int))))) (won rfl) rfl rfl (x_assign rfl (ev (t := 147) rfl rfl)) ?_
             refine wpList_nil ?_
             have hm64796 : Mem w0 w64790 (cat [sg g32833 28 (0, 0) [] [v63503, v63507] [], h32817, h63505, h63509, h32851, h32875, hF]) := Mem.pick [1, 2, 3, 4, 5, 6, 7] rfl hm64791
             refine nb ?_
             refine nx ?_
             refine wp_region_lit ?_
             refine s_val (v := (.int .i64 s64739)) (won rfl) rfl rfl (x_move rfl (ev (t := 20) (v := (.int .i64 s64739)) rfl q64740)) ?_
             refine s_val (v := (.int .i64 (IntKind.wrap .i64 (s64739 + 1)))) (won rfl) rfl rfl (x_add rfl (ev (t := 134) rfl rfl) rfl) ?_
             refine s_val (v := (.int .i64 (IntKind.wrap .i64 (s64739 + 1)))) (won rfl) rfl rfl (x_assign rfl (ev (t := 135) rfl rfl)) ?_
             refine wpList_nil ?_
             refine nx ?_
             exact ⟨(IntKind.wrap .i64 (s64737 + (r64785.1.length : Int))), (IntKind.wrap .i64 (s64739 + 1)), _, he, rfl, q64731, q64732, q64733, q64734, q64735, q64736, rfl, rfl, Mem.pick [0, 1, 2, 3, 4, 5, 6] rfl hm64796⟩
           ·
            replace he := bifF he hb64772
            refine c_false rfl (p := (decide (s64739 < 6))) rfl rfl hb64772 ?_
            refine wp_exit ?_
            refine xs ?_
            refine xs ?_
            refine xb ?_
            refine nx ?_
            obtain rfl := Option.some.inj he
            exact ⟨s64737, _, rfl, rfl, q64731, q64732, q64733, q64734, q64735, q64736, q64738, Mem.pick [0, 1, 2, 3, 4, 5, 6] rfl hm64770⟩
         ·
          rintro a w ⟨s64693, f, rfl, rfl, q64685, q64686, q64687, q64688, q64689, q64690, q64692, hm64798⟩
          replace he := goE hk64695
          refine wp_seq ?_
          obtain ⟨r64799, hr64799, he⟩ := bindE he
          refine wp_region_lit ?_
          refine s_val (v := (.int .i64 s64693)) (won rfl) rfl rfl (x_move rfl (ev (t := 19) (v := (.int .i64 s64693)) rfl q64692)) ?_
          refine s_val (v := (.int .i64 (IntKind.wrap .i64 (1 + r32810)))) (won rfl) rfl rfl (x_move rfl (ev (t := 5) (v := (.int .i64 (IntKind.wrap .i64 (1 + r32810)))) rfl q64685)) ?_
          refine s_val (v := (.bool (!decide (s64693 = (IntKind.wrap .i64 (1 + r32810)))))) (won rfl) rfl rfl (x_neq rfl (ev (t := 148) rfl rfl) (ev (t := 149) rfl rfl)) ?_
          refine s_val (v := (.bool (!decide (s64693 = (IntKind.wrap .i64 (1 + r32810)))))) (won rfl) rfl rfl (x_move rfl (ev (t := 150) rfl rfl)) ?_
          refine s_cval (p := (!(!decide (s64693 = (IntKind.wrap .i64 (1 + r32810)))))) (v := (.agg #[v63503, v63507])) (won_f (j := 3) (t := 151) (q := (!decide (s64693 = (IntKind.wrap .i64 (1 + r32810))))) rfl rfl rfl rfl rfl) rfl rfl (fun hp => (x_loadN (vs := [v63503, v63507]) rfl tyN_28 (ev (t := 7) (v := (.pointer (some ⟨g32833, 0, none⟩))) rfl q64687) (seg_cells (o' := 0) (j := 0) hm64798 (k := 0) rfl rfl rfl))) ?_
          refine s_ccall (p := (!(!decide (s64693 = (IntKind.wrap .i64 (1 + r32810)))))) (v := (.bool r64799)) (J := fun w' => Mem w0 w' (cat [sg g32833 28 (0, 0) [] [v63503, v63507] [], h32817, h63505, h63509, h32851, h32875, hF])) (won_f (j := 3) (t := 151) (q := (!decide (s64693 = (IntKind.wrap .i64 (1 + r32810))))) rfl rfl rfl rfl rfl) rfl rfl (fun hp => (x_call rfl rfl cl_17 (map_lit (map_cons (ev (t := 152) rfl (Eq.trans (b := cv (!(!decide (s64693 = (IntKind.wrap .i64 (1 + r32810))))) (.agg #[v63503, v63507])) rfl (on_c hp))) map_nil)))) (fun hp => ((impl_PoolOK_ok F (hR := (cat [h63505, h63509])) (hF := cat [sg g32833 28 (0, 0) [] [v63503, v63507] [], h32817, h63505, h63509, h32851, h32875, hF]) r63501.1 ((H63504.rd w0).mono (Sub.at_ (k := 0) rfl)) ((H63508.rd w0).mono (Sub.at_ (k := 1) rfl)) (subc (Sub.at_ (k := 2) rfl) (subc (Sub.at_ (k := 3) rfl) subn)) (Mem.one hm64798) (bifT hr64799 hp))).mono fun e w2 h => ⟨h.1, Mem.un h.2⟩) hm64798 ?_
          intro w64800 hm64801
          refine s_cval (p := (!(!decide (s64693 = (IntKind.wrap .i64 (1 + r32810)))))) (v := (.bool (!r64799))) (won_f (j := 3) (t := 151) (q := (!decide (s64693 = (IntKind.wrap .i64 (1 + r32810))))) rfl rfl rfl rfl rfl) rfl rfl (fun hp => (x_not rfl (ev (t := 153) rfl (Eq.trans (b := cv (!(!decide (s64693 = (IntKind.wrap .i64 (1 + r32810))))) (.bool r64799)) rfl (on_c hp))))) ?_
          refine s_val (v := (.bool ((!decide (s64693 = (IntKind.wrap .i64 (1 + r32810)))) || (!r64799)))) (won rfl) rfl rfl (x_pick_or rfl (ev (t := 151) rfl rfl) rfl (fun hq => ev rfl (Eq.trans (b := cv (!(!decide (s64693 = (IntKind.wrap .i64 (1 + r32810))))) (.bool (!r64799))) rfl (on_c (not_i hq))))) ?_
          refine wpList_nil ?_
          refine nx ?_
          rcases Bool.eq_false_or_eq_true (((!decide (s64693 = (IntKind.wrap .i64 (1 + r32810)))) || (!r64799))) with hb64802 | hb64802
          ·
           replace he := bifT he hb64802
           refine c_true rfl (p := ((!decide (s64693 = (IntKind.wrap .i64 (1 + r32810)))) || (!r64799))) rfl rfl hb64802 ?_
           refine wp_seq ?_
           refine wp_region_lit ?_
           refine s_val (v := (.bool false)) (won rfl) rfl rfl (x_assign rfl rfl) ?_
           refine wpList_nil ?_
           have hm64803 : Mem w0 w64800 (cat [hF]) := Mem.pick [6] rfl hm64801
           refine nx ?_
           refine wp_ret ?_
           refine rb ?_
           refine xr ?_
           refine xr ?_
           refine rb ?_
           refine xr ?_
           obtain rfl := Option.some.inj he
           replace he := outE hk62822
           obtain rfl := Option.some.inj he
           replace he := outE hk48808
           obtain rfl := Option.some.inj he
           refine r_ret (v := (.bool false)) (rv_one rfl (RVs.tmp (v := (.bool false)) rfl rfl RVs.nil)) rfl ?_
           exact ⟨rfl, Mem.pick [0] rfl hm64803⟩
          ·
           replace he := bifF he hb64802
           refine c_false rfl (p := ((!decide (s64693 = (IntKind.wrap .i64 (1 + r32810)))) || (!r64799))) rfl rfl hb64802 ?_
           refine wp_skip ?_
           refine nb ?_
           refine nx ?_
           obtain rfl := Option.some.inj he
           exact ⟨(r63501.1.Free, r63501.1.Owner), v63503, h63505, v63507, h63509, _, rfl, rfl, q64685, q64686, q64687, q64688, q64689, q64690, H63504, H63508, Mem.pick [0, 1, 2, 3, 4, 5, 6] rfl hm64801⟩
      ·
       rintro a w ⟨s62820, v62808, h62809, v62813, h62814, f, rfl, rfl, q62804, q62805, q62816, q62817, q62818, q62819, H62810, H62815, hm64805⟩
       replace he := goE hk62822
       refine wp_region_lit ?_
       refine s_val (v := (.int .i64 s56819)) (won rfl) rfl rfl (x_move rfl (ev (t := 15) (v := (.int .i64 s56819)) rfl q62819)) ?_
       refine s_val (v := (.int .i64 (IntKind.wrap .i64 (s56819 + 1)))) (won rfl) rfl rfl (x_add rfl (ev (t := 79) rfl rfl) rfl) ?_
       refine s_val (v := (.int .i64 (IntKind.wrap .i64 (s56819 + 1)))) (won rfl) rfl rfl (x_assign rfl (ev (t := 80) rfl rfl)) ?_
       refine wpList_nil ?_
       refine nx ?_
       exact ⟨s62820.1, s62820.2, (IntKind.wrap .i64 (s56819 + 1)), v62808, h62809, v62813, h62814, _, he, rfl, q62804, q62805, q62816, q62817, q62818, rfl, H62810, H62815, Mem.pick [0, 1, 2, 3, 4, 5, 6] rfl hm64805⟩
     ·
      replace he := bifF he hb60811
      refine c_false rfl (p := (decide (s56819 < (r32813.length : Int)))) rfl rfl hb60811 ?_
      refine wp_exit ?_
      refine xs ?_
      refine xs ?_
      refine xb ?_
      refine nx ?_
      obtain rfl := Option.some.inj he
      exact ⟨(), _, rfl, rfl, Mem.pick [6] rfl hm60809⟩
   ·
    rintro a w ⟨s48806, f, rfl, rfl, hm64807⟩
    replace he := goE hk48808
    refine wp_seq ?_
    refine wp_region_lit ?_
    refine s_val (v := (.bool true)) (won rfl) rfl rfl (x_assign rfl rfl) ?_
    refine wpList_nil ?_
    refine nx ?_
    refine wp_ret ?_
    obtain rfl := Option.some.inj he
    refine r_ret (v := (.bool true)) (rv_one rfl (RVs.tmp (v := (.bool true)) rfl rfl RVs.nil)) rfl ?_
    exact ⟨rfl, Mem.pick [0] rfl hm64807⟩
end Go.Proofs.Ytpkdolmbhfmjcaa.FnPool
